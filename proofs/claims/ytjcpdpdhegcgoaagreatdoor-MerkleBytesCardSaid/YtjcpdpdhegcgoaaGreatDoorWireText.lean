/- Readers: Count of the reference; Text, Hash, Bool, End of both programs. -/
import Derived.Test.YtjcpdpdhegcgoaaGreatDoorWireCount
namespace Go.Proofs.YtjcpdpdhegcgoaaGreatDoor
open Go.RowKit
set_option linter.unusedVariables false


theorem rNumber_s (r : Rd) (k : Int) : (rNumber r k).1.s = r.s := by
  unfold rNumber
  split
  · split
    · rfl
    · split
      · rfl
      · split <;> rfl
  · rfl
theorem rCount_s (r : Rd) (k : Int) : (rCount r k).1.s = r.s := by
  unfold rCount
  split
  · split
    · split
      · rfl
      · exact rNumber_s r 4
    · exact rNumber_s r 4
  · rfl
theorem rBytes_s (r : Rd) (k : Int) : (rBytes r k).1.s = r.s := by
  unfold rBytes
  split
  · split
    · rfl
    · split <;> rfl
  · rfl
theorem rBytes_err (r : Rd) (k : Int) (h : ¬ (rBytes r k).1.err = 0) : (rBytes r k).2 = ByteArray.empty := by
  unfold rBytes at *
  split
  · split
    · rfl
    · split
      · rfl
      · rename_i a b c
        rw [if_pos a, if_neg b, if_neg c] at h
        exact absurd rfl h
  · rfl
theorem rCount_le {r : Rd} (hr : r.ok) (k : Int) : 0 ≤ (rCount r k).2 ∧ (rCount r k).2 < 4294967296 := by
  unfold rCount
  split
  · rename_i he
    rcases rNumber4 hr he with ⟨h1, h2⟩ | ⟨ee, h1, h2⟩
    · rw [h1, if_pos rfl]
      split <;> simp <;> omega
    · rw [h2, if_neg (by simpa using h1)]
      simp
  · simp
theorem rCount_err (r : Rd) (k : Int) (h : ¬ (rCount r k).1.err = 0) (he : r.err = 0) : rBytes (rCount r k).1 (rCount r k).2 = ((rCount r k).1, ByteArray.empty) := by
  unfold rBytes
  rw [if_neg h]
def rText (r : Rd) (most : Int) : Rd × ByteArray :=
  if r.err = 0 then
    if (rBytes (rCount r most).1 (rCount r most).2).1.err = 0 then rBytes (rCount r most).1 (rCount r most).2
    else (⟨r.s, r.pos, (rBytes (rCount r most).1 (rCount r most).2).1.err⟩, .empty)
  else (r, .empty)
theorem rText_ok {r : Rd} (h : r.ok) (k : Int) : (rText r k).1.ok := by
  unfold rText
  split
  · split
    · exact rBytes_ok (rCount_ok h k) _
    · exact h
  · exact h

theorem text_any {b : Nat} {r : Rd} {w : World} (h : OwnR w b r) (hr : r.ok) (most : Int) (hmost : most ≤ 9223372036854775807) :
    Calls Tryz.prog 63 #[.pointer (some ⟨b, 0, none⟩), .int .i64 most] w fun e w' => e = .returned (.string (rText r most).2) ∧ OwnR w' b (rText r most).1 ∧ Fr (· = b) w w' := by
  by_cases he : r.err = 0
  · have hC := count_any h hr most hmost
    have hB := fun ww (hh : OwnR ww b (rCount r most).1) => bytes_any hh (rCount_ok hr most) (rCount r most).2 (by have := rCount_le hr most; omega)
    have hT : rText r most = if (rBytes (rCount r most).1 (rCount r most).2).1.err = 0 then rBytes (rCount r most).1 (rCount r most).2
      else (⟨r.s, r.pos, (rBytes (rCount r most).1 (rCount r most).2).1.err⟩, .empty) := if_pos he
    have hs := rBytes_s (rCount r most).1 (rCount r most).2
    rw [rCount_s] at hs
    have hem := rBytes_err (rCount r most).1 (rCount r most).2
    obtain ⟨cn, hcn⟩ : ∃ cn, (rCount r most).2 = cn := ⟨_, rfl⟩
    obtain ⟨q, hq⟩ : ∃ q, (rCount r most).1 = q := ⟨_, rfl⟩
    simp only [hq, hcn] at hC hB hT hs hem
    obtain ⟨⟨s1, p1, e1⟩, hp⟩ : ∃ p, (rBytes q cn).1 = p := ⟨_, rfl⟩
    obtain ⟨t, ht⟩ : ∃ t, (rBytes q cn).2 = t := ⟨_, rfl⟩
    rw [hp] at hs
    rw [hp, ht] at hem
    simp only [hp, ht] at hB
    have hpt : rBytes q cn = (⟨s1, p1, e1⟩, t) := by rw [← hp, ← ht]
    rw [hpt] at hT
    clear hq hcn hp ht hpt
    obtain ⟨s, pos, err⟩ := r
    simp only at he
    subst he
    simp only at hs hT hem
    subst hs
    obtain ⟨g0, g1, g2, g3, g4, g5⟩ := Own.three h
    have HC := Lib.hid hC
    have HB := Lib.hid hB
    clear hC hB
    by_cases h1 : e1 = 0
    · subst h1
      rw [if_pos rfl] at hT
      have HT := Lib.hid hT
      clear hT hem
      go_enter Tryz.func63, Tryz.ntmps63
      go_wp2_with (first | (go_at_call 65; first | (apply Calls.mono; (apply ok_zero; with_reducible assumption; exact rfl); rintro e wq ⟨rfl, rfl⟩) | (apply Calls.mono; (apply ok_some; with_reducible assumption; (first | assumption | (show _ = _; simp))); rintro e wq ⟨rfl, rfl⟩)) | (go_at_call 62; refine HC.out.mono ?_; rintro e w1 ⟨rfl, ho, hf⟩) | (go_at_call 85; refine (HB.out _ ho).mono ?_; rintro e w2 ⟨rfl, ho2, hf2⟩) | (go_at_call 86; refine (back_zero ho2 rfl _).mono ?_; rintro e w3 ⟨rfl, rfl⟩))
      go_ret
      rw [HT.out]
      exact ⟨rfl, ho2, by repeat (first | with_reducible exact Fr.refl _ _ | with_reducible assumption | with_reducible refine Fr.drew ?_ | with_reducible refine Fr.drewN ?_ _ | with_reducible refine Fr.alloc ?_ _ | with_reducible refine Fr.set ?_ (by first | exact fun _ => rfl | (intro hlt; exfalso; simp at hlt; try omega) | (simp; omega)) _ | with_reducible refine Fr.new_ ?_ (by assumption) | with_reducible refine Fr.trans ?_ (by with_reducible assumption) (fun _ _ e => e))⟩
    · rw [if_neg h1] at hT
      obtain rfl := hem h1
      have hz : (e1 == 0) = false := by rw [beq_eq_false_iff_ne]; exact h1
      have HT := Lib.hid hT
      clear hT hem h1
      go_enter Tryz.func63, Tryz.ntmps63
      go_wp2_with (first | (go_at_call 65; first | (apply Calls.mono; (apply ok_zero; with_reducible assumption; exact rfl); rintro e wq ⟨rfl, rfl⟩) | (apply Calls.mono; (apply ok_some; with_reducible assumption; (first | assumption | (show _ = _; simp))); rintro e wq ⟨rfl, rfl⟩)) | (go_at_call 62; refine HC.out.mono ?_; rintro e w1 ⟨rfl, ho, hf⟩) | (go_at_call 85; refine (HB.out _ ho).mono ?_; rintro e w2 ⟨rfl, ho2, hf2⟩) | (go_at_call 86; refine (back_some ho2 hz _).mono ?_; rintro e w3 ⟨rfl, ho3, hf3⟩))
      go_ret
      rw [HT.out]
      exact ⟨rfl, ho3, by repeat (first | with_reducible exact Fr.refl _ _ | with_reducible assumption | with_reducible refine Fr.drew ?_ | with_reducible refine Fr.drewN ?_ _ | with_reducible refine Fr.alloc ?_ _ | with_reducible refine Fr.set ?_ (by first | exact fun _ => rfl | (intro hlt; exfalso; simp at hlt; try omega) | (simp; omega)) _ | with_reducible refine Fr.new_ ?_ (by assumption) | with_reducible refine Fr.trans ?_ (by with_reducible assumption) (fun _ _ e => e))⟩
  · have hz : (r.err == 0) = false := by rw [beq_eq_false_iff_ne]; exact he
    have HT : Hid (rText r most = (r, .empty)) := if_neg he
    clear he
    obtain ⟨g0, g1, g2, g3, g4, g5⟩ := Own.three h
    go_enter Tryz.func63, Tryz.ntmps63
    go_wp2
    go_ret
    rw [HT.out]
    exact ⟨rfl, h, by repeat (first | with_reducible exact Fr.refl _ _ | with_reducible assumption | with_reducible refine Fr.drew ?_ | with_reducible refine Fr.drewN ?_ _ | with_reducible refine Fr.alloc ?_ _ | with_reducible refine Fr.set ?_ (by first | exact fun _ => rfl | (intro hlt; exfalso; simp at hlt; try omega) | (simp; omega)) _ | with_reducible refine Fr.new_ ?_ (by assumption))⟩
end Go.Proofs.YtjcpdpdhegcgoaaGreatDoor
