/- Readers: Count, Text, Hash, Bool, End of both programs. -/
import Derived.Test.YtjcpdpdhegcgoaaGreatDoorWireRefGet
namespace Go.Proofs.YtjcpdpdhegcgoaaGreatDoor
open Go.RowKit
set_option linter.unusedVariables false

def rCount (r : Rd) (most : Int) : Rd × Int :=
  if r.err = 0 then
    if (rNumber r 4).1.err = 0 then
      if most < 0 ∨ most < (rNumber r 4).2 then (r.withErr 3, 0) else ((rNumber r 4).1, (rNumber r 4).2)
    else ((rNumber r 4).1, 0)
  else (r, 0)
theorem rCount_ok {r : Rd} (h : r.ok) (k : Int) : (rCount r k).1.ok := by
  unfold rCount
  split
  · split
    · split
      · exact h
      · exact rNumber_ok h 4
    · exact rNumber_ok h 4
  · exact h
theorem ok_bool {b : Nat} {r : Rd} {w : World} (h : OwnR w b r) : Calls Tryz.prog 65 #[.pointer (some ⟨b, 0, none⟩)] w fun e w' => e = .returned (.bool (decide (r.err = 0))) ∧ w = w' := by
  by_cases hz : r.err = 0
  · refine (ok_zero h hz).mono ?_
    rintro e w1 ⟨rfl, rfl⟩
    simp [hz]
  · refine (ok_some h (by rw [beq_eq_false_iff_ne]; exact hz)).mono ?_
    rintro e w1 ⟨rfl, rfl⟩
    simp [hz]

theorem count_any {b : Nat} {r : Rd} {w : World} (h : OwnR w b r) (hr : r.ok) (most : Int) (hmost : most ≤ 9223372036854775807) :
    Calls Tryz.prog 62 #[.pointer (some ⟨b, 0, none⟩), .int .i64 most] w fun e w' => e = .returned (.int .i64 (rCount r most).2) ∧ OwnR w' b (rCount r most).1 ∧ Fr (· = b) w w' := by
  have hN := rdNumber_any h hr 4
  by_cases he : r.err = 0
  · have hC : rCount r most = if (rNumber r 4).1.err = 0 then if most < 0 ∨ most < (rNumber r 4).2 then (r.withErr 3, 0) else ((rNumber r 4).1, ((rNumber r 4).2 : Int)) else ((rNumber r 4).1, 0) := if_pos he
    obtain ⟨s, pos, err⟩ := r
    simp only at he
    subst he
    obtain ⟨g0, g1, g2, g3, g4, g5⟩ := Own.three h
    rcases rNumber4 hr rfl with ⟨h1, h2⟩ | ⟨ee, h1, h2⟩
    · obtain ⟨n, hn⟩ : ∃ n, (rNumber ⟨s, pos, 0⟩ 4).2 = n := ⟨_, rfl⟩
      rw [h1, hn] at hC hN
      rw [hn] at h2
      clear h1 hn
      have HN := Lib.hid hN
      clear hN
      by_cases hm : most < 0
      · have HC : Hid (rCount ⟨s, pos, 0⟩ most = (⟨s, pos, 3⟩, 0)) := by show _ = _; rw [hC, if_pos rfl, if_pos (.inl hm)]; rfl
        have hb1 : decide (most < 0) = true := decide_eq_true hm
        clear hC
        go_enter Tryz.func62, Tryz.ntmps62
        go_wp2_with (first | (go_at_call 65; first | (apply Calls.mono; (apply ok_zero; with_reducible assumption; exact rfl); rintro e wq ⟨rfl, rfl⟩) | (apply Calls.mono; (apply ok_some; with_reducible assumption; (first | assumption | (show _ = _; simp))); rintro e wq ⟨rfl, rfl⟩)) | (go_at_call 64; refine HN.out.mono ?_; rintro e w1 ⟨rfl, ho, hf⟩; obtain ⟨k0, k1, k2, k3, k4, k5⟩ := Own.three ho; have hfz := hf.size) | (go_at_call 86; refine (back_some (r := ⟨s, pos + 8, 3⟩) (Own.put ho rfl) rfl _).mono ?_; rintro e w2 ⟨rfl, ho2, hf2⟩; obtain ⟨j0, j1, j2, j3, j4, j5⟩ := Own.three ho2; have hfz2 := hf2.size))
        go_ret
        rw [HC.out]
        exact ⟨rfl, ho2, by repeat (first | with_reducible exact Fr.refl _ _ | with_reducible assumption | with_reducible refine Fr.drew ?_ | with_reducible refine Fr.drewN ?_ _ | with_reducible refine Fr.alloc ?_ _ | with_reducible refine Fr.set ?_ (by first | exact fun _ => rfl | (intro hlt; exfalso; simp at hlt; try omega) | (simp; omega)) _ | with_reducible refine Fr.new_ ?_ (by assumption) | with_reducible refine Fr.trans ?_ (by with_reducible assumption) (fun _ _ e => e))⟩
      · by_cases hm2 : most < (n : Int)
        · have HC : Hid (rCount ⟨s, pos, 0⟩ most = (⟨s, pos, 3⟩, 0)) := by show _ = _; rw [hC, if_pos rfl, if_pos (.inr hm2)]; rfl
          have hb1 : decide (most < 0) = false := decide_eq_false hm
          have hb2 : decide (IntKind.u64.wrap most < (n : Int)) = true := decide_eq_true (by rw [IntKind.wrap_u64]; omega)
          clear hC
          go_enter Tryz.func62, Tryz.ntmps62
          go_wp2_with (first | (go_at_call 65; first | (apply Calls.mono; (apply ok_zero; with_reducible assumption; exact rfl); rintro e wq ⟨rfl, rfl⟩) | (apply Calls.mono; (apply ok_some; with_reducible assumption; (first | assumption | (show _ = _; simp))); rintro e wq ⟨rfl, rfl⟩)) | (go_at_call 64; refine HN.out.mono ?_; rintro e w1 ⟨rfl, ho, hf⟩; obtain ⟨k0, k1, k2, k3, k4, k5⟩ := Own.three ho; have hfz := hf.size) | (go_at_call 86; refine (back_some (r := ⟨s, pos + 8, 3⟩) (Own.put ho rfl) rfl _).mono ?_; rintro e w2 ⟨rfl, ho2, hf2⟩; obtain ⟨j0, j1, j2, j3, j4, j5⟩ := Own.three ho2; have hfz2 := hf2.size))
          go_ret
          rw [HC.out]
          exact ⟨rfl, ho2, by repeat (first | with_reducible exact Fr.refl _ _ | with_reducible assumption | with_reducible refine Fr.drew ?_ | with_reducible refine Fr.drewN ?_ _ | with_reducible refine Fr.alloc ?_ _ | with_reducible refine Fr.set ?_ (by first | exact fun _ => rfl | (intro hlt; exfalso; simp at hlt; try omega) | (simp; omega)) _ | with_reducible refine Fr.new_ ?_ (by assumption) | with_reducible refine Fr.trans ?_ (by with_reducible assumption) (fun _ _ e => e))⟩
        · have HC : Hid (rCount ⟨s, pos, 0⟩ most = (⟨s, pos + 8, 0⟩, (n : Int))) := by show _ = _; rw [hC, if_pos rfl, if_neg (by omega)]
          have hb1 : decide (most < 0) = false := decide_eq_false hm
          have hb2 : decide (IntKind.u64.wrap most < (n : Int)) = false := decide_eq_false (by rw [IntKind.wrap_u64]; omega)
          clear hC
          go_enter Tryz.func62, Tryz.ntmps62
          go_wp2_with (first | (go_at_call 65; first | (apply Calls.mono; (apply ok_zero; with_reducible assumption; exact rfl); rintro e wq ⟨rfl, rfl⟩) | (apply Calls.mono; (apply ok_some; with_reducible assumption; (first | assumption | (show _ = _; simp))); rintro e wq ⟨rfl, rfl⟩)) | (go_at_call 64; refine HN.out.mono ?_; rintro e w1 ⟨rfl, ho, hf⟩; obtain ⟨k0, k1, k2, k3, k4, k5⟩ := Own.three ho; have hfz := hf.size) | (go_at_call 86; refine (back_zero (r := ⟨s, pos + 8, 0⟩) (ho) rfl _).mono ?_; rintro e w2 ⟨rfl, rfl⟩))
          go_ret
          rw [HC.out]
          exact ⟨rfl, ho, hf⟩
    · rw [h2] at hC hN
      have HN := Lib.hid hN
      clear hN h2
      have HC : Hid (rCount ⟨s, pos, 0⟩ most = (⟨s, pos, ee⟩, 0)) := by show _ = _; rw [hC, if_neg (by simpa using h1)]
      clear hC
      go_enter Tryz.func62, Tryz.ntmps62
      go_wp2_with (first | (go_at_call 65; first | (apply Calls.mono; (apply ok_zero; with_reducible assumption; exact rfl); rintro e wq ⟨rfl, rfl⟩) | (apply Calls.mono; (apply ok_some; with_reducible assumption; (first | assumption | (show _ = _; simp))); rintro e wq ⟨rfl, rfl⟩)) | (go_at_call 64; refine HN.out.mono ?_; rintro e w1 ⟨rfl, ho, hf⟩; obtain ⟨k0, k1, k2, k3, k4, k5⟩ := Own.three ho; have hfz := hf.size) | (go_at_call 86; refine (back_some (r := ⟨s, pos, ee⟩) (ho) h1 _).mono ?_; rintro e w2 ⟨rfl, ho2, hf2⟩; obtain ⟨j0, j1, j2, j3, j4, j5⟩ := Own.three ho2; have hfz2 := hf2.size))
      go_ret
      rw [HC.out]
      exact ⟨rfl, ho2, by repeat (first | with_reducible exact Fr.refl _ _ | with_reducible assumption | with_reducible refine Fr.drew ?_ | with_reducible refine Fr.drewN ?_ _ | with_reducible refine Fr.alloc ?_ _ | with_reducible refine Fr.set ?_ (by first | exact fun _ => rfl | (intro hlt; exfalso; simp at hlt; try omega) | (simp; omega)) _ | with_reducible refine Fr.new_ ?_ (by assumption) | with_reducible refine Fr.trans ?_ (by with_reducible assumption) (fun _ _ e => e))⟩
  · have hz : (r.err == 0) = false := by rw [beq_eq_false_iff_ne]; exact he
    have HC : Hid (rCount r most = (r, 0)) := if_neg he
    clear he hN
    obtain ⟨g0, g1, g2, g3, g4, g5⟩ := Own.three h
    go_enter Tryz.func62, Tryz.ntmps62
    go_wp2
    go_ret
    rw [HC.out]
    exact ⟨rfl, h, by repeat (first | with_reducible exact Fr.refl _ _ | with_reducible assumption | with_reducible refine Fr.drew ?_ | with_reducible refine Fr.drewN ?_ _ | with_reducible refine Fr.alloc ?_ _ | with_reducible refine Fr.set ?_ (by first | exact fun _ => rfl | (intro hlt; exfalso; simp at hlt; try omega) | (simp; omega)) _ | with_reducible refine Fr.new_ ?_ (by assumption))⟩
end Go.Proofs.YtjcpdpdhegcgoaaGreatDoor
