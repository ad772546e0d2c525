/- Readers: Text of the reference; Bool, End of both programs. -/
import Derived.Test.YtfkbljanmjnefaaWireText
namespace Go.Proofs.Ytfkbljanmjnefaa
open Go.RowKit
set_option linter.unusedVariables false


def rBool (r : Rd) : Rd × Bool :=
  if r.err = 0 then
    if (rBytes r 1).1.err = 0 then
      if ((rBytes r 1).2.toList == [121]) = true then ((rBytes r 1).1, true)
      else if ((rBytes r 1).2.toList == [110]) = true then ((rBytes r 1).1, false)
      else (⟨r.s, r.pos, 6⟩, false)
    else (⟨r.s, r.pos, (rBytes r 1).1.err⟩, false)
  else (r, false)
theorem rBool_ok {r : Rd} (h : r.ok) : (rBool r).1.ok := by
  unfold rBool
  split
  · split
    · split
      · exact rBytes_ok h 1
      · split
        · exact rBytes_ok h 1
        · exact h
    · exact h
  · exact h
theorem rBytes_cases {r : Rd} (h : r.ok) (n : Int) (he : r.err = 0) : (∃ t, rBytes r n = (⟨r.s, r.pos + n, 0⟩, t)) ∨ (∃ e, (e == 0) = false ∧ rBytes r n = (⟨r.s, r.pos, e⟩, .empty)) := by
  unfold rBytes
  rw [if_pos he]
  split
  · right
    exact ⟨1, rfl, rfl⟩
  · split
    · right
      exact ⟨4, rfl, rfl⟩
    · left
      exact ⟨_, rfl⟩
theorem bool_any {b : Nat} {r : Rd} {w : World} (h : OwnR w b r) (hr : r.ok) :
    Calls Try.prog 88 #[.pointer (some ⟨b, 0, none⟩)] w fun e w' => e = .returned (.bool (rBool r).2) ∧ OwnR w' b (rBool r).1 ∧ Fr (· = b) w w' := by
  have hB := bytes_any h hr 1 (by omega)
  by_cases he : r.err = 0
  · have hT : rBool r = if (rBytes r 1).1.err = 0 then if ((rBytes r 1).2.toList == [121]) = true then ((rBytes r 1).1, true) else if ((rBytes r 1).2.toList == [110]) = true then ((rBytes r 1).1, false) else (⟨r.s, r.pos, 6⟩, false) else (⟨r.s, r.pos, (rBytes r 1).1.err⟩, false) := if_pos he
    obtain ⟨s, pos, err⟩ := r
    simp only at he
    subst he
    obtain ⟨g0, g1, g2, g3, g4, g5⟩ := Own.three h
    rcases rBytes_cases hr 1 rfl with ⟨t, h1⟩ | ⟨ee, h1, h2⟩
    · rw [h1] at hB hT
      have HB := Lib.hid hB
      clear hB h1
      have hc : ((t.toList == [121]) = true) ∨ ((t.toList == [121]) = false ∧ (t.toList == [110]) = true) ∨ ((t.toList == [121]) = false ∧ (t.toList == [110]) = false) := by
        cases (t.toList == [121]) <;> cases (t.toList == [110]) <;> simp
      rcases hc with a1 | ⟨a1, a2⟩ | ⟨a1, a2⟩
      · have HT : Hid (rBool ⟨s, pos, 0⟩ = (⟨s, pos + 1, 0⟩, true)) := by show _ = _; rw [hT, if_pos rfl, if_pos a1]
        clear hT
        go_enter Try.func88, Try.ntmps88
        go_wp2_with (first | (go_at_call 47; first | (apply Calls.mono; (apply ok_zero; with_reducible assumption; exact rfl); rintro e wq ⟨rfl, rfl⟩) | (apply Calls.mono; (apply ok_some; with_reducible assumption; (first | assumption | (show _ = _; simp))); rintro e wq ⟨rfl, rfl⟩)) | (go_at_call 48; refine HB.out.mono ?_; rintro e w2 ⟨rfl, ho2, hf2⟩) | (go_at_call 50; refine (back_zero ho2 rfl _).mono ?_; rintro e w3 ⟨rfl, rfl⟩))
        go_ret
        rw [HT.out]
        exact ⟨rfl, ho2, by repeat (first | with_reducible exact Fr.refl _ _ | with_reducible assumption | with_reducible refine Fr.drew ?_ | with_reducible refine Fr.drewN ?_ _ | with_reducible refine Fr.alloc ?_ _ | with_reducible refine Fr.set ?_ (by first | exact fun _ => rfl | (intro hlt; exfalso; simp at hlt; try omega) | (simp; omega)) _ | with_reducible refine Fr.new_ ?_ (by assumption) | with_reducible refine Fr.trans ?_ (by with_reducible assumption) (fun _ _ e => e))⟩
      · have HT : Hid (rBool ⟨s, pos, 0⟩ = (⟨s, pos + 1, 0⟩, false)) := by show _ = _; rw [hT, if_pos rfl, if_neg (by simp [a1]), if_pos a2]
        clear hT
        go_enter Try.func88, Try.ntmps88
        go_wp2_with (first | (go_at_call 47; first | (apply Calls.mono; (apply ok_zero; with_reducible assumption; exact rfl); rintro e wq ⟨rfl, rfl⟩) | (apply Calls.mono; (apply ok_some; with_reducible assumption; (first | assumption | (show _ = _; simp))); rintro e wq ⟨rfl, rfl⟩)) | (go_at_call 48; refine HB.out.mono ?_; rintro e w2 ⟨rfl, ho2, hf2⟩) | (go_at_call 50; refine (back_zero ho2 rfl _).mono ?_; rintro e w3 ⟨rfl, rfl⟩))
        go_ret
        rw [HT.out]
        exact ⟨rfl, ho2, by repeat (first | with_reducible exact Fr.refl _ _ | with_reducible assumption | with_reducible refine Fr.drew ?_ | with_reducible refine Fr.drewN ?_ _ | with_reducible refine Fr.alloc ?_ _ | with_reducible refine Fr.set ?_ (by first | exact fun _ => rfl | (intro hlt; exfalso; simp at hlt; try omega) | (simp; omega)) _ | with_reducible refine Fr.new_ ?_ (by assumption) | with_reducible refine Fr.trans ?_ (by with_reducible assumption) (fun _ _ e => e))⟩
      · have HT : Hid (rBool ⟨s, pos, 0⟩ = (⟨s, pos, 6⟩, false)) := by show _ = _; rw [hT, if_pos rfl, if_neg (by simp [a1]), if_neg (by simp [a2])]
        clear hT
        go_enter Try.func88, Try.ntmps88
        go_wp2_with (first | (go_at_call 47; first | (apply Calls.mono; (apply ok_zero; with_reducible assumption; exact rfl); rintro e wq ⟨rfl, rfl⟩) | (apply Calls.mono; (apply ok_some; with_reducible assumption; (first | assumption | (show _ = _; simp))); rintro e wq ⟨rfl, rfl⟩)) | (go_at_call 48; refine HB.out.mono ?_; rintro e w2 ⟨rfl, ho2, hf2⟩; obtain ⟨k0, k1, k2, k3, k4, k5⟩ := Own.three ho2; have hfz := hf2.size) | (go_at_call 50; refine (back_some (r := ⟨s, pos + 1, 6⟩) (Own.put ho2 rfl) (by simp) _).mono ?_; rintro e w3 ⟨rfl, ho3, hf3⟩))
        go_ret
        rw [HT.out]
        exact ⟨rfl, ho3, by repeat (first | with_reducible exact Fr.refl _ _ | with_reducible assumption | with_reducible refine Fr.drew ?_ | with_reducible refine Fr.drewN ?_ _ | with_reducible refine Fr.alloc ?_ _ | with_reducible refine Fr.set ?_ (by first | exact fun _ => rfl | (intro hlt; exfalso; simp at hlt; try omega) | (simp; omega)) _ | with_reducible refine Fr.new_ ?_ (by assumption) | with_reducible refine Fr.trans ?_ (by with_reducible assumption) (fun _ _ e => e))⟩
    · rw [h2] at hB hT
      have HB := Lib.hid hB
      have HT : Hid (rBool ⟨s, pos, 0⟩ = (⟨s, pos, ee⟩, false)) := by show _ = _; rw [hT, if_neg (by simpa using h1)]
      clear hB h2 hT
      go_enter Try.func88, Try.ntmps88
      go_wp2_with (first | (go_at_call 47; first | (apply Calls.mono; (apply ok_zero; with_reducible assumption; exact rfl); rintro e wq ⟨rfl, rfl⟩) | (apply Calls.mono; (apply ok_some; with_reducible assumption; (first | assumption | (show _ = _; simp))); rintro e wq ⟨rfl, rfl⟩)) | (go_at_call 48; refine HB.out.mono ?_; rintro e w2 ⟨rfl, ho2, hf2⟩; obtain ⟨k0, k1, k2, k3, k4, k5⟩ := Own.three ho2; have hfz := hf2.size) | (go_at_call 50; refine (back_some ho2 h1 _).mono ?_; rintro e w3 ⟨rfl, ho3, hf3⟩))
      go_ret
      rw [HT.out]
      exact ⟨rfl, ho3, by repeat (first | with_reducible exact Fr.refl _ _ | with_reducible assumption | with_reducible refine Fr.drew ?_ | with_reducible refine Fr.drewN ?_ _ | with_reducible refine Fr.alloc ?_ _ | with_reducible refine Fr.set ?_ (by first | exact fun _ => rfl | (intro hlt; exfalso; simp at hlt; try omega) | (simp; omega)) _ | with_reducible refine Fr.new_ ?_ (by assumption) | with_reducible refine Fr.trans ?_ (by with_reducible assumption) (fun _ _ e => e))⟩
  · have hz : (r.err == 0) = false := by rw [beq_eq_false_iff_ne]; exact he
    have HT : Hid (rBool r = (r, false)) := if_neg he
    clear he hB
    obtain ⟨g0, g1, g2, g3, g4, g5⟩ := Own.three h
    go_enter Try.func88, Try.ntmps88
    go_wp2
    go_ret
    rw [HT.out]
    exact ⟨rfl, h, by repeat (first | with_reducible exact Fr.refl _ _ | with_reducible assumption | with_reducible refine Fr.drew ?_ | with_reducible refine Fr.drewN ?_ _ | with_reducible refine Fr.alloc ?_ _ | with_reducible refine Fr.set ?_ (by first | exact fun _ => rfl | (intro hlt; exfalso; simp at hlt; try omega) | (simp; omega)) _ | with_reducible refine Fr.new_ ?_ (by assumption))⟩
end Go.Proofs.Ytfkbljanmjnefaa
