/- Readers: Bool of the reference; Hash, End of both programs; awake. -/
import Derived.Test.YtjcpdpdhegcgoaaGreatDoorWireBool
namespace Go.Proofs.YtjcpdpdhegcgoaaGreatDoor
open Go.RowKit
set_option linter.unusedVariables false


def rEnd (r : Rd) : Rd := if r.err = 0 ∧ r.pos < r.s.size then ⟨r.s, r.pos, 5⟩ else r
theorem end_any {b : Nat} {r : Rd} {w : World} (h : OwnR w b r) (hr : r.ok) :
    Calls Tryz.prog 31 #[.pointer (some ⟨b, 0, none⟩)] w fun e w' => e = .returned (.int .i64 (rEnd r).err) ∧ OwnR w' b (rEnd r) ∧ Fr (· = b) w w' := by
  have HL := Lib.hid (fun ww hh => left_any (w := ww) (b := b) (r := r) hh hr)
  obtain ⟨s, pos, err⟩ := r
  obtain ⟨g0, g1, g2, g3, g4, g5⟩ := Own.three h
  by_cases he : err = 0
  · subst he
    by_cases hp : pos < s.size
    · have HT : Hid (rEnd ⟨s, pos, 0⟩ = ⟨s, pos, 5⟩) := if_pos ⟨rfl, hp⟩
      go_enter Tryz.func31, Tryz.ntmps31
      go_wp2_with (first | (go_at_call 65; first | (apply Calls.mono; (apply ok_zero; with_reducible assumption; exact rfl); rintro e wq ⟨rfl, rfl⟩) | (apply Calls.mono; (apply ok_some; with_reducible assumption; (first | assumption | (show _ = _; simp))); rintro e wq ⟨rfl, rfl⟩)) | (go_at_call 66; refine (HL.out _ h).mono ?_; rintro e w1 ⟨rfl, nn, rfl⟩))
      refine (err_any (r := ⟨s, pos, 5⟩) (Own.put (Own.drewN h nn) rfl)).mono ?_
      rintro e w2 ⟨rfl, rfl⟩
      go_wp2
      go_ret
      rw [HT.out]
      exact ⟨rfl, Own.put (Own.drewN h nn) rfl, by repeat (first | with_reducible exact Fr.refl _ _ | with_reducible assumption | with_reducible refine Fr.drew ?_ | with_reducible refine Fr.drewN ?_ _ | with_reducible refine Fr.alloc ?_ _ | with_reducible refine Fr.set ?_ (by first | exact fun _ => rfl | (intro hlt; exfalso; simp at hlt; try omega) | (simp; omega)) _ | with_reducible refine Fr.new_ ?_ (by assumption) | with_reducible refine Fr.trans ?_ (by with_reducible assumption) (fun _ _ e => e))⟩
    · have HT : Hid (rEnd ⟨s, pos, 0⟩ = ⟨s, pos, 0⟩) := if_neg (by simp only; omega)
      go_enter Tryz.func31, Tryz.ntmps31
      go_wp2_with (first | (go_at_call 65; first | (apply Calls.mono; (apply ok_zero; with_reducible assumption; exact rfl); rintro e wq ⟨rfl, rfl⟩) | (apply Calls.mono; (apply ok_some; with_reducible assumption; (first | assumption | (show _ = _; simp))); rintro e wq ⟨rfl, rfl⟩)) | (go_at_call 66; refine (HL.out _ h).mono ?_; rintro e w1 ⟨rfl, nn, rfl⟩))
      refine (err_any (r := ⟨s, pos, 0⟩) (Own.drewN h nn)).mono ?_
      rintro e w2 ⟨rfl, rfl⟩
      go_wp2
      go_ret
      rw [HT.out]
      exact ⟨rfl, Own.drewN h nn, by repeat (first | with_reducible exact Fr.refl _ _ | with_reducible assumption | with_reducible refine Fr.drew ?_ | with_reducible refine Fr.drewN ?_ _ | with_reducible refine Fr.alloc ?_ _ | with_reducible refine Fr.set ?_ (by first | exact fun _ => rfl | (intro hlt; exfalso; simp at hlt; try omega) | (simp; omega)) _ | with_reducible refine Fr.new_ ?_ (by assumption) | with_reducible refine Fr.trans ?_ (by with_reducible assumption) (fun _ _ e => e))⟩
  · have hz : (err == 0) = false := by rw [beq_eq_false_iff_ne]; exact he
    have HT : Hid (rEnd ⟨s, pos, err⟩ = ⟨s, pos, err⟩) := if_neg (by simp only; omega)
    clear he
    go_enter Tryz.func31, Tryz.ntmps31
    go_wp2
    go_ret
    rw [HT.out]
    exact ⟨rfl, h, by repeat (first | with_reducible exact Fr.refl _ _ | with_reducible assumption | with_reducible refine Fr.drew ?_ | with_reducible refine Fr.drewN ?_ _ | with_reducible refine Fr.alloc ?_ _ | with_reducible refine Fr.set ?_ (by first | exact fun _ => rfl | (intro hlt; exfalso; simp at hlt; try omega) | (simp; omega)) _ | with_reducible refine Fr.new_ ?_ (by assumption) | with_reducible refine Fr.trans ?_ (by with_reducible assumption) (fun _ _ e => e))⟩
theorem hash_any {b : Nat} {r : Rd} {w : World} (h : OwnR w b r) (hr : r.ok) :
    Calls Tryz.prog 61 #[.pointer (some ⟨b, 0, none⟩)] w fun e w' => e = .returned (.string (rBytes r 32).2) ∧ OwnR w' b (rBytes r 32).1 ∧ Fr (· = b) w w' := by
  have HB := Lib.hid (bytes_any h hr 32 (by omega))
  go_enter Tryz.func61, Tryz.ntmps61
  go_wp2_with (go_at_call 85; refine HB.out.mono ?_; rintro e w2 ⟨rfl, ho2, hf2⟩)
  go_ret
  exact ⟨rfl, ho2, hf2⟩
end Go.Proofs.YtjcpdpdhegcgoaaGreatDoor
