/- Readers: Bytes of both programs; 'back'. -/
import Derived.Test.YtjcpdpdhegcgoaaGreatDoorWireRd
namespace Go.Proofs.YtjcpdpdhegcgoaaGreatDoor
open Go.RowKit
set_option linter.unusedVariables false

theorem ok_zero {b : Nat} {r : Rd} {w : World} (h : OwnR w b r) (hz : r.err = 0) : Calls Tryz.prog 65 #[.pointer (some ⟨b, 0, none⟩)] w fun e w' => e = .returned (.bool true) ∧ w = w' := by
  obtain ⟨s, pos, err⟩ := r
  simp only at hz
  subst hz
  obtain ⟨h0, h1, h2, h3, h4, h5⟩ := Own.three h
  go_enter Tryz.func65, Tryz.ntmps65
  go_wp2
  go_ret
  exact ⟨rfl, rfl⟩
theorem ok_some {b : Nat} {r : Rd} {w : World} (h : OwnR w b r) (hz : (r.err == 0) = false) : Calls Tryz.prog 65 #[.pointer (some ⟨b, 0, none⟩)] w fun e w' => e = .returned (.bool false) ∧ w = w' := by
  obtain ⟨h0, h1, h2, h3, h4, h5⟩ := Own.three h
  go_enter Tryz.func65, Tryz.ntmps65
  go_wp2
  go_ret
  exact ⟨rfl, rfl⟩
theorem back_zero {b : Nat} {r : Rd} {w : World} (h : OwnR w b r) (hz : r.err = 0) (p : Int) : Calls Tryz.prog 86 #[.pointer (some ⟨b, 0, none⟩), .int .i64 p] w fun e w' => e = .returned (.tuple #[]) ∧ w = w' := by
  obtain ⟨s, pos, err⟩ := r
  simp only at hz
  subst hz
  obtain ⟨h0, h1, h2, h3, h4, h5⟩ := Own.three h
  go_enter Tryz.func86, Tryz.ntmps86
  go_wp2
  go_end0
  exact ⟨rfl, rfl⟩
theorem back_some {b : Nat} {r : Rd} {w : World} (h : OwnR w b r) (hz : (r.err == 0) = false) (p : Int) : Calls Tryz.prog 86 #[.pointer (some ⟨b, 0, none⟩), .int .i64 p] w fun e w' => e = .returned (.tuple #[]) ∧ OwnR w' b ⟨r.s, p, r.err⟩ ∧ Fr (· = b) w w' := by
  obtain ⟨h0, h1, h2, h3, h4, h5⟩ := Own.three h
  go_enter Tryz.func86, Tryz.ntmps86
  go_wp2
  go_end0
  exact ⟨rfl, Own.put h rfl, by repeat (first | with_reducible exact Fr.refl _ _ | with_reducible assumption | with_reducible refine Fr.drew ?_ | with_reducible refine Fr.drewN ?_ _ | with_reducible refine Fr.alloc ?_ _ | with_reducible refine Fr.set ?_ (by first | exact fun _ => rfl | (intro hlt; exfalso; simp at hlt; try omega) | (simp; omega)) _ | with_reducible refine Fr.new_ ?_ (by assumption))⟩
theorem bytes_any {b : Nat} {r : Rd} {w : World} (h : OwnR w b r) (hr : r.ok) (n : Int) (hn : n ≤ 9223372036854775807) :
    Calls Tryz.prog 85 #[.pointer (some ⟨b, 0, none⟩), .int .i64 n] w fun e w' => e = .returned (.string (rBytes r n).2) ∧ OwnR w' b (rBytes r n).1 ∧ Fr (· = b) w w' := by
  have hl := fun ww hh => left_any (w := ww) (b := b) (r := r) hh hr
  obtain ⟨s, pos, err⟩ := r
  obtain ⟨h0, h1, h2, h3, h4, h5⟩ := Own.three h
  obtain ⟨r0, r1, r2⟩ := hr
  simp only at r0 r1 r2
  have HL := Lib.hid hl
  clear hl
  by_cases he : err = 0
  · subst he
    by_cases h6 : n < 0
    · have HP : Hid (rBytes ⟨s, pos, 0⟩ n = (⟨s, pos, 1⟩, .empty)) := by
        show _ = _
        unfold rBytes
        rw [if_pos rfl, if_pos h6]
        rfl
      go_enter Tryz.func85, Tryz.ntmps85
      go_wp2
      go_ret
      rw [HP.out]
      exact ⟨rfl, Own.put h rfl, by repeat (first | with_reducible exact Fr.refl _ _ | with_reducible assumption | with_reducible refine Fr.drew ?_ | with_reducible refine Fr.drewN ?_ _ | with_reducible refine Fr.alloc ?_ _ | with_reducible refine Fr.set ?_ (by first | exact fun _ => rfl | (intro hlt; exfalso; simp at hlt; try omega) | (simp; omega)) _ | with_reducible refine Fr.new_ ?_ (by assumption))⟩
    · by_cases h7 : (s.size : Int) - pos < n
      · have HP : Hid (rBytes ⟨s, pos, 0⟩ n = (⟨s, pos, 4⟩, .empty)) := by
          show _ = _
          unfold rBytes
          rw [if_pos rfl, if_neg h6, if_pos h7]
          rfl
        go_enter Tryz.func85, Tryz.ntmps85
        go_wp2_with (first | (go_at_call 65; refine (ok_zero h rfl).mono ?_; rintro e w1 ⟨rfl, rfl⟩) | (go_at_call 66; refine (HL.out _ h).mono ?_; rintro e w1 ⟨rfl, nn, rfl⟩))
        go_ret
        rw [HP.out]
        exact ⟨rfl, (Own.put (Own.drewN h nn) rfl), by repeat (first | with_reducible exact Fr.refl _ _ | with_reducible assumption | with_reducible refine Fr.drew ?_ | with_reducible refine Fr.drewN ?_ _ | with_reducible refine Fr.alloc ?_ _ | with_reducible refine Fr.set ?_ (by first | exact fun _ => rfl | (intro hlt; exfalso; simp at hlt; try omega) | (simp; omega)) _ | with_reducible refine Fr.new_ ?_ (by assumption))⟩
      · have HP : Hid (rBytes ⟨s, pos, 0⟩ n = (⟨s, pos + n, 0⟩, s.extract pos.toNat (pos + n).toNat)) := by
          show _ = _
          unfold rBytes
          rw [if_pos rfl, if_neg h6, if_neg h7]
        go_enter Tryz.func85, Tryz.ntmps85
        go_wp2_with (first | (go_at_call 65; refine (ok_zero h rfl).mono ?_; rintro e w1 ⟨rfl, rfl⟩) | (go_at_call 66; refine (HL.out _ h).mono ?_; rintro e w1 ⟨rfl, nn, rfl⟩))
        go_region
        all_goals go_wp2
        all_goals go_ret
        all_goals
          rw [HP.out]
          refine ⟨rfl, ?_, by repeat (first | with_reducible exact Fr.refl _ _ | with_reducible assumption | with_reducible refine Fr.drew ?_ | with_reducible refine Fr.drewN ?_ _ | with_reducible refine Fr.alloc ?_ _ | with_reducible refine Fr.set ?_ (by first | exact fun _ => rfl | (intro hlt; exfalso; simp at hlt; try omega) | (simp; omega)) _ | with_reducible refine Fr.new_ ?_ (by assumption))⟩
          show Own _ _ _ _
          have h : Own w b 91 #[.string s, .int .i64 pos, .int .i64 0] := h
          repeat (first | with_reducible assumption | with_reducible exact Own.fresh _ _ _ | (with_reducible apply Own.new'; simp; done) | with_reducible apply Own.drew | with_reducible apply Own.drewN | with_reducible apply Own.alloc | with_reducible apply Own.put | rfl | (with_reducible refine Own.far ?_ (by simp; omega) _) | (with_reducible refine Own.new_ ?_ (by assumption)))
  · have hz : (err == 0) = false := by rw [beq_eq_false_iff_ne]; exact he
    have HP : Hid (rBytes ⟨s, pos, err⟩ n = (⟨s, pos, err⟩, .empty)) := if_neg he
    clear he
    go_enter Tryz.func85, Tryz.ntmps85
    go_wp2
    go_ret
    rw [HP.out]
    exact ⟨rfl, h, by repeat (first | with_reducible exact Fr.refl _ _ | with_reducible assumption | with_reducible refine Fr.drew ?_ | with_reducible refine Fr.drewN ?_ _ | with_reducible refine Fr.alloc ?_ _ | with_reducible refine Fr.set ?_ (by first | exact fun _ => rfl | (intro hlt; exfalso; simp at hlt; try omega) | (simp; omega)) _ | with_reducible refine Fr.new_ ?_ (by assumption))⟩


theorem one_box {w w1 : World} {t1 : TypeId} {cs1 : Array Value} (h : New (w.alloc (.cells cs1 t1)) w1) : Own w1 w.heap.size t1 cs1 ∧ New w w1 :=
  ⟨(Own.fresh w t1 cs1).new_ h, ((Fr.refl _ _).alloc _).new_ h⟩
theorem two_boxes {w w1 : World} {t1 t2 : TypeId} {cs1 cs2 : Array Value} (h : New ((w.alloc (.cells cs1 t1)).alloc (.cells cs2 t2)) w1) :
    Own w1 w.heap.size t1 cs1 ∧ Own w1 (w.heap.size + 1) t2 cs2 ∧ New w w1 :=
  ⟨((Own.fresh w t1 cs1).alloc _).new_ h, (Own.new' (by simp)).new_ h, (((Fr.refl _ _).alloc _).alloc _).new_ h⟩
theorem three_boxes {w w1 : World} {t1 t2 t3 : TypeId} {cs1 cs2 cs3 : Array Value} (h : New (((w.alloc (.cells cs1 t1)).alloc (.cells cs2 t2)).alloc (.cells cs3 t3)) w1) :
    Own w1 w.heap.size t1 cs1 ∧ Own w1 (w.heap.size + 1) t2 cs2 ∧ Own w1 (w.heap.size + 2) t3 cs3 ∧ New w w1 :=
  ⟨(((Own.fresh w t1 cs1).alloc _).alloc _).new_ h, ((Own.new' (by simp)).alloc _).new_ h, (Own.new' (by simp)).new_ h, ((((Fr.refl _ _).alloc _).alloc _).alloc _).new_ h⟩

end Go.Proofs.YtjcpdpdhegcgoaaGreatDoor
