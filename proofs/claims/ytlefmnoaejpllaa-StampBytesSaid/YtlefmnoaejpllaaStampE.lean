/- The clock is awake; which numbers may be those of things. -/
import Derived.Test.YtlefmnoaejpllaaStampD
namespace Go.Proofs.Ytlefmnoaejpllaa
open Go.RowKit

theorem awake04 (w : World) : Calls Try.prog 15 #[] w fun e w' => e = .returned (.bool true) ∧ New w w' := by
  go_enter Try.func15, Try.ntmps15
  go_wp2_with fail
  refine (new_yes 2 (by omega) (by omega) _).mono ?_
  rintro e w1 ⟨rfl, rfl⟩
  go_wp2_with fail
  refine (see_yes (Own.fresh _ _ _) (by decide)).mono ?_
  rintro e w2 ⟨rfl, ho, hf⟩
  have ho2 : Own w2 w.heap.size 103 #[.int .i64 2, .int .u64 7] := ho
  go_wp2_with fail
  refine (next_yes ho2 (by omega) (by omega)).mono ?_
  rintro e w3 ⟨rfl, ho3, hf3⟩
  go_wp2_with fail
  go_ret
  refine ⟨rfl, Fr.alloc ?_ _⟩
  have h1 : New w (w.alloc (.cells #[.int .i64 2, .int .u64 0] 103)) := (Fr.refl _ _).alloc _
  exact (h1.trans hf (by omega)).trans hf3 (by omega)

def madeB (n : Int) : Bool := decide (16 ≤ n ∧ n ≤ 4503599627370495)
theorem made_any (n : Int) (h0 : 0 ≤ n) (h1 : n ≤ 18446744073709551615) (w : World) : Calls Try.prog 16 #[.int .u64 n] w fun e w' => e = .returned (.bool (madeB n)) ∧ w = w' := by
  by_cases h : 16 ≤ n
  all_goals
    go_enter Try.func16, Try.ntmps16
    go_wp2
    go_ret
    refine ⟨ret_bool ?_, rfl⟩
    show _ = decide _
    (first | (rw [decide_eq_decide]; omega) | (symm; rw [decide_eq_false_iff_not]; omega) | (symm; rw [decide_eq_true_eq]; omega) | (rw [decide_eq_false_iff_not]; omega) | (rw [decide_eq_true_eq]; omega))
theorem refMade_any (n : Int) (h0 : 0 ≤ n) (h1 : n ≤ 18446744073709551615) (w : World) : Calls Try.prog 17 #[.int .u64 n] w fun e w' => e = .returned (.bool (madeB n)) ∧ w = w' := by
  by_cases h : 16 ≤ n
  all_goals
    go_enter Try.func17, Try.ntmps17
    go_wp2
    go_ret
    refine ⟨ret_bool ?_, rfl⟩
    show _ = decide _
    (first | (rw [decide_eq_decide]; omega) | (symm; rw [decide_eq_false_iff_not]; omega) | (symm; rw [decide_eq_true_eq]; omega) | (rw [decide_eq_false_iff_not]; omega) | (rw [decide_eq_true_eq]; omega))
theorem stampThings_walk (n : Int) (hn : (Lit.int .u64 n).wf = true) (w : World) : Calls Try.prog 3 #[.int .u64 n] w fun e w' => e = .returned (.bool true) ∧ New w w' := by
  obtain ⟨h0, h1⟩ := bounds_u64 hn
  clear hn
  go_enter Try.func3, Try.ntmps3
  go_wp2_with fail
  refine (awake04 _).mono ?_
  rintro e w1 ⟨rfl, hn⟩
  go_wp2_with fail
  refine (made_any n h0 h1 _).mono ?_
  rintro e w2 ⟨rfl, rfl⟩
  go_wp2_with fail
  refine (refMade_any n h0 h1 _).mono ?_
  rintro e w2 ⟨rfl, rfl⟩
  go_wp2
  go_ret
  exact ⟨rfl, hn⟩
end Go.Proofs.Ytlefmnoaejpllaa
