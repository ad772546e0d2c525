/- The clock is awake; which numbers may be those of things. -/
import Derived.Test.YtfkbljanmjnefaaStampD
namespace Go.Proofs.Ytfkbljanmjnefaa
open Go.RowKit


def madeB (n : Int) : Bool := decide (16 ≤ n ∧ n ≤ 4503599627370495)
theorem made_any (n : Int) (h0 : 0 ≤ n) (h1 : n ≤ 18446744073709551615) (w : World) : Calls Try.prog 58 #[.int .u64 n] w fun e w' => e = .returned (.bool (madeB n)) ∧ w = w' := by
  by_cases h : 16 ≤ n
  all_goals
    go_enter Try.func58, Try.ntmps58
    go_wp2
    go_ret
    refine ⟨ret_bool ?_, rfl⟩
    show _ = decide _
    (first | (rw [decide_eq_decide]; omega) | (symm; rw [decide_eq_false_iff_not]; omega) | (symm; rw [decide_eq_true_eq]; omega) | (rw [decide_eq_false_iff_not]; omega) | (rw [decide_eq_true_eq]; omega))
end Go.Proofs.Ytfkbljanmjnefaa
