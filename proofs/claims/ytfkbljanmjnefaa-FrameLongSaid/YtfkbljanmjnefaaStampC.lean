/- Contracts of package stamp: what New, Check, See, Next, Seen do to a clock's block; what they answer. -/
import Derived.Test.YtfkbljanmjnefaaOpen
import Derived.RegionTactic
import Derived.ChangeAlike
import Derived.Deep.QuietTactic
import Derived.BigQuiet
namespace Go.Proofs.Ytfkbljanmjnefaa
open Go.RowKit

/-- May a time be? -/
def Good (c n : Int) : Prop := 1 ≤ c ∧ c ≤ 281474976710655 ∧ 0 ≤ n ∧ n < 16
instance (c n : Int) : Decidable (Good c n) := by unfold Good; infer_instance
theorem not_good {c n : Int} (h : ¬ Good c n) : c < 1 ∨ (¬ c < 1 ∧ 281474976710655 < c) ∨ (¬ c < 1 ∧ ¬ 281474976710655 < c ∧ n < 0) ∨ (¬ c < 1 ∧ ¬ 281474976710655 < c ∧ ¬ n < 0 ∧ 16 ≤ n) := by
  unfold Good at h
  omega


theorem check_yes {c n : Int} (h : Good c n) (w : World) :
    Calls Try.prog 57 #[.agg #[.int .u64 c, .int .i64 n]] w fun e w' => e = .returned (.int .i64 0) ∧ New w w' := by
  obtain ⟨h0, h1, h2, h3⟩ := h
  go_enter Try.func57, Try.ntmps57
  go_wp2
  go_ret
  exact ⟨rfl, (Fr.refl _ _).alloc _⟩
theorem check_no {c n : Int} (h : ¬ Good c n) (w : World) :
    Calls Try.prog 57 #[.agg #[.int .u64 c, .int .i64 n]] w fun e w' => e = .returned (.int .i64 40) ∧ New w w' := by
  rcases not_good h with h | ⟨h, g⟩ | ⟨h, g, k⟩ | ⟨h, g, k, l⟩
  all_goals
    go_enter Try.func57, Try.ntmps57
    go_wp2
    go_ret
    exact ⟨rfl, (Fr.refl _ _).alloc _⟩

end Go.Proofs.Ytfkbljanmjnefaa
