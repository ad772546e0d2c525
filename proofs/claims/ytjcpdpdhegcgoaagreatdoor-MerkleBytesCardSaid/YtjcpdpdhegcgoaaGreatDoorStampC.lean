/- Contracts of package stamp: what New, Check, See, Next, Seen do to a clock's block; what they answer. -/
import Derived.Test.YtjcpdpdhegcgoaaGreatDoorOpen
import Derived.RegionTactic
import Derived.ChangeAlike
import Derived.Deep.QuietTactic
import Derived.BigQuiet
namespace Go.Proofs.YtjcpdpdhegcgoaaGreatDoor
open Go.RowKit

/-- May a time be? -/
def Good (c n : Int) : Prop := 1 ≤ c ∧ c ≤ 281474976710655 ∧ 0 ≤ n ∧ n < 16
instance (c n : Int) : Decidable (Good c n) := by unfold Good; infer_instance
theorem not_good {c n : Int} (h : ¬ Good c n) : c < 1 ∨ (¬ c < 1 ∧ 281474976710655 < c) ∨ (¬ c < 1 ∧ ¬ 281474976710655 < c ∧ n < 0) ∨ (¬ c < 1 ∧ ¬ 281474976710655 < c ∧ ¬ n < 0 ∧ 16 ≤ n) := by
  unfold Good at h
  omega



end Go.Proofs.YtjcpdpdhegcgoaaGreatDoor
