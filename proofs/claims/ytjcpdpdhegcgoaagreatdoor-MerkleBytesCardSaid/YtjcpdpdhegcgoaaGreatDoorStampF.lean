/- Contracts of cmp.Compare, cmp.Or and stamp.Compare; of the reference's Before; of Thing. -/
import Derived.Test.YtjcpdpdhegcgoaaGreatDoorStampE
import Derived.Deep.QuietTactic
import Derived.BigQuiet
import Derived.Deep.RegionWith
import Derived.Deep.RegionHeld3
import Derived.Lib.Hide
namespace Go.Proofs.YtjcpdpdhegcgoaaGreatDoor
open Go.RowKit

def cmpI (a b : Int) : Int := if a < b then -1 else if b < a then 1 else 0
def orI (a b : Int) : Int := if a = 0 then b else a

def cmpB (a b : Bool) : Bool := a == b

def befB (a b c d : Int) : Bool := decide (a < c ∨ a = c ∧ b < d)
def thingI (c n : Int) : Int := if Good c n then c * 16 + n else 0

def checkI (c n : Int) : Int := if Good c n then 0 else 40
theorem lt_bef (a b c d : Int) : decide (orI (cmpI a c) (cmpI b d) < 0) = befB a b c d := by
  unfold befB
  rw [decide_eq_decide]
  unfold orI cmpI
  split <;> (try split) <;> (try split) <;> (try split) <;> omega
theorem gt_bef (a b c d : Int) : decide (0 < orI (cmpI a c) (cmpI b d)) = befB c d a b := by
  unfold befB
  rw [decide_eq_decide]
  unfold orI cmpI
  split <;> (try split) <;> (try split) <;> (try split) <;> omega
end Go.Proofs.YtjcpdpdhegcgoaaGreatDoor
