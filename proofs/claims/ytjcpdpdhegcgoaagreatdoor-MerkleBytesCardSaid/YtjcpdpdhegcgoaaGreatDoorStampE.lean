/- The clock is awake; which numbers may be those of things. -/
import Derived.Test.YtjcpdpdhegcgoaaGreatDoorStampD
namespace Go.Proofs.YtjcpdpdhegcgoaaGreatDoor
open Go.RowKit


def madeB (n : Int) : Bool := decide (16 ≤ n ∧ n ≤ 4503599627370495)
end Go.Proofs.YtjcpdpdhegcgoaaGreatDoor
