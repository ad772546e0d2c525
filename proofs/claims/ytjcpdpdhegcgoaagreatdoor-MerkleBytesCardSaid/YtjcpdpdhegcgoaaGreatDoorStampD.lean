/- Contracts of a clock that is there: See, Next. -/
import Derived.Test.YtjcpdpdhegcgoaaGreatDoorStampC
namespace Go.Proofs.YtjcpdpdhegcgoaaGreatDoor
open Go.RowKit

end Go.Proofs.YtjcpdpdhegcgoaaGreatDoor
