/- Contracts of a clock that is there: See, Next. -/
import Derived.Test.YtfkbljanmjnefaaStampC
namespace Go.Proofs.Ytfkbljanmjnefaa
open Go.RowKit

end Go.Proofs.Ytfkbljanmjnefaa
