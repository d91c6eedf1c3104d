/- SinceOf of the program and of the reference. Nothing is assumed but what each theorem says. -/
import Derived.Test.YtmhfncdhplmomaaDoorBase
import Derived.Test.YtmhfncdhplmomaaDoorVerMath
namespace Go.Proofs.YtmhfncdhplmomaaDoor
open Go.RowKit

end Go.Proofs.YtmhfncdhplmomaaDoor
