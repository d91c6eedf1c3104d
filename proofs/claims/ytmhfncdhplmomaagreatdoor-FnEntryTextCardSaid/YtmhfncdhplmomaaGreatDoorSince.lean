/- SinceOf of the program and of the reference. Nothing is assumed but what each theorem says. -/
import Derived.Test.YtmhfncdhplmomaaGreatDoorBase
import Derived.Test.YtmhfncdhplmomaaGreatDoorVerMath
namespace Go.Proofs.YtmhfncdhplmomaaGreatDoor
open Go.RowKit

end Go.Proofs.YtmhfncdhplmomaaGreatDoor
