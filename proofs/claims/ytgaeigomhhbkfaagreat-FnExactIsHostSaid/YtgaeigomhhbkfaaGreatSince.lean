/- SinceOf of the program and of the reference. Nothing is assumed but what each theorem says. -/
import Derived.Test.YtgaeigomhhbkfaaGreatBase
import Derived.Test.YtgaeigomhhbkfaaGreatVerMath
namespace Go.Proofs.YtgaeigomhhbkfaaGreat
open Go.RowKit

end Go.Proofs.YtgaeigomhhbkfaaGreat
