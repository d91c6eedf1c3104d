/- SinceOf of the program and of the reference. Nothing is assumed but what each theorem says. -/
import Derived.Test.YthoafgehfgblaaaBase
import Derived.Test.YthoafgehfgblaaaVerMath
namespace Go.Proofs.Ythoafgehfgblaaa
open Go.RowKit

end Go.Proofs.Ythoafgehfgblaaa
