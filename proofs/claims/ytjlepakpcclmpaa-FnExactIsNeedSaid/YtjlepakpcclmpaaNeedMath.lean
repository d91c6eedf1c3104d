/- Plain functions on needs. No program in sight. -/
import Derived.Test.YtjlepakpcclmpaaVerMath
import Derived.Test.YtjlepakpcclmpaaNameMath
namespace Go.Proofs.Ytjlepakpcclmpaa
def needB (f : Int) (s : List UInt8) (a b : Int) : Bool := isFaceB f && !decide (f = 0) && (decide (s = []) || nameB s) && isVersionB a b
end Go.Proofs.Ytjlepakpcclmpaa
