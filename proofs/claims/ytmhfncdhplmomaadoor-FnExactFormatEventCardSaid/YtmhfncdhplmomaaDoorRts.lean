/- Which answers have rights: a function, the places of slices in its answer, the cells of an element. Written by fun.py. -/
import Derived.Test.YtmhfncdhplmomaaDoorTab
import Derived.Test.YtmhfncdhplmomaaDoorAFun
namespace Go.Proofs.YtmhfncdhplmomaaDoor
open Go
def rbt : RB := [(33, [(0, 1)]), (86, [(3, 2), (5, 2)]), (91, [(3, 2), (5, 2)]), (108, [(3, 2), (5, 2)]), (109, [(3, 2), (5, 2)]), (111, [(0, 1)]), (112, [(3, 2), (5, 2)]), (113, [(3, 2), (5, 2)]), (129, [(3, 2)]), (130, [(3, 2), (5, 2)]), (135, [(3, 2)]), (136, [(3, 2), (5, 2)]), (144, [(0, 1)]), (153, [(3, 2)]), (157, [(3, 2)])]
end Go.Proofs.YtmhfncdhplmomaaDoor
