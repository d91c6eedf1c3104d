/- Which answers have rights: a function, the places of slices in its answer, the cells of an element. Written by fun.py. -/
import Derived.Test.YtcjjcffcoleniaaTab
import Derived.Test.YtcjjcffcoleniaaAFun
namespace Go.Proofs.Ytcjjcffcoleniaa
open Go
def rbt : RB := [(16, [(0, 2), (2, 2)]), (22, [(0, 2)]), (54, [(0, 5)]), (55, [(0, 5)]), (56, [(0, 5)]), (65, [(0, 2)]), (105, [(0, 5)]), (108, [(0, 5)]), (109, [(1, 1), (4, 4)]), (111, [(0, 5)]), (112, [(1, 1), (4, 4)]), (139, [(3, 2), (5, 2)]), (141, [(3, 2), (5, 2)]), (147, [(0, 5)]), (148, [(1, 1), (4, 4)]), (151, [(0, 1)]), (153, [(0, 1)]), (154, [(0, 1)]), (162, [(3, 2), (5, 2)]), (163, [(3, 2), (5, 2)]), (165, [(3, 2), (5, 2)]), (166, [(3, 2), (5, 2)]), (171, [(0, 1)]), (181, [(3, 2)]), (182, [(3, 2), (5, 2)]), (186, [(3, 2)]), (187, [(3, 2), (5, 2)]), (192, [(0, 1)]), (202, [(3, 2)]), (205, [(3, 2)])]
end Go.Proofs.Ytcjjcffcoleniaa
