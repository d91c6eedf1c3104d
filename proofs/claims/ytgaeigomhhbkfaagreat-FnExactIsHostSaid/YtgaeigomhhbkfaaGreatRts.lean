/- Which answers have rights: a function, the places of slices in its answer, the cells of an element. Written by fun.py. -/
import Derived.Test.YtgaeigomhhbkfaaGreatTab
import Derived.Test.YtgaeigomhhbkfaaGreatAFun
namespace Go.Proofs.YtgaeigomhhbkfaaGreat
open Go
def rbt : RB := [(6, [(2, 1), (3, 1)]), (14, [(0, 1)]), (18, [(0, 1)]), (24, [(0, 1)]), (28, [(0, 1), (1, 1), (2, 1)]), (29, [(0, 1)]), (32, [(0, 1)]), (45, [(0, 3)]), (46, [(0, 1)]), (47, [(0, 1)]), (48, [(0, 1)]), (57, [(1, 1), (4, 4)]), (58, [(3, 2), (5, 2)]), (59, [(6, 1)]), (86, [(3, 2), (5, 2)]), (90, [(0, 4)]), (91, [(3, 2)]), (92, [(0, 2)]), (101, [(3, 2), (5, 2)]), (111, [(3, 2), (5, 2)]), (112, [(3, 2), (5, 2)]), (116, [(0, 2)]), (120, [(3, 2), (5, 2)]), (121, [(3, 2), (5, 2)]), (128, [(3, 2)]), (129, [(3, 2), (5, 2)]), (130, [(0, 1)]), (133, [(3, 2)]), (134, [(3, 2), (5, 2)]), (136, [(3, 2)]), (137, [(3, 2)])]
end Go.Proofs.YtgaeigomhhbkfaaGreat
