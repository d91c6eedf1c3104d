/- Which answers have rights: a function, the places of slices in its answer, the cells of an element. Written by fun.py. -/
import Derived.Test.YtmhfncdhplmomaaGreatDoorTab
import Derived.Test.YtmhfncdhplmomaaGreatDoorAFun
namespace Go.Proofs.YtmhfncdhplmomaaGreatDoor
open Go
def rbt : RB := [(8, [(0, 5), (2, 1), (5, 4)]), (9, [(0, 5)]), (10, [(0, 5)]), (14, [(0, 5)]), (16, [(1, 1), (4, 4)]), (17, [(4, 4)]), (21, [(6, 1)]), (26, [(1, 1), (4, 4)]), (31, [(0, 5)]), (32, [(1, 1), (4, 4)]), (33, [(0, 5)]), (34, [(1, 1), (4, 4)]), (37, [(0, 5)]), (38, [(1, 1), (4, 4)]), (55, [(1, 1), (4, 4)]), (59, [(0, 1)]), (62, [(0, 1)]), (77, [(0, 5)]), (79, [(0, 1)]), (82, [(0, 1)]), (83, [(3, 2), (5, 2)]), (91, [(3, 2), (5, 2)]), (96, [(0, 1)]), (115, [(3, 2), (5, 2)]), (116, [(3, 2), (5, 2)]), (128, [(3, 2), (5, 2)]), (129, [(3, 2), (5, 2)]), (139, [(3, 2)]), (140, [(3, 2), (5, 2)]), (157, [(3, 2)]), (158, [(3, 2), (5, 2)]), (168, [(3, 2)]), (182, [(3, 2)]), (184, [(0, 1)]), (196, [(0, 1)])]
end Go.Proofs.YtmhfncdhplmomaaGreatDoor
