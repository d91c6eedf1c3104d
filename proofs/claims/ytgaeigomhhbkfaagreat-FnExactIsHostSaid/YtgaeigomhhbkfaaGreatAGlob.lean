/- What the package-level variables hold that the library's functions read, throughout a run: a class, for each law says it anew. ng: how many blocks are theirs. -/
import Derived.WalkKit
import Derived.Below
namespace Go.Proofs.YtgaeigomhhbkfaaGreat
open Go.RowKit
class GC where
  inv : World → Prop
  ng : Nat
  keep : ∀ {w w' : World}, (∀ k, k < ng → w'.heap[k]? = w.heap[k]?) → inv w → inv w'
section
set_option linter.unusedSectionVars false
variable [GC]
def NG : Nat := GC.ng
def GInv (w : World) : Prop := GC.inv w
theorem GInv.keep {w w' : World} (h : ∀ k, k < NG → w'.heap[k]? = w.heap[k]?) (hw : GInv w) : GInv w' := GC.keep h hw
end
/-- The variables' blocks: block g holds cells of which p holds. -/
def GHas (w : World) (g : Nat) (p : Array Value → Prop) : Prop := ∃ cs t f, w.heap[g]? = some (.cells cs t f) ∧ p cs
theorem GHas.keep {w w' : World} {g n : Nat} {p : Array Value → Prop} (hg : g < n) (h : ∀ k, k < n → w'.heap[k]? = w.heap[k]?) (hh : GHas w g p) : GHas w' g p := by
  obtain ⟨cs, t, f, h1, h2⟩ := hh
  exact ⟨cs, t, f, by rw [h g hg]; exact h1, h2⟩
end Go.Proofs.YtgaeigomhhbkfaaGreat
