/- Regions that draw their order, whose operations read and whose callees only make memory: one walk in the order of the text, under a class of worlds: what lay there lies there, and the cells that are read hold what they hold. No program in sight. -/
import Derived.WalkKit
import Derived.BigQuiet
import Derived.Handy
namespace Go.Proofs.Ythoilclddnjjjaa
open Go.RowKit

theorem keep_cell {w w1 : World} {p : Addr} {v : Value} (hb : Below w.heap.size w w1) (h : w.cell? p = some v) : w1.cell? p = some v := by
  rw [hb.cell (block_lt_of_cell h)]; exact h
theorem alloc_keep {w : World} {p : Addr} {v : Value} {o : Obj} (h : w.cell? p = some v) : (w.alloc o).cell? p = some v := keep_cell ((Below.refl _ _).alloc (Nat.le_refl _) o) h
theorem new_cell {w : World} {cs : Array Value} {t : TypeId} {i : Nat} {v : Value} (h : cs[i]? = some v) : (w.alloc (.cells cs t)).cell? ⟨w.heap.size, i, none⟩ = some v := by rw [World.cell?_alloc_new]; exact h
/-- These cells hold these values. -/
def HoldC : List (Addr × Value) → World → Prop
  | [], _ => True
  | p :: r, w => w.cell? p.1 = some p.2 ∧ HoldC r w
theorem HoldC.keep {w w1 : World} (hb : Below w.heap.size w w1) : ∀ {L : List (Addr × Value)}, HoldC L w → HoldC L w1
  | [], _ => trivial
  | _ :: _, h => ⟨keep_cell hb h.1, HoldC.keep hb h.2⟩
theorem HoldC.drew {w : World} : ∀ {L : List (Addr × Value)}, HoldC L w → HoldC L w.drew
  | [], _ => trivial
  | _ :: _, h => ⟨h.1, HoldC.drew h.2⟩
def Cls (w0 : World) (L : List (Addr × Value)) (w : World) : Prop := Below w0.heap.size w0 w ∧ HoldC L w
theorem Cls.keep {w0 w w1 : World} {L : List (Addr × Value)} (h : Cls w0 L w) (hb : Below w.heap.size w w1) : Cls w0 L w1 := ⟨h.1.trans (hb.mono h.1.size), h.2.keep hb⟩
theorem Cls.start {w0 w : World} {L : List (Addr × Value)} (h : Below w0.heap.size w0 w) (hc : HoldC L w) : Cls w0 L w.drew := ⟨h.drew, hc.drew⟩

section
variable {P : Program} {o : Oper} {a : Act} {C : World → Prop} {K : Act → Prop}
theorem quiet_run {v : Value} (h : ∀ w, C w → (execOp a.eval o).run P w = .ok (.value v) w) (hK : K (a.put o.dst v)) : o.quiet P a C K :=
  ⟨v, fun w hw => by unfold Oper.quietAt; rw [h w hw]; exact ⟨rfl, rfl⟩, hK⟩
theorem quiet_call {f : FuncId} {args : Array Value} {v : Value} (h : ∀ w, C w → (execOp a.eval o).run P w = .ok (.enter f args) w)
    (hc : ∀ w, C w → Calls P f args w fun e w' => e = .returned v ∧ C w') (hK : K (a.put o.dst v)) : o.quiet P a C K :=
  ⟨v, fun w hw => by unfold Oper.quietAt; rw [h w hw]; exact ⟨rfl, hc w hw⟩, hK⟩
/-- A contract of a callee that only makes memory, under the class. -/
theorem cls_call {w0 w : World} {L : List (Addr × Value)} {f : FuncId} {args : Array Value} {v : Value} (hC : Cls w0 L w) (h : Calls P f args w fun e w' => e = .returned v ∧ Below w.heap.size w w') :
    Calls P f args w fun e w' => e = .returned v ∧ Cls w0 L w' := h.mono fun _ _ ⟨h1, h2⟩ => ⟨h1, hC.keep h2⟩
theorem cls_same {w0 w : World} {L : List (Addr × Value)} {f : FuncId} {args : Array Value} {v : Value} (hC : Cls w0 L w) (h : Calls P f args w fun e w' => e = .returned v ∧ w = w') :
    Calls P f args w fun e w' => e = .returned v ∧ Cls w0 L w' := h.mono fun _ _ ⟨h1, h2⟩ => ⟨h1, h2 ▸ hC⟩
theorem region_quiet {id : Nat} {Q : Exit → Act → World → Prop} {w : World} {l : List Oper} {C : World → Prop} (hm : P.follows .mixedOrders = true) (hB : Region.lexB .any l.toArray = true) (hC : C w.drew)
    (h : wpQuiet P l.toArray C (fun a' => ∀ w', C w' → Q .normal a' w') l a) : (Code.region id l.toArray true).wp P Q a w :=
  wp_region_quiet (C := C) hm hB hC (by simpa using h)
end
end Go.Proofs.Ythoilclddnjjjaa
