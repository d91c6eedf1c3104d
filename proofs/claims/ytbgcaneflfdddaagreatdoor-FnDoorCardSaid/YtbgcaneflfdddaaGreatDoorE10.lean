/- The program's structures as plain types: their cells, their types, equality. Written by gen2.py. -/
import Derived.Test.YtbgcaneflfdddaaGreatDoorE9
import Derived.PlainAid
import Derived.Test.YtbgcaneflfdddaaGreatDoorProg
import Derived.WalkKit
import Derived.Handy
import Derived.Deep.QuietTactic
import Derived.BigQuiet
import Derived.Lib.Hide
import Derived.Deep.Draws
import Derived.StillTailTactics
import Derived.Deep.RegionHeld3
import Derived.Laws.Rows
import Derived.Laws.ResultCell
import Derived.Laws.BitsLemmas
import Derived.Laws.BitsAllLaws
set_option linter.unusedVariables false
set_option linter.unusedSimpArgs false
set_option maxRecDepth 100000
set_option linter.unusedSectionVars false
namespace Go.Proofs.YtbgcaneflfdddaaGreatDoor
open Go.RowKit Go
variable [GC]
instance : Enc ByteArray := { cells := fun s => [.str s] }
instance : Enc Int := { cells := fun n => [.int .i64 n] }
theorem cells_str (s : ByteArray) : Enc.cells s = [.str s] := rfl
theorem cells_int (n : Int) : Enc.cells n = [.int .i64 n] := rfl
theorem row_str (l : List ByteArray) (k : Nat) : D.agg (((l.map Enc.cells)[k]?).getD [zeroD CT.str]) = enc (nth l k) := row_enc l k rfl
theorem row_int (l : List Int) (k : Nat) : D.agg (((l.map Enc.cells)[k]?).getD [zeroD (CT.int .i64)]) = enc (nth l k) := row_enc l k rfl
def byteZ (s : ByteArray) (k : Nat) : Int := ((s[k]?).map fun (c : UInt8) => (c.toNat : Int)).getD 0
theorem at_byte (s : ByteArray) (k : Nat) : ((s[k]?).map fun (c : UInt8) => (c.toNat : Int)).getD 0 = byteZ s k := rfl
theorem fits_str {s : ByteArray} (h : Fits (.str s)) : s.size ≤ 9223372036854775807 := by simpa [Fits, maxLen] using h
theorem len_str (s : ByteArray) : lenD (.str s) = s.size := rfl
theorem ty_str (s : ByteArray) : RowTy tbl.tab [.str] (Enc.cells s) := by simp [cells_str, RowTy, HasTy]
theorem tab_str : tbl.tab 9 = [.str] := by kernel_rfl
theorem ty_strS (l : List ByteArray) : HasTy tbl.tab (.sl 9) (encS l) := by
 show RowsTy _ (tbl.tab _) _
 rw [tab_str]; exact rowsTy_map ty_str l
theorem toList_eqB (a b : ByteArray) : (a.toList == b.toList) = decide (a = b) := by
 rw [Bool.eq_iff_iff]
 simp only [beq_iff_eq, decide_eq_true_eq]
 refine ⟨fun h => ?_, fun h => by rw [h]⟩
 rw [ByteArray.toList_eq, ByteArray.toList_eq] at h
 cases a; cases b; simp_all [Array.toList_inj]
theorem cmpS_eql (a b : ByteArray) : cmpS .eql a b = decide (a = b) := toList_eqB a b
theorem cmpS_neq (a b : ByteArray) : cmpS .neq a b = !decide (a = b) := by rw [← toList_eqB]; rfl
def ltB (a b : ByteArray) : Bool := Op.bytesLess a.toList b.toList
theorem cmpS_lss (a b : ByteArray) : cmpS .lss a b = ltB a b := rfl
theorem cmpS_geq (a b : ByteArray) : cmpS .geq a b = !ltB a b := rfl
theorem sEq : (∀ s : ByteArray, lenD (.str s) = s.size) ∧ (∀ (s : ByteArray) (k : Nat), ((s[k]?).map fun (c : UInt8) => (c.toNat : Int)).getD 0 = byteZ s k) ∧ (∀ a b : ByteArray, cmpS .eql a b = decide (a = b)) ∧ (∀ a b : ByteArray, cmpS .neq a b = !decide (a = b)) ∧ (∀ a b : ByteArray, cmpS .lss a b = ltB a b) ∧ (∀ a b : ByteArray, cmpS .geq a b = !ltB a b) := ⟨len_str, at_byte, cmpS_eql, cmpS_neq, cmpS_lss, cmpS_geq⟩
structure Layer where
 name : ByteArray
 count : Int
 deriving DecidableEq, Inhabited
instance : Enc Layer := { cells := fun v => [.str v.name, .int .i64 v.count] }
theorem cells_Layer (v : Layer) : Enc.cells v = [.str v.name, .int .i64 v.count] := rfl
theorem row_Layer (l : List Layer) (k : Nat) : D.agg (((l.map Enc.cells)[k]?).getD [zeroD (CT.str), zeroD (CT.int .i64)]) = enc (nth l k) := row_enc l k rfl
theorem eq_Layer (v u : Layer) : v = u ↔ v.name = u.name ∧ v.count = u.count := ⟨fun h => by subst h; simp, fun h => by cases v; cases u; simp_all⟩
theorem eqv_Layer (v u : Layer) : eqvL (Enc.cells v) (Enc.cells u) = decide (v = u) := by
 rw [Bool.eq_iff_iff]
 simp [cells_Layer, eqvL, eqvD, toList_eqB, eq_Layer, and_assoc]
theorem ty_Layer (v : Layer) : RowTy tbl.tab [.str, .int .i64] (Enc.cells v) := ⟨trivial, rfl, trivial⟩
theorem tab_Layer : tbl.tab 52 = [.str, .int .i64] := by kernel_rfl
theorem ty_LayerS (l : List Layer) : HasTy tbl.tab (.sl 52) (encS l) := by
 show RowsTy _ (tbl.tab _) _
 rw [tab_Layer]; exact rowsTy_map ty_Layer l
structure Cell where
 key : ByteArray
 val : Int
 deriving DecidableEq, Inhabited
instance : Enc Cell := { cells := fun v => [.str v.key, .int .i64 v.val] }
theorem cells_Cell (v : Cell) : Enc.cells v = [.str v.key, .int .i64 v.val] := rfl
theorem row_Cell (l : List Cell) (k : Nat) : D.agg (((l.map Enc.cells)[k]?).getD [zeroD (CT.str), zeroD (CT.int .i64)]) = enc (nth l k) := row_enc l k rfl
theorem eq_Cell (v u : Cell) : v = u ↔ v.key = u.key ∧ v.val = u.val := ⟨fun h => by subst h; simp, fun h => by cases v; cases u; simp_all⟩
theorem eqv_Cell (v u : Cell) : eqvL (Enc.cells v) (Enc.cells u) = decide (v = u) := by
 rw [Bool.eq_iff_iff]
 simp [cells_Cell, eqvL, eqvD, toList_eqB, eq_Cell, and_assoc]
theorem ty_Cell (v : Cell) : RowTy tbl.tab [.str, .int .i64] (Enc.cells v) := ⟨trivial, rfl, trivial⟩
theorem tab_Cell : tbl.tab 125 = [.str, .int .i64] := by kernel_rfl
theorem ty_CellS (l : List Cell) : HasTy tbl.tab (.sl 125) (encS l) := by
 show RowsTy _ (tbl.tab _) _
 rw [tab_Cell]; exact rowsTy_map ty_Cell l
structure Core where
 kind : ByteArray
 on : Bool
 broken : Bool
 cells : List Cell
 count : Int
 deriving DecidableEq, Inhabited
instance : Enc Core := { cells := fun v => [.str v.kind, .bool v.on, .bool v.broken, encS v.cells, .int .i64 v.count] }
theorem cells_Core (v : Core) : Enc.cells v = [.str v.kind, .bool v.on, .bool v.broken, encS v.cells, .int .i64 v.count] := rfl
theorem eq_Core (v u : Core) : v = u ↔ v.kind = u.kind ∧ v.on = u.on ∧ v.broken = u.broken ∧ v.cells = u.cells ∧ v.count = u.count := ⟨fun h => by subst h; simp, fun h => by cases v; cases u; simp_all⟩
theorem ty_Core (v : Core) : RowTy tbl.tab [.str, .bool, .bool, .sl 125, .int .i64] (Enc.cells v) := ⟨trivial, trivial, trivial, ty_CellS _, rfl, trivial⟩
structure Call where
 method : ByteArray
 key : ByteArray
 val : Int
 text : ByteArray
 deriving DecidableEq, Inhabited
instance : Enc Call := { cells := fun v => [.str v.method, .str v.key, .int .i64 v.val, .str v.text] }
theorem cells_Call (v : Call) : Enc.cells v = [.str v.method, .str v.key, .int .i64 v.val, .str v.text] := rfl
theorem row_Call (l : List Call) (k : Nat) : D.agg (((l.map Enc.cells)[k]?).getD [zeroD (CT.str), zeroD (CT.str), zeroD (CT.int .i64), zeroD (CT.str)]) = enc (nth l k) := row_enc l k rfl
theorem ty_Call (v : Call) : RowTy tbl.tab [.str, .str, .int .i64, .str] (Enc.cells v) := ⟨trivial, trivial, rfl, trivial, trivial⟩
theorem tab_Call : tbl.tab 39 = [.str, .str, .int .i64, .str] := by kernel_rfl
theorem ty_CallS (l : List Call) : HasTy tbl.tab (.sl 39) (encS l) := by
 show RowsTy _ (tbl.tab _) _
 rw [tab_Call]; exact rowsTy_map ty_Call l
structure Reply where
 code : Int
 val : Int
 text : ByteArray
 want : Int
 had : Int
 deriving DecidableEq, Inhabited
instance : Enc Reply := { cells := fun v => [.int .i64 v.code, .int .i64 v.val, .str v.text, .int .i64 v.want, .int .i64 v.had] }
theorem cells_Reply (v : Reply) : Enc.cells v = [.int .i64 v.code, .int .i64 v.val, .str v.text, .int .i64 v.want, .int .i64 v.had] := rfl
theorem row_Reply (l : List Reply) (k : Nat) : D.agg (((l.map Enc.cells)[k]?).getD [zeroD (CT.int .i64), zeroD (CT.int .i64), zeroD (CT.str), zeroD (CT.int .i64), zeroD (CT.int .i64)]) = enc (nth l k) := row_enc l k rfl
theorem eq_Reply (v u : Reply) : v = u ↔ v.code = u.code ∧ v.val = u.val ∧ v.text = u.text ∧ v.want = u.want ∧ v.had = u.had := ⟨fun h => by subst h; simp, fun h => by cases v; cases u; simp_all⟩
theorem eqv_Reply (v u : Reply) : eqvL (Enc.cells v) (Enc.cells u) = decide (v = u) := by
 rw [Bool.eq_iff_iff]
 simp [cells_Reply, eqvL, eqvD, toList_eqB, eq_Reply, and_assoc]
theorem ty_Reply (v : Reply) : RowTy tbl.tab [.int .i64, .int .i64, .str, .int .i64, .int .i64] (Enc.cells v) := ⟨rfl, rfl, trivial, rfl, rfl, trivial⟩
theorem tab_Reply : tbl.tab 34 = [.int .i64, .int .i64, .str, .int .i64, .int .i64] := by kernel_rfl
theorem ty_ReplyS (l : List Reply) : HasTy tbl.tab (.sl 34) (encS l) := by
 show RowsTy _ (tbl.tab _) _
 rw [tab_Reply]; exact rowsTy_map ty_Reply l
structure Part where
 core : Core
 layers : List Layer
 deriving DecidableEq, Inhabited
instance : Enc Part := { cells := fun v => [.str v.core.kind, .bool v.core.on, .bool v.core.broken, encS v.core.cells, .int .i64 v.core.count, encS v.layers] }
theorem cells_Part (v : Part) : Enc.cells v = [.str v.core.kind, .bool v.core.on, .bool v.core.broken, encS v.core.cells, .int .i64 v.core.count, encS v.layers] := rfl
theorem eq_Part (v u : Part) : v = u ↔ v.core = u.core ∧ v.layers = u.layers := ⟨fun h => by subst h; simp, fun h => by cases v; cases u; simp_all⟩
theorem ty_Part (v : Part) : RowTy tbl.tab [.str, .bool, .bool, .sl 125, .int .i64, .sl 52] (Enc.cells v) := ⟨trivial, trivial, trivial, ty_CellS _, rfl, ty_LayerS _, trivial⟩
theorem nth_mem {α : Type} [Inhabited α] {l : List α} {k : Nat} (h : k < l.length) : nth l k ∈ l := by
 simp [nth, List.getD, List.getElem?_eq_getElem h]
theorem ext_nth {α : Type} [Inhabited α] {l l' : List α} (hl : l.length = l'.length) (h : ∀ i, i < l.length → nth l i = nth l' i) : l = l' := by
 refine List.ext_getElem hl fun i h1 h2 => ?_
 have := h i h1
 simpa [nth, List.getD, List.getElem?_eq_getElem h1, List.getElem?_eq_getElem h2] using this
def allTo (p : Nat → Bool) : Nat → Bool
 | 0 => true
 | n + 1 => allTo p n && p n
theorem allTo_iff {p : Nat → Bool} : ∀ {n : Nat}, allTo p n = true ↔ ∀ i, i < n → p i = true
 | 0 => by simp [allTo]
 | n + 1 => by
  simp only [allTo, Bool.and_eq_true, allTo_iff]
  exact ⟨fun ⟨h1, h2⟩ i hi => by
   by_cases e : i = n
   ·subst e; exact h2
   ·exact h1 i (by omega), fun h => ⟨fun i hi => h i (by omega), h n (by omega)⟩⟩
theorem allTo_bad {p : Nat → Bool} {n k : Nat} (hk : k < n) (h : p k = false) : allTo p n = false := by
 rcases hb : allTo p n with _ | _
 ·rfl
 ·have := allTo_iff.1 hb k hk; rw [h] at this; cases this
end Go.Proofs.YtbgcaneflfdddaaGreatDoor
/- Versions. -/
namespace Go.Proofs.YtbgcaneflfdddaaGreatDoor
open Go.RowKit Go
variable [GC]
end Go.Proofs.YtbgcaneflfdddaaGreatDoor
/- Plain functions on versions. No program in sight. -/
namespace Go.Proofs.YtbgcaneflfdddaaGreatDoor
def isFaceB (f : Int) : Bool := decide (0 ≤ f) && decide (f ≤ 63)
theorem isFaceB_nat {f : Int} (h : isFaceB f = true) : ∃ n : Nat, f = n ∧ n < 64 := by
 unfold isFaceB at h; simp at h; exact ⟨f.toNat, by omega, by omega⟩
def cmpV (a b c d : Int) : Int := if a < c ∨ (a = c ∧ b < d) then -1 else if a = c ∧ b = d then 0 else 1
def sinceM : Nat → Int | 0 => 1 | 1 => 1 | 2 => 1 | 3 => 1 | 4 => 2 | 5 => 2 | _ => 0
def sinceN : Nat → Int | 0 => 0 | 1 => 0 | 2 => 1 | 3 => 2 | 4 => 0 | 5 => 1 | _ => 0
def allows (a b : Int) (k : Nat) : Bool := decide (cmpV (sinceM k) (sinceN k) a b ≤ 0)
end Go.Proofs.YtbgcaneflfdddaaGreatDoor
/- Plain functions on faces. No program in sight. -/
namespace Go.Proofs.YtbgcaneflfdddaaGreatDoor
end Go.Proofs.YtbgcaneflfdddaaGreatDoor
/- Faces and versions: what the program and the reference compute. -/
namespace Go.Proofs.YtbgcaneflfdddaaGreatDoor
open Go.RowKit Go
variable [GC]
theorem c_impl_IsFace (f : Int) : Fun Tryz.prog 69 none [.int .i64 f] (.bool (isFaceB f)) [] := by
 refine Fun.ofV vc_impl_IsFace_ok ty_impl_IsFace_ok rfl ?_ (fun hfit => ?_)
 ·simp [ty_impl_IsFace, HasTys, HasVT, HasV1, HasTy]
 simp only [vc_impl_IsFace, VC.den, E.den, dEq, gsH_nil, and_true]
 simp [cmpI, isFaceB]
theorem allow_shl : ∀ k : Fin 6, arI .shl .i64 1 ((k : Nat) : Int) = ((2 ^ (k : Nat) : Nat) : Int) := by decide +kernel
theorem bit_of2 : ∀ n : Fin 64, ∀ k : Fin 6, cmpI .eql (arI .rem .i64 (arI .shr .i64 ((n : Nat) : Int) ((k : Nat) : Int)) 2) 1 = n.val.testBit k.val := by decide +kernel
end Go.Proofs.YtbgcaneflfdddaaGreatDoor
/- General lemmas on worlds, cells and results, used by all walks of this seat. Nothing is assumed. -/
namespace Go.Proofs.YtbgcaneflfdddaaGreatDoor
open Go.RowKit
theorem bcell {B : Nat} {W w1 : World} (hb : Below B W w1) : (∀ b o, b < B → w1.cell? ⟨b, o, none⟩ = W.cell? ⟨b, o, none⟩) ∧ (∀ b o, b < B → w1.frozen? ⟨b, o, none⟩ = W.frozen? ⟨b, o, none⟩) :=
 ⟨fun b o h => hb.cell (p := ⟨b, o, none⟩) h, fun b o h => hb.frozen (p := ⟨b, o, none⟩) h⟩
theorem cell_keep {w w1 : World} {p : Addr} {v : Value} (hb : Below w.heap.size w w1) (h : w.cell? p = some v) : w1.cell? p = some v := by
 rw [hb.cell (block_lt_of_cell h)]; exact h
theorem bt {w a b : World} (h : Below w.heap.size w a) (k : Below a.heap.size a b) : Below w.heap.size w b := h.trans (k.mono h.size)
def RBlk (w : World) (g : Nat) (t : TypeId) (cs : Array Value) : Prop := w.heap[g]? = some (.cells cs t (0, 0))
section
variable {w w' : World} {g : Nat} {t : TypeId} {cs : Array Value}
theorem RBlk.lt (h : RBlk w g t cs) : g < w.heap.size := by
 rcases Nat.lt_or_ge g w.heap.size with hlt | hge
 ·exact hlt
 ·unfold RBlk at h; rw [Array.getElem?_eq_none hge] at h; cases h
theorem RBlk.cell (h : RBlk w g t cs) (i : Nat) : w.cell? ⟨g, i, none⟩ = cs[i]? := cell_of_row w g i cs t (0, 0) h
theorem RBlk.frozen (h : RBlk w g t cs) (i : Nat) : w.frozen? ⟨g, i, none⟩ = false := by
 unfold RBlk at h
 simp [World.frozen?, h]
theorem RBlk.new (w : World) (t : TypeId) (cs : Array Value) : RBlk (w.alloc (.cells cs t)) w.heap.size t cs := heap_alloc_new w _
theorem RBlk.alloc (h : RBlk w g t cs) (o : Obj) : RBlk (w.alloc o) g t cs := (Below.heap_alloc w o g h.lt).trans h
theorem RBlk.set_ (h : RBlk w g t cs) (i : Nat) (u : Value) : RBlk (w.setCell ⟨g, i, none⟩ u) g t (cs.setIfInBounds i u) := by
 unfold RBlk at h ⊢
 simp [World.setCell, Array.getElem?_modify, h]
theorem RBlk.far (h : RBlk w g t cs) {p : Addr} (hp : g ≠ p.block) (u : Value) : RBlk (w.setCell p u) g t cs := (Below.heap_setCell w p u g hp).trans h
theorem RBlk.below {B : Nat} (h : RBlk w g t cs) (hb : Below B w w') (hg : g < B) : RBlk w' g t cs := (hb.block g hg).trans h
end
theorem results_blk {P : Program} {fn : Func} {p : Tmp} {ty : TypeId} (h : fn.results = #[.cell p ty]) (tmps : Array Value) (w : World) {g : Nat} {t : TypeId} {cs : Array Value} (d : TypeDesc)
  (hp : tmps.getD p undef = .pointer (some ⟨g, 0, none⟩)) (hg : RBlk w g t cs) (hu : P.underlying ty = some d) (hd : (match d with | .struct _ | .array _ _ => true | _ => false) = true) (hi : (P.info? ty).map (·.size) = some cs.size) :
  (results fn tmps).run P w = .ok (.agg cs) w := results_cell_row h tmps w g t cs (0, 0) d hp hg hu hd hi
theorem ofInt_i64 (a : Nat) (ha : a < 9223372036854775808) : (BitVec.ofInt 64 (a : Int)).toNat = a := by
 rw [BitVec.ofInt_natCast, BitVec.toNat_ofNat]; exact Nat.mod_eq_of_lt (by omega)
theorem i64_and_nat (a b : Nat) (ha : a < 9223372036854775808) (hb : b < 9223372036854775808) : bits .and .i64 (a : Int) (b : Int) = ((a &&& b : Nat) : Int) := by
 have hx : a &&& b < 2 ^ 63 := Nat.and_lt_two_pow _ (by omega)
 show IntKind.i64.wrap ((BitVec.ofInt 64 (a : Int) &&& BitVec.ofInt 64 (b : Int)).toNat : Int) = _
 rw [BitVec.toNat_and, ofInt_i64 a ha, ofInt_i64 b hb, IntKind.wrap_i64]
 omega
end Go.Proofs.YtbgcaneflfdddaaGreatDoor
/- The reference's cursor: how it is made. -/
namespace Go.Proofs.YtbgcaneflfdddaaGreatDoor
open Go.RowKit
variable [GC]
def byteAt (rows : List (List D)) (k : Nat) : Int := match rows[k]? with
 | some [.int _ n] => n
 | _ => 0
def seedStep (h c : Int) : Int := bits .and .i64 (wrap64 (wrap64 (wrap64 (h * 167) + c) + 29)) 1073741823
def seedTo (rows : List (List D)) : Nat → Int
 | 0 => wrap64 (739391 + wrap64 (3 * rows.length))
 | k + 1 => seedStep (seedTo rows k) (byteAt rows k)
theorem l1New_walk (rows : List (List D)) (hty : ∀ r ∈ rows, ∃ n, r = [.int .u8 n]) (a : Option Addr) (cap : Nat) (w : World) (hl : rows.length ≤ maxLen) (hr : ∀ k, k < rows.length → ∃ b o, a = some ⟨b, o, none⟩ ∧ w.cell? ⟨b, o + k, none⟩ = some (.int .u8 (byteAt rows k)) ∧ 0 ≤ byteAt rows k ∧ byteAt rows k ≤ 255) :
  Calls Tryz.prog 50 #[.slice a rows.length cap] w fun e w' => ∃ h : Int, ∃ n : Nat, n = min rows.length 4000 ∧ h = seedTo rows n ∧ e = .returned (.pointer (some ⟨w.heap.size, 0, none⟩)) ∧ w'.heap[w.heap.size]? = some (.cells #[.slice a rows.length cap, .int .i64 0, .int .i64 h] 107 (0, 0)) ∧ Below w.heap.size w w' := by
 go_enter Tryz.func50, Tryz.ntmps50
 go_wp2_with fail
 go_loop [3, 4] (fun h i => ∃ k : Nat, k ≤ rows.length ∧ k ≤ 4000 ∧ i = .int .i64 k ∧ h = .int .i64 (seedTo rows k)) (fun _ i => 4001 - (intOf i).toNat)
 case atStart => exact ⟨0, by omega, by omega, rfl, rfl⟩
 case round =>
  obtain ⟨k, hk, hk', rfl, rfl⟩ := hrel
  by_cases hlt : k < rows.length
  ·obtain ⟨b, o, rfl, hc, hb⟩ := hr k hlt
   by_cases h4 : k < 4000
   ·go_wp2
    exact ⟨⟨k + 1, by omega, by omega, by simp, rfl⟩, by simp [intOf]; omega⟩
   ·obtain rfl : k = 4000 := by omega
    go_wp2
    go_ret
    refine ⟨rfl, ?_, by go_grown⟩
    exact heap_alloc_new _ _
  ·obtain rfl : k = rows.length := by omega
   go_wp2
   go_ret
   refine ⟨rfl, ?_, by go_grown⟩
   exact heap_alloc_new _ _
theorem seedTo_in (rows : List (List D)) : ∀ n, IntKind.i64.min ≤ seedTo rows n ∧ seedTo rows n ≤ IntKind.i64.max
 | 0 => by
  have e : IntKind.i64.min = -9223372036854775808 ∧ IntKind.i64.max = 9223372036854775807 := by decide
  rw [e.1, e.2]; unfold seedTo wrap64; omega
 | n + 1 => by
  show IntKind.i64.min ≤ IntKind.i64.wrap _ ∧ IntKind.i64.wrap _ ≤ IntKind.i64.max
  exact wrap_within _ _
theorem c_spec_l1New (rows : List (List D)) (hty : ∀ r ∈ rows, ∃ n, r = [.int .u8 n]) : FunN Tryz.prog 50 [.sl rows] [.sl rows, .int .i64 0, .int .i64 (seedTo rows (min rows.length 4000))] := by
 refine ⟨by kernel_rfl, fun w M vs hM0 hr => ?_⟩
 have hM := hM0.1
 obtain ⟨v, q, rfl, hv, rfl⟩ := hr
 have hv' := hv
 obtain ⟨a, len, cap, rfl, hlen, hlc, hcm, hnone, hcells⟩ := hv
 subst hlen
 refine (l1New_walk rows hty a cap w (by omega) fun k hk => ?_).mono ?_
 ·rcases a with _ | ⟨b, o, s⟩
  ·have := hnone rfl; omega
  ·obtain ⟨hs, hrw⟩ := hcells b o s rfl
   have hs := hs (by omega); subst hs
   have hk' : rows[k]? = some rows[k] := List.getElem?_eq_getElem hk
   obtain ⟨n, hn⟩ := hty rows[k] (List.getElem_mem hk)
   have hg := hrw.get (n := 1) (fun r hr => by obtain ⟨m, rfl⟩ := hty r hr; rfl) hk'
   rw [hn] at hg
   obtain ⟨⟨u, h1, _, h2, h3⟩, _⟩ := hg
   subst h2
   have hb : byteAt rows k = n := by unfold byteAt; rw [hk', hn]
   rw [hb]
   refine ⟨b, o, rfl, by simpa using h1, ?_⟩
   have e : IntKind.u8.min = 0 ∧ IntKind.u8.max = 255 := by decide
   rw [e.1, e.2] at h3; exact h3
 ·rintro e w' ⟨h, n, rfl, rfl, rfl, hblk, hb⟩
  refine ⟨w.heap.size, _, _, rfl, Nat.le_refl _, hblk, ?_, hb⟩
  refine ⟨_, _, rfl, R.keep (Keeps.below hb fun p hp h => ?_) _ _ hv', _, _, rfl, ⟨rfl, by decide⟩, _, _, rfl, ⟨rfl, seedTo_in _ _⟩, rfl⟩
  rcases h with h | h
  ·exact h
  ·omega
end Go.Proofs.YtbgcaneflfdddaaGreatDoor
/- What the reference draws: each draw ends, and what its answer is like. -/
namespace Go.Proofs.YtbgcaneflfdddaaGreatDoor
open Go.RowKit Go
variable [GC]
def curTy : List CT := [.sl 5, .int .i64, .int .i64]
theorem tab_u8 : tbl.tab 5 = [.int .u8] := by kernel_rfl
def Cur (cs : List D) : Prop := ∃ rows i h, cs = [.sl rows, .int .i64 i, .int .i64 h] ∧ RowsTy tbl.tab [.int .u8] rows ∧ 0 ≤ i
theorem Cur.ty {cs : List D} (h : Cur cs) : RowTy tbl.tab curTy cs := by
 obtain ⟨rows, i, h, rfl, h1, _⟩ := h
 refine ⟨?_, rfl, rfl, trivial⟩
 show RowsTy _ (tbl.tab _) _
 rw [tab_u8]; exact h1
def Dr (f : FuncId) (xs : List D) (T : D → Prop) : Prop := ∀ cs, Cur cs → ∃ r cs', T r ∧ Cur cs' ∧ Fun Tryz.prog f (some cs) xs r cs'
theorem Dr.of {f : FuncId} {V : VC} {Γ : List VT} {xs : List D} {T : D → Prop} (hV : vcOf Tryz.prog tbl rbt f (some curTy) = V) (hok : V.ok = true) (hΓ : tyOf Tryz.prog tbl f (some curTy) = Γ)
  (hty : ∀ cs, RowTy tbl.tab curTy cs → HasTys tbl.tab Γ (xs ++ cs)) (r0 : D) (hT : T r0)
  (hden : ∀ rows i h, FitsL xs → (rows.length : Int) ≤ 9223372036854775807 → RowsTy tbl.tab [.int .u8] rows → 0 ≤ i → V.den Tryz.prog tbl.tab (xs ++ [.sl rows, .int .i64 i, .int .i64 h]) (fun d bs => T d ∧ Cur bs) []) : Dr f xs T := by
 intro cs hc
 have hc' := hc
 obtain ⟨rows, i, h, rfl, h1, h2⟩ := hc
 obtain ⟨⟨r, cs'⟩, ⟨q1, q2⟩, q3⟩ := Fun.ex (T := fun d bs => T d ∧ Cur bs) (r0 := (r0, [.sl rows, .int .i64 i, .int .i64 h])) hV hok hΓ tbl_ok mo ⟨hT, hc'⟩ (bc := some [.sl rows, .int .i64 i, .int .i64 h]) (ds := xs) rfl (hty _ hc'.ty) (fun h => by cases h)
  (fun f1 f2 => hden rows i h f1 (by simp [FitsL, Fits, maxLen] at f2; omega) h1 h2)
 exact ⟨r, cs', q1, q2, q3⟩
def DrR (f : FuncId) (xs : List D) (T : D → Prop) (rt : List (Nat × Nat)) : Prop := ∀ cs, Cur cs → ∃ r cs', T r ∧ Cur cs' ∧ FunR Tryz.prog f (some cs) xs r cs' rt
theorem Dr.ofR {f : FuncId} {xs : List D} {T : D → Prop} {rt : List (Nat × Nat)} (h : DrR f xs T rt) : Dr f xs T := fun cs hc => by
 obtain ⟨r, cs', h1, h2, h3⟩ := h cs hc
 exact ⟨r, cs', h1, h2, .ofR h3⟩
theorem DrR.of {f : FuncId} {V : VC} {Γ : List VT} {xs : List D} {T : D → Prop} {rt : List (Nat × Nat)} (hV : vcOf Tryz.prog tbl rbt f (some curTy) = V) (hrt : rbt.get f = rt) (hok : V.ok = true) (hΓ : tyOf Tryz.prog tbl f (some curTy) = Γ)
  (hty : ∀ cs, RowTy tbl.tab curTy cs → HasTys tbl.tab Γ (xs ++ cs)) (r0 : D) (hT : T r0)
  (hden : ∀ rows i h, FitsL xs → (rows.length : Int) ≤ 9223372036854775807 → RowsTy tbl.tab [.int .u8] rows → 0 ≤ i → V.den Tryz.prog tbl.tab (xs ++ [.sl rows, .int .i64 i, .int .i64 h]) (fun d bs => T d ∧ Cur bs) []) : DrR f xs T rt := by
 intro cs hc
 have hc' := hc
 obtain ⟨rows, i, h, rfl, h1, h2⟩ := hc
 obtain ⟨⟨r, cs'⟩, ⟨q1, q2⟩, q3⟩ := FunR.ex (T := fun d bs => T d ∧ Cur bs) (r0 := (r0, [.sl rows, .int .i64 i, .int .i64 h])) hV hok hΓ tbl_ok mo ⟨hT, hc'⟩ (bc := some [.sl rows, .int .i64 i, .int .i64 h]) (ds := xs) rfl (hty _ hc'.ty) (fun h => by cases h)
  (fun f1 f2 => hden rows i h f1 (by simp [FitsL, Fits, maxLen] at f2; omega) h1 h2)
 exact ⟨r, cs', q1, q2, hrt ▸ q3⟩
theorem den_drawR {env : List D} {Q : D → List D → Prop} {L : List (List D → Prop)} {f : FuncId} {bx args : List E} {vt : VT} {k : VC} {xs cs : List D} {T : D → Prop} {rt : List (Nat × Nat)}
  (hb : bx.map (·.den env) = cs) (ha : args.map (·.den env) = xs) (hc : Cur cs) (hD : DrR f xs T rt) (hT : ∀ r, T r → HasVT tbl.tab vt r)
  (hk : ∀ r rows i h, T r → RowsTy tbl.tab [.int .u8] rows → 0 ≤ i → k.den Tryz.prog tbl.tab (env ++ [r, .sl rows, .int .i64 i, .int .i64 h]) Q L) : (VC.rq (.callR f (some bx) args vt curTy rt) k).den Tryz.prog tbl.tab env Q L := by
 obtain ⟨r, cs', q1, q2, q3⟩ := hD cs hc
 have hty := q2.ty
 obtain ⟨rows, i, h, rfl, h1, h2⟩ := q2
 exact ⟨r, _, hT r q1, hty, by rw [← hb, ← ha] at q3; exact q3, hk r rows i h q1 h1 h2⟩
theorem den_draw {env : List D} {Q : D → List D → Prop} {L : List (List D → Prop)} {gs : Gd} {f : FuncId} {bx args : List E} {vt : VT} {k : VC} {xs cs : List D} {T : D → Prop}
  (hb : bx.map (·.den env) = cs) (ha : args.map (·.den env) = xs) (hc : Cur cs) (hD : Dr f xs T) (hT : ∀ r, T r → HasVT tbl.tab vt r)
  (hk : ∀ r rows i h, T r → RowsTy tbl.tab [.int .u8] rows → 0 ≤ i → k.den Tryz.prog tbl.tab (env ++ [r, .sl rows, .int .i64 i, .int .i64 h]) Q L) : (VC.rq (.call gs f (some bx) args vt curTy) k).den Tryz.prog tbl.tab env Q L := by
 obtain ⟨r, cs', q1, q2, q3⟩ := hD cs hc
 have hty := q2.ty
 obtain ⟨rows, i, h, rfl, h1, h2⟩ := q2
 exact ⟨r, _, hT r q1, hty, fun _ => by rw [← hb, ← ha] at q3; exact q3, hk r rows i h q1 h1 h2⟩
def isI (r : D) : Prop := ∃ x, r = .int .i64 x
theorem and255 (x : Int) : 0 ≤ arI .and .i64 x 255 ∧ arI .and .i64 x 255 ≤ 255 := by
 have h : ((BitVec.ofInt 64 x &&& BitVec.ofInt 64 255).toNat : Int) ≤ 255 := by
  rw [BitVec.toNat_and]
  have : (BitVec.ofInt 64 x).toNat &&& (BitVec.ofInt 64 255).toNat ≤ (BitVec.ofInt 64 255).toNat := Nat.and_le_right
  have e : (BitVec.ofInt 64 255).toNat = 255 := by decide
  omega
 show 0 ≤ IntKind.i64.wrap ((BitVec.ofInt 64 x &&& BitVec.ofInt 64 255).toNat : Int) ∧ IntKind.i64.wrap ((BitVec.ofInt 64 x &&& BitVec.ofInt 64 255).toNat : Int) ≤ 255
 rw [wrap_i64 (by omega) (by omega)]; omega
theorem d_l1Byte : Dr 90 [] (fun r => ∃ x, r = .int .i64 x ∧ 0 ≤ x ∧ x ≤ 255) := by
 refine Dr.of vc_spec_l1Byte_ok rfl ty_spec_l1Byte_ok (fun cs h => ?_) (.int .i64 0) ⟨0, rfl, by omega, by omega⟩ fun rows i h f1 hl hr hi => ?_
 ·obtain ⟨rows, i, h, rfl, h1⟩ : ∃ a b c, cs = [a, b, c] ∧ RowTy tbl.tab curTy [a, b, c] := by
   match cs, h with | [a, b, c], h => exact ⟨a, b, c, rfl, h⟩
  exact ⟨h1.1, h1.2.1, h1.2.2.1, trivial⟩
 unfold vc_spec_l1Byte
 refine den_cond (fun _ => rfl) (den_cond (fun _ => rfl) (den_ite (fun h => ?_) (fun h => ?_)))
 ·simp [E.den, cmpI, lenD] at h
  refine den_cond (fun _ => ?_) ?_
  ·simp [E.den, lenD]; omega
  ·refine ⟨⟨_, rfl, and255 _⟩, rows, _, _, rfl, hr, ?_⟩
   simp only [E.den, List.getD_cons_zero, List.getD_cons_succ, List.nil_append, D.toI_int]
   rw [ar_add (by omega) (by omega)]; omega
 ·exact ⟨⟨_, rfl, and255 _⟩, rows, _, _, rfl, hr, hi⟩
theorem cur_tys {cs : List D} (h : RowTy tbl.tab curTy cs) : HasTys tbl.tab [.one (.c (.sl 5)), .one (.c (.int .i64)), .one (.c (.int .i64))] cs := by
 match cs, h with | [a, b, c], h => exact ⟨h.1, h.2.1, h.2.2.1, trivial⟩
def isB (r : D) : Prop := ∃ b, r = .bool b
def isBel (n : Int) (r : D) : Prop := ∃ x, r = .int .i64 x ∧ 0 ≤ x ∧ (0 < n → x < n)
theorem isI.ty {r : D} (h : isI r) : HasVT tbl.tab (.one (.c (.int .i64))) r := by obtain ⟨x, rfl⟩ := h; rfl
theorem isB.ty {r : D} (h : isB r) : HasVT tbl.tab (.one (.c .bool)) r := by obtain ⟨x, rfl⟩ := h; trivial
theorem isBel.ty {n : Int} {r : D} (h : isBel n r) : HasVT tbl.tab (.one (.c (.int .i64))) r := by obtain ⟨x, rfl, _⟩ := h; rfl
theorem byte_ty {r : D} (h : ∃ x, r = .int .i64 x ∧ 0 ≤ x ∧ x ≤ 255) : HasVT tbl.tab (.one (.c (.int .i64))) r := by obtain ⟨x, rfl, _⟩ := h; rfl
theorem rem_in {x n : Int} (hx : 0 ≤ x) (hn : 0 < n) : 0 ≤ arI .rem .i64 x n ∧ arI .rem .i64 x n < n := ⟨Int.tmod_nonneg _ hx, Int.tmod_lt_of_pos _ hn⟩
theorem ar_mul {x y : Int} (h1 : -9223372036854775808 ≤ x * y) (h2 : x * y ≤ 9223372036854775807) : arI .mul .i64 x y = x * y := wrap_i64 h1 h2
theorem d_l1Below (n : Int) : Dr 52 [.int .i64 n] (isBel n) := by
 refine Dr.of vc_spec_l1Below_ok rfl ty_spec_l1Below_ok (fun cs h => by exact ⟨rfl, cur_tys h⟩) (.int .i64 0) ⟨0, rfl, by omega, fun h => h⟩ fun rows i sd f1 hl hr hi => ?_; (simp only [cA]); unfold vc_spec_l1Below
 refine den_ite (fun h => ?_) (fun h => ?_)
 ·simp [E.den, cmpI] at h
  exact ⟨⟨_, rfl, by omega, by omega⟩, _, _, _, rfl, hr, hi⟩
 simp [E.den, cmpI] at h
 refine den_ite (fun h2 => ?_) (fun h2 => ?_)
 ·(apply den_draw; (iterate 2 (focus (simp only [VC.den, E.den, dEq, gsH_nil, and_true]; try exact rfl))); (focus (exact ⟨_, _, _, rfl, by assumption, by assumption⟩)); (focus (first | exact d_l1Byte | exact Dr.ofR (d_l1Byte))); (focus (exact fun _ h => byte_ty h)); rintro _ rows i sd ⟨x, rfl, hx⟩ hr hi; (simp only [cA]))
  refine den_cond (fun _ => ?_) ?_
  ·simp [E.den, cmpI]; omega
  exact ⟨⟨_, rfl, (rem_in hx.1 h).1, fun _ => (rem_in hx.1 h).2⟩, _, _, _, rfl, hr, hi⟩
 ·(apply den_draw; (iterate 2 (focus (simp only [VC.den, E.den, dEq, gsH_nil, and_true]; try exact rfl))); (focus (exact ⟨_, _, _, rfl, by assumption, by assumption⟩)); (focus (first | exact d_l1Byte | exact Dr.ofR (d_l1Byte))); (focus (exact fun _ h => byte_ty h)); rintro _ rows i sd ⟨x, rfl, hx⟩ hr hi; (simp only [cA]))
  (apply den_draw; (iterate 2 (focus (simp only [VC.den, E.den, dEq, gsH_nil, and_true]; try exact rfl))); (focus (exact ⟨_, _, _, rfl, by assumption, by assumption⟩)); (focus (first | exact d_l1Byte | exact Dr.ofR (d_l1Byte))); (focus (exact fun _ h => byte_ty h)); rintro _ rows i sd ⟨y, rfl, hy⟩ hr hi; (simp only [cA]))
  (apply den_draw; (iterate 2 (focus (simp only [VC.den, E.den, dEq, gsH_nil, and_true]; try exact rfl))); (focus (exact ⟨_, _, _, rfl, by assumption, by assumption⟩)); (focus (first | exact d_l1Byte | exact Dr.ofR (d_l1Byte))); (focus (exact fun _ h => byte_ty h)); rintro _ rows i sd ⟨z, rfl, hz⟩ hr hi; (simp only [cA]))
  refine den_cond (fun _ => ?_) ?_
  ·simp [E.den, cmpI]; omega
  have e : arI .add .i64 (arI .add .i64 (arI .mul .i64 x 65536) (arI .mul .i64 y 256)) z = x * 65536 + y * 256 + z := by
   rw [ar_mul (x := x) (by omega) (by omega), ar_mul (x := y) (by omega) (by omega), ar_add (x := x * 65536) (y := y * 256) (by omega) (by omega), ar_add (by omega) (by omega)]
  have h0 := rem_in (x := arI .add .i64 (arI .add .i64 (arI .mul .i64 x 65536) (arI .mul .i64 y 256)) z) (n := n) (by rw [e]; omega) h
  exact ⟨⟨_, rfl, h0.1, fun _ => h0.2⟩, _, _, _, rfl, hr, hi⟩
theorem d_l1Once (n : Int) : Dr 89 [.int .i64 n] isB := by
 refine Dr.of vc_spec_l1Once_ok rfl ty_spec_l1Once_ok (fun cs h => by exact ⟨rfl, cur_tys h⟩) (.bool false) ⟨_, rfl⟩ fun rows i sd f1 hl hr hi => ?_; (simp only [cA]); unfold vc_spec_l1Once
 (apply den_draw; (iterate 2 (focus (simp only [VC.den, E.den, dEq, gsH_nil, and_true]; try exact rfl))); (focus (exact ⟨_, _, _, rfl, by assumption, by assumption⟩)); (focus (first | exact d_l1Below _ | exact Dr.ofR (d_l1Below _))); (focus (exact fun _ h => isBel.ty h)); rintro _ rows i sd ⟨x, rfl, hx⟩ hr hi; (simp only [cA]))
 exact ⟨⟨_, rfl⟩, _, _, _, rfl, hr, hi⟩
def intS (l : List Int) : D := .sl (l.map fun n => [.int .i64 n])
theorem tab_int : tbl.tab 3 = [.int .i64] := by kernel_rfl
theorem intS_ty (l : List Int) : HasVT tbl.tab (.one (.c (.sl 3))) (intS l) := by
 show RowsTy _ (tbl.tab _) _
 rw [tab_int]
 exact RowsTy.of fun r hr => by obtain ⟨n, _, rfl⟩ := List.mem_map.1 hr; exact ⟨rfl, trivial⟩
theorem d_l1Int (l : List Int) (h0 : 0 < l.length) : Dr 132 [intS l] isI := by
 refine Dr.of vc_spec_l1Int_ok rfl ty_spec_l1Int_ok (fun cs h => by exact ⟨intS_ty l, cur_tys h⟩) (.int .i64 0) ⟨_, rfl⟩ fun rows i sd f1 hl hr hi => ?_; (simp only [cA]); unfold vc_spec_l1Int
 have hn : (l.length : Int) ≤ 9223372036854775807 := by
  simp [FitsL, Fits, intS, maxLen] at f1; omega
 have hB : Dr 52 [.int .i64 (lenD (intS l))] (isBel l.length) := by
  have := d_l1Below l.length
  simpa [intS, lenD] using this
 (apply den_draw; (iterate 2 (focus (simp only [VC.den, E.den, dEq, gsH_nil, and_true]; try exact rfl))); (focus (exact ⟨_, _, _, rfl, by assumption, by assumption⟩)); (focus (first | exact hB | exact Dr.ofR (hB))); (focus (exact fun _ h => isBel.ty h)); rintro _ rows i sd ⟨x, rfl, hx⟩ hr hi; (simp only [cA]))
 refine den_cond (fun _ => ?_) ?_
 ·simp [E.den, intS, lenD]; omega
 have hx2 := hx.2 (by omega)
 have e : l[x.toNat]? = some l[x.toNat] := List.getElem?_eq_getElem (by omega)
 refine ⟨⟨l[x.toNat], ?_⟩, _, _, _, rfl, hr, hi⟩
 simp [E.den, intS, e]
theorem d_l1Odd : Dr 103 [] isI := by
 refine Dr.of vc_spec_l1Odd_ok rfl ty_spec_l1Odd_ok (fun cs h => by exact cur_tys h) (.int .i64 0) ⟨_, rfl⟩ fun rows i sd f1 hl hr hi => ?_; (simp only [cA]); unfold vc_spec_l1Odd
 (apply den_draw; (iterate 2 (focus (simp only [VC.den, E.den, dEq, gsH_nil, and_true]; try exact rfl))); (focus (exact ⟨_, _, _, rfl, by assumption, by assumption⟩)); (focus (first | exact d_l1Int [-1, 0, 1, 2, 3, 4, 5, 6, 7, 63, 64, 99, 100, 999, 1000, 9223372036854775807, -9223372036854775808] (by decide) | exact Dr.ofR (d_l1Int [-1, 0, 1, 2, 3, 4, 5, 6, 7, 63, 64, 99, 100, 999, 1000, 9223372036854775807, -9223372036854775808] (by decide)))); (focus (exact fun _ h => isI.ty h)); rintro _ rows i sd ⟨x, rfl⟩ hr hi; (simp only [cA]))
 exact ⟨⟨_, rfl⟩, _, _, _, rfl, hr, hi⟩
theorem rows_u8 {rows : List (List D)} (h : RowsTy tbl.tab [.int .u8] rows) : ∀ r ∈ rows, ∃ n, r = [.int .u8 n] := by
 intro r hr
 have := h.mem r hr
 match r, this with
 | [d], this => obtain ⟨n, rfl⟩ := hasTy_int this.1; exact ⟨n, rfl⟩
theorem den_newc {env : List D} {Q : D → List D → Prop} {L : List (List D → Prop)} {args : List E} {k : VC} {rows : List (List D)} (ha : args.map (·.den env) = [.sl rows]) (hr : RowsTy tbl.tab [.int .u8] rows)
  (hk : ∀ sd, k.den Tryz.prog tbl.tab (env ++ [.sl rows, .int .i64 0, .int .i64 sd]) Q L) : (VC.rq (.new 50 args curTy) k).den Tryz.prog tbl.tab env Q L :=
 ⟨_, Cur.ty ⟨rows, 0, _, rfl, hr, Int.le_refl _⟩, by rw [ha]; exact c_spec_l1New rows (rows_u8 hr), hk _⟩
end Go.Proofs.YtbgcaneflfdddaaGreatDoor
/- SinceOf of the program and of the reference. Nothing is assumed but what each theorem says. -/
namespace Go.Proofs.YtbgcaneflfdddaaGreatDoor
open Go.RowKit
end Go.Proofs.YtbgcaneflfdddaaGreatDoor
/- What faces a version allows: the program's and the reference's functions. -/
namespace Go.Proofs.YtbgcaneflfdddaaGreatDoor
open Go.RowKit Go
variable [GC]
theorem c_spec_l2Has (m k : Nat) (hm : m < 64) (hk : k < 6) : Fun Tryz.prog 100 none [.int .i64 m, .int .i64 k] (.bool (m.testBit k)) [] := by
 refine Fun.ofV vc_spec_l2Has_ok ty_spec_l2Has_ok rfl ?_ (fun hfit => ?_)
 ·simp [ty_spec_l2Has, HasTys, HasVT, HasV1, HasTy]
 unfold vc_spec_l2Has
 refine den_cond (fun _ => ?_) (den_cond (fun _ => rfl) (den_ret ?_))
 ·simp [E.den, cmpI]
 have hb := bit_of2 ⟨m, hm⟩ ⟨k, hk⟩
 simp only at hb
 simp only [E.den, List.getD_cons_zero, List.getD_cons_succ, D.toI_int, hb]
theorem c_spec_IsFace' (f : Int) : Fun Tryz.prog 99 none [.int .i64 f] (.bool (isFaceB f)) [] := by
 refine Fun.ofV vc_spec_IsFace_ok ty_spec_IsFace_ok rfl ?_ (fun hfit => ?_)
 ·simp [ty_spec_IsFace, HasTys, HasVT, HasV1, HasTy]
 simp only [vc_spec_IsFace, VC.den, E.den, dEq, gsH_nil, and_true]
 simp [cmpI, isFaceB]
def offersB (a b : Int) : Bool := isFaceB a && isFaceB b && cmpI .eql (arI .andNot .i64 b a) 0
theorem c_impl_Offers (a b : Int) : Fun Tryz.prog 24 none [.int .i64 a, .int .i64 b] (.bool (offersB a b)) [] := by
 refine Fun.ofV vc_impl_Offers_ok ty_impl_Offers_ok rfl ?_ (fun hfit => ?_)
 ·simp [ty_impl_Offers, HasTys, HasVT, HasV1, HasTy]
 unfold vc_impl_Offers
 (apply den_call; (focus (simp only [VC.den, E.den, dEq, gsH_nil, and_true]; try exact rfl)); (focus (exact c_impl_IsFace a)); (focus (simp [HasTys, HasVT, HasV1, HasTy, RowTy, HasVs, enc])); (simp only [cA]))
 (apply den_call; (focus (simp only [VC.den, E.den, dEq, gsH_nil, and_true]; try exact rfl)); (focus (exact c_impl_IsFace b)); (focus (simp [HasTys, HasVT, HasV1, HasTy, RowTy, HasVs, enc])); (simp only [cA]))
 exact den_ret rfl
theorem c_laws_big (rows : List (List D)) (hr : RowsTy tbl.tab (tbl.tab 5) rows) : Fun Tryz.prog 14 none [.sl rows] (.bool (decide ((rows.length : Int) > 4096))) [] := by
 refine Fun.ofV vc_laws_big_ok ty_laws_big_ok rfl ?_ (fun hfit => ?_)
 ·exact ⟨hr, trivial⟩
 exact den_ret rfl
end Go.Proofs.YtbgcaneflfdddaaGreatDoor
/- Names, kinds, faces: what the program and the reference compute. -/
namespace Go.Proofs.YtbgcaneflfdddaaGreatDoor
open Go.RowKit Go
variable [GC]
def letB (s : ByteArray) (k : Nat) : Bool := (decide (97 ≤ byteZ s k) && decide (byteZ s k ≤ 122)) || (!(k == 0) && (decide (48 ≤ byteZ s k) && decide (byteZ s k ≤ 57)))
def nameB (s : ByteArray) : Bool := decide (1 ≤ s.size) && decide (s.size ≤ 8) && allTo (letB s) s.size
theorem c_spec_l1Letter (b : Int) (f : Bool) : Fun Tryz.prog 128 none [.int .u8 b, .bool f] (.bool ((decide (97 ≤ b) && decide (b ≤ 122)) || (!f && (decide (48 ≤ b) && decide (b ≤ 57))))) [] := by
 refine Fun.ofV vc_spec_l1Letter_ok ty_spec_l1Letter_ok rfl ?_ (fun hfit => ?_)
 ·exact ⟨rfl, trivial, trivial⟩
 unfold vc_spec_l1Letter
 refine den_ret ?_
 simp [E.den, cmpI, Bool.and_assoc]
theorem c_spec_IsName (s : ByteArray) : Fun Tryz.prog 93 none [.str s] (.bool (nameB s)) [] := by
 refine Fun.ofV vc_spec_IsName_ok ty_spec_IsName_ok rfl ?_ (fun hfit => ?_)
 ·exact ⟨trivial, trivial⟩
 have hl := fits_str hfit.1
 unfold vc_spec_IsName
 refine den_for s.size (fun k => [.int .i64 k]) (fun k => allTo (letB s) k = true) rfl rfl ?_
 intro k hk hI _
 simp only [cA]
 refine den_ite (fun h2 => ?_) (fun h2 => ?_)
 ·simp only [E.den, dEq, iEq, sEq] at h2
  have h2 : k < s.size := by simp at h2; exact h2
  (refine den_cond (fun hg => ?_) ?_; (focus (simp only [gsH, gE, E.den, dEq, iEq, sEq] at hg ⊢; (try simp only [D.bool.injEq] at hg); (try simp only [D.bool.injEq]); grind)))
  (refine den_call ?_ (c_spec_l1Letter (byteZ s k) ((k : Int) == 0)) (trivial) ?_; (focus (simp only [VC.den, E.den, dEq, gsH_nil, and_true, at_byte, cmpI_eql, Int.toNat_natCast]; try exact rfl)); (simp only [cA]))
  refine den_ite (fun h3 => ?_) (fun h3 => ?_)
  ·simp only [E.den, dEq, iEq, sEq] at h3
   have hb : letB s k = false := by
    simp at h3
    simp [letB]; omega
   refine den_ret ?_
   simp [E.den, nameB, allTo_bad h2 hb]
  ·simp only [E.den, dEq, iEq, sEq] at h3
   have hb : letB s k = true := by
    simp at h3
    simp [letB]; omega
   refine den_next h2 ?_ (show (allTo (letB s) k && letB s k) = true by rw [hI, hb]; rfl)
   simp only [E.den, dEq, iEq, sEq]
   rw [ar_add (by omega) (by omega)]; rfl
 ·simp only [E.den, dEq, iEq, sEq] at h2
  obtain rfl : k = s.size := by simp at h2; omega
  refine den_ret ?_
  simp only [nameB, hI, Bool.and_true]
  simp only [E.den, dEq, iEq, sEq]
  congr 1
  grind
theorem c_impl_IsName (s : ByteArray) : Fun Tryz.prog 67 none [.str s] (.bool (nameB s)) [] := by
 refine Fun.ofV vc_impl_IsName_ok ty_impl_IsName_ok rfl ?_ (fun hfit => ?_)
 ·exact ⟨trivial, trivial⟩
 have hl := fits_str hfit.1
 unfold vc_impl_IsName
 (refine den_cond (fun hg => ?_) ?_; (focus (simp only [gsH, gE, E.den, dEq, iEq, sEq] at hg ⊢; (try simp only [D.bool.injEq] at hg); (try simp only [D.bool.injEq]); grind)))
 (refine den_cond (fun hg => ?_) ?_; (focus (simp only [gsH, gE, E.den, dEq, iEq, sEq] at hg ⊢; (try simp only [D.bool.injEq] at hg); (try simp only [D.bool.injEq]); grind)))
 refine den_ite (fun h => ?_) (fun h => ?_)
 ·simp only [E.den, dEq, iEq, sEq] at h
  refine den_ret ?_
  simp only [E.den, D.bool.injEq]
  by_cases h0 : 1 ≤ s.size ∧ s.size ≤ 8
  ·have hb : letB s 0 = false := by
    simp at h
    simp [letB]; omega
   simp [nameB, allTo_bad (show 0 < s.size by omega) hb]
  ·have : (decide (1 ≤ s.size) && decide (s.size ≤ 8)) = false := by simp; omega
   simp [nameB, this]
 simp only [E.den, dEq, iEq, sEq] at h
 have h0 : 1 ≤ s.size ∧ s.size ≤ 8 := by grind
 refine den_for s.size (fun k => [.int .i64 k]) (fun k => allTo (letB s) k = true) rfl rfl ?_
 intro k hk hI _
 simp only [cA]
 refine den_ite (fun h2 => ?_) (fun h2 => ?_)
 ·simp only [E.den, dEq, iEq, sEq] at h2
  have h2 : k < s.size := by simp at h2; exact h2
  (refine den_cond (fun hg => ?_) ?_; (focus (simp only [gsH, gE, E.den, dEq, iEq, sEq] at hg ⊢; (try simp only [D.bool.injEq] at hg); (try simp only [D.bool.injEq]); grind)))
  (refine den_cond (fun hg => ?_) ?_; (focus (simp only [gsH, gE, E.den, dEq, iEq, sEq] at hg ⊢; (try simp only [D.bool.injEq] at hg); (try simp only [D.bool.injEq]); grind)))
  (refine den_cond (fun hg => ?_) ?_; (focus (simp only [gsH, gE, E.den, dEq, iEq, sEq] at hg ⊢; (try simp only [D.bool.injEq] at hg); (try simp only [D.bool.injEq]); grind)))
  (refine den_cond (fun hg => ?_) ?_; (focus (simp only [gsH, gE, E.den, dEq, iEq, sEq] at hg ⊢; (try simp only [D.bool.injEq] at hg); (try simp only [D.bool.injEq]); grind)))
  refine den_ite (fun h3 => ?_) (fun h3 => ?_)
  ·simp only [E.den, dEq, iEq, sEq] at h3
   have hb : letB s k = false := by
    simp at h3
    simp [letB]; omega
   refine den_ret ?_
   simp [E.den, nameB, allTo_bad h2 hb]
  ·simp only [E.den, dEq, iEq, sEq] at h3
   have hb : letB s k = true := by
    simp at h h3
    by_cases e : k = 0
    ·subst e; simp [letB]; omega
    ·simp [letB]; omega
   refine den_next h2 ?_ (show (allTo (letB s) k && letB s k) = true by rw [hI, hb]; rfl)
   simp only [E.den, dEq, iEq, sEq]
   rw [ar_add (by omega) (by omega)]; rfl
 ·simp only [E.den, dEq, iEq, sEq] at h2
  obtain rfl : k = s.size := by simp at h2; omega
  refine den_ret ?_
  simp [E.den, nameB, hI, h0]
def numB (n : Int) : Bool := decide (0 ≤ n) && decide (n ≤ 999)
theorem c_impl_isNumber (n : Int) : Fun Tryz.prog 65 none [.int .i64 n] (.bool (numB n)) [] := by
 refine Fun.ofV vc_impl_isNumber_ok ty_impl_isNumber_ok rfl ?_ (fun hfit => ?_)
 ·exact ⟨rfl, trivial⟩
 exact den_ret (by simp [E.den, cmpI, numB])
def kinds : List ByteArray := [⟨#[115, 116, 111, 110, 101]⟩, ⟨#[108, 97, 109, 112]⟩, ⟨#[115, 104, 101, 108, 102]⟩, ⟨#[109, 101, 116, 101, 114]⟩, ⟨#[100, 114, 97, 119, 101, 114]⟩, ⟨#[104, 111, 114, 110]⟩, ⟨#[118, 97, 117, 108, 116]⟩, ⟨#[114, 111, 98, 111, 116]⟩]
def kindFs : List Nat := [0, 1, 2, 5, 3, 9, 19, 63]
def kindAt (s : ByteArray) : Option Nat := if s = nth kinds 0 then some 0 else if s = nth kinds 1 then some 1 else if s = nth kinds 2 then some 2 else if s = nth kinds 3 then some 3 else if s = nth kinds 4 then some 4 else if s = nth kinds 5 then some 5 else if s = nth kinds 6 then some 6 else if s = nth kinds 7 then some 7 else none
def kindN (s : ByteArray) : Nat := match kindAt s with | some k => kindFs.getD k 0 | none => 0
def kindOk (s : ByteArray) : Bool := (kindAt s).isSome
theorem kindN_lt (s : ByteArray) : kindN s < 64 := by
 unfold kindN
 split
 ·rename_i k _
  by_cases h : k < 8
  ·obtain rfl | rfl | rfl | rfl | rfl | rfl | rfl | rfl : k = 0 ∨ k = 1 ∨ k = 2 ∨ k = 3 ∨ k = 4 ∨ k = 5 ∨ k = 6 ∨ k = 7 := by omega
   all_goals decide
  ·rw [List.getD, List.getElem?_eq_none (by simp [kindFs]; omega)]; decide
 ·decide
theorem kindAt_none {s : ByteArray} (h : ∀ j, j < 8 → nth kinds j ≠ s) : kindAt s = none := by
 unfold kindAt
 rw [if_neg (fun e => h 0 (by omega) e.symm), if_neg (fun e => h 1 (by omega) e.symm), if_neg (fun e => h 2 (by omega) e.symm), if_neg (fun e => h 3 (by omega) e.symm), if_neg (fun e => h 4 (by omega) e.symm), if_neg (fun e => h 5 (by omega) e.symm), if_neg (fun e => h 6 (by omega) e.symm), if_neg (fun e => h 7 (by omega) e.symm)]
theorem eight {k : Nat} (h : k < 8) : k = 0 ∨ k = 1 ∨ k = 2 ∨ k = 3 ∨ k = 4 ∨ k = 5 ∨ k = 6 ∨ k = 7 := by omega
theorem c_impl_KindFace (s : ByteArray) : Fun Tryz.prog 104 none [.str s] (.tup [.int .i64 (kindN s), .bool (kindOk s)]) [] := by
 refine Fun.ofV vc_impl_KindFace_ok ty_impl_KindFace_ok rfl ?_ (fun hfit => ?_)
 ·exact ⟨trivial, trivial⟩
 clear hfit
 unfold vc_impl_KindFace
 refine den_ite (fun h => ?_) (fun h0 => ?_)
 ·simp only [E.den, dEq, iEq, sEq] at h; simp at h; subst h; exact den_ret rfl
 refine den_ite (fun h => ?_) (fun h1 => ?_)
 ·simp only [E.den, dEq, iEq, sEq] at h; simp at h; subst h; exact den_ret rfl
 refine den_ite (fun h => ?_) (fun h2 => ?_)
 ·simp only [E.den, dEq, iEq, sEq] at h; simp at h; subst h; exact den_ret rfl
 refine den_ite (fun h => ?_) (fun h3 => ?_)
 ·simp only [E.den, dEq, iEq, sEq] at h; simp at h; subst h; exact den_ret rfl
 refine den_ite (fun h => ?_) (fun h4 => ?_)
 ·simp only [E.den, dEq, iEq, sEq] at h; simp at h; subst h; exact den_ret rfl
 refine den_ite (fun h => ?_) (fun h5 => ?_)
 ·simp only [E.den, dEq, iEq, sEq] at h; simp at h; subst h; exact den_ret rfl
 refine den_ite (fun h => ?_) (fun h6 => ?_)
 ·simp only [E.den, dEq, iEq, sEq] at h; simp at h; subst h; exact den_ret rfl
 refine den_ite (fun h => ?_) (fun h7 => ?_)
 ·simp only [E.den, dEq, iEq, sEq] at h; simp at h; subst h; exact den_ret rfl
 simp only [E.den, dEq, iEq, sEq] at h0 h1 h2 h3 h4 h5 h6 h7
 simp at h0 h1 h2 h3 h4 h5 h6 h7
 have hn : kindAt s = none := kindAt_none fun j hj => by
  obtain rfl | rfl | rfl | rfl | rfl | rfl | rfl | rfl := eight hj
  all_goals (intro e; first | exact h0 e.symm | exact h1 e.symm | exact h2 e.symm | exact h3 e.symm | exact h4 e.symm | exact h5 e.symm | exact h6 e.symm | exact h7 e.symm)
 exact den_ret (by simp [E.den, kindN, kindOk, hn])
theorem kindAt_nth : ∀ k : Fin 8, kindAt (nth kinds k.val) = some k.val := by decide +kernel
def kindE : E := .put (.put (.put (.put (.put (.put (.put (.put (.nilS 9) (.ag1 (.ls ⟨#[115, 116, 111, 110, 101]⟩))) (.ag1 (.ls ⟨#[108, 97, 109, 112]⟩))) (.ag1 (.ls ⟨#[115, 104, 101, 108, 102]⟩))) (.ag1 (.ls ⟨#[109, 101, 116, 101, 114]⟩))) (.ag1 (.ls ⟨#[100, 114, 97, 119, 101, 114]⟩))) (.ag1 (.ls ⟨#[104, 111, 114, 110]⟩))) (.ag1 (.ls ⟨#[118, 97, 117, 108, 116]⟩))) (.ag1 (.ls ⟨#[114, 111, 98, 111, 116]⟩))
def kindFE : E := .put (.put (.put (.put (.put (.put (.put (.put (.nilS 3) (.ag1 (.li .i64 0))) (.ag1 (.li .i64 1))) (.ag1 (.li .i64 2))) (.ag1 (.li .i64 5))) (.ag1 (.li .i64 3))) (.ag1 (.li .i64 9))) (.ag1 (.li .i64 19))) (.ag1 (.li .i64 63))
theorem kindE_den (env : List D) : kindE.den env = encS kinds := rfl
theorem kindFE_den (env : List D) : kindFE.den env = encS (kindFs.map fun (n : Nat) => (n : Int)) := rfl
theorem c_spec_KindFace (s : ByteArray) : Fun Tryz.prog 108 none [.str s] (.tup [.int .i64 (kindN s), .bool (kindOk s)]) [] := by
 refine Fun.ofV vc_spec_KindFace_ok ty_spec_KindFace_ok rfl ?_ (fun hfit => ?_)
 ·exact ⟨trivial, trivial⟩
 clear hfit
 show VC.den _ _ (.loop [.one (.c (.int .i64))] [.li .i64 0] (.ite (.ic .lss (.var 1) (.len kindE)) (.rq (.cond [] (.inb kindE (.var 1))) (.ite (.sc .eql (.cell (.row [.str] kindE (.var 1)) 0) (.var 0)) (.rq (.cond [] (.inb kindFE (.var 1))) (.ret (.tp1 (.tp1 .tp0 (.cell (.row [.int .i64] kindFE (.var 1)) 0)) (.lb true)) [])) (.again 0 [.ar .add .i64 (.var 1) (.li .i64 1)]))) (.ret (.tp1 (.tp1 .tp0 (.li .i64 0)) (.lb false)) []))) _ _ _
 have e8 : kinds.length = 8 := rfl
 refine den_for 8 (fun k => [.int .i64 k]) (fun k => ∀ j, j < k → nth kinds j ≠ s) rfl (by omega) ?_
 intro k hk hI _
 simp only [cA]
 refine den_ite (fun h2 => ?_) (fun h2 => ?_)
 ·simp only [E.den, dEq, iEq, sEq, kindE_den, e8] at h2
  have h2 : k < 8 := by simp at h2; omega
  refine den_cond (fun _ => ?_) ?_
  ·simp only [E.den, dEq, iEq, sEq, kindE_den, e8]
   simp; omega
  refine den_ite (fun h3 => ?_) (fun h3 => ?_)
  ·simp only [E.den, dEq, iEq, sEq, kindE_den, row_str, cells_str] at h3
   simp at h3
   refine den_cond (fun _ => ?_) ?_
   ·simp only [E.den, dEq, iEq, sEq, kindFE_den, List.length_map]
    simp [kindFs]; omega
   refine den_ret ?_
   simp only [E.den, dEq, iEq, sEq, kindFE_den, row_int, cells_int]
   have hn : kindAt s = some k := by rw [← h3]; exact kindAt_nth ⟨k, h2⟩
   simp only [kindN, kindOk, hn]
   obtain rfl | rfl | rfl | rfl | rfl | rfl | rfl | rfl : k = 0 ∨ k = 1 ∨ k = 2 ∨ k = 3 ∨ k = 4 ∨ k = 5 ∨ k = 6 ∨ k = 7 := by omega
   all_goals rfl
  ·simp only [E.den, dEq, iEq, sEq, kindE_den, row_str, cells_str] at h3
   simp at h3
   refine den_next h2 ?_ fun j hj => ?_
   ·simp only [E.den, dEq, iEq, sEq]
    rw [ar_add (by omega) (by omega)]; rfl
   ·rcases Nat.lt_or_ge j k with h | h
    ·exact hI j h
    ·obtain rfl : j = k := by omega
     exact h3
 ·simp only [E.den, dEq, iEq, sEq, kindE_den, e8] at h2
  obtain rfl : k = 8 := by simp at h2; omega
  refine den_ret ?_
  have hn := kindAt_none hI
  simp [E.den, kindN, kindOk, hn]
def layers : List ByteArray := [⟨#[112, 108, 97, 105, 110]⟩, ⟨#[114, 117, 110, 115]⟩, ⟨#[107, 101, 101, 112, 115]⟩, ⟨#[99, 111, 117, 110, 116, 115]⟩, ⟨#[108, 97, 122, 121]⟩, ⟨#[114, 101, 97, 100, 115]⟩, ⟨#[104, 101, 97, 114, 115]⟩, ⟨#[104, 101, 97, 108, 115]⟩, ⟨#[116, 119, 105, 99, 101]⟩]
def layN : List Nat := [0, 1, 2, 2, 3, 2, 1, 1, 4]
def layG : List Nat := [0, 1, 2, 6, 3, 2, 9, 33, 4]
def layAt (s : ByteArray) : Option Nat := if s = nth layers 0 then some 0 else if s = nth layers 1 then some 1 else if s = nth layers 2 then some 2 else if s = nth layers 3 then some 3 else if s = nth layers 4 then some 4 else if s = nth layers 5 then some 5 else if s = nth layers 6 then some 6 else if s = nth layers 7 then some 7 else if s = nth layers 8 then some 8 else none
def needN (s : ByteArray) : Nat := match layAt s with | some k => layN.getD k 0 | none => 0
def giveN (s : ByteArray) : Nat := match layAt s with | some k => layG.getD k 0 | none => 0
def layOk (s : ByteArray) : Bool := (layAt s).isSome
theorem nine {k : Nat} (h : k < 9) : k = 0 ∨ k = 1 ∨ k = 2 ∨ k = 3 ∨ k = 4 ∨ k = 5 ∨ k = 6 ∨ k = 7 ∨ k = 8 := by omega
theorem giveN_lt (s : ByteArray) : giveN s < 64 := by
 unfold giveN
 split
 ·rename_i k _
  by_cases h : k < 9
  ·obtain rfl | rfl | rfl | rfl | rfl | rfl | rfl | rfl | rfl := nine h
   all_goals decide
  ·rw [List.getD, List.getElem?_eq_none (by simp [layG]; omega)]; decide
 ·decide
theorem layAt_none {s : ByteArray} (h : ∀ j, j < 9 → nth layers j ≠ s) : layAt s = none := by
 unfold layAt
 rw [if_neg (fun e => h 0 (by omega) e.symm), if_neg (fun e => h 1 (by omega) e.symm), if_neg (fun e => h 2 (by omega) e.symm), if_neg (fun e => h 3 (by omega) e.symm), if_neg (fun e => h 4 (by omega) e.symm), if_neg (fun e => h 5 (by omega) e.symm), if_neg (fun e => h 6 (by omega) e.symm), if_neg (fun e => h 7 (by omega) e.symm), if_neg (fun e => h 8 (by omega) e.symm)]
theorem layAt_nth : ∀ k : Fin 9, layAt (nth layers k.val) = some k.val := by decide +kernel
def layD (s : ByteArray) : D := .tup [.int .i64 (needN s), .int .i64 (giveN s), .bool (layOk s)]
theorem c_impl_layerFaces (s : ByteArray) : Fun Tryz.prog 56 none [.str s] (layD s) [] := by
 refine Fun.ofV vc_impl_layerFaces_ok ty_impl_layerFaces_ok rfl ?_ (fun hfit => ?_)
 ·exact ⟨trivial, trivial⟩
 clear hfit
 unfold vc_impl_layerFaces
 refine den_ite (fun h => ?_) (fun h0 => ?_)
 ·simp only [E.den, dEq, iEq, sEq] at h; simp at h; subst h; exact den_ret rfl
 refine den_ite (fun h => ?_) (fun h1 => ?_)
 ·simp only [E.den, dEq, iEq, sEq] at h; simp at h; subst h; exact den_ret rfl
 refine den_ite (fun h => ?_) (fun h2 => ?_)
 ·refine den_ite (fun _ => ?_) (fun h' => ?_)
  ·simp only [E.den, dEq, iEq, sEq] at h; simp at h; subst h; exact den_ret rfl
  ·rw [h] at h'; cases h'
 refine den_ite (fun h => ?_) (fun h3 => ?_)
 ·simp only [E.den, dEq, iEq, sEq] at h; simp at h; subst h; exact den_ret rfl
 refine den_ite (fun h => ?_) (fun h4 => ?_)
 ·simp only [E.den, dEq, iEq, sEq] at h; simp at h; subst h; exact den_ret rfl
 refine den_ite (fun h => ?_) (fun h5 => ?_)
 ·simp only [E.den, dEq, iEq, sEq] at h; simp at h; subst h; exact den_ret rfl
 refine den_ite (fun h => ?_) (fun h6 => ?_)
 ·simp only [E.den, dEq, iEq, sEq] at h; simp at h; subst h; exact den_ret rfl
 refine den_ite (fun h => ?_) (fun h7 => ?_)
 ·simp only [E.den, dEq, iEq, sEq] at h; simp at h; subst h; exact den_ret rfl
 refine den_ite (fun h => ?_) (fun h8 => ?_)
 ·simp only [E.den, dEq, iEq, sEq] at h; simp at h; subst h; exact den_ret rfl
 simp only [E.den, dEq, iEq, sEq] at h0 h1 h2 h3 h4 h5 h6 h7 h8
 simp at h0 h1 h2 h3 h4 h5 h6 h7 h8
 have hn : layAt s = none := layAt_none fun j hj => by
  obtain rfl | rfl | rfl | rfl | rfl | rfl | rfl | rfl | rfl := nine hj
  all_goals (intro e; first | exact h0 e.symm | exact h1 e.symm | exact h2 e.symm | exact h3 e.symm | exact h4 e.symm | exact h5 e.symm | exact h6 e.symm | exact h7 e.symm | exact h8 e.symm)
 exact den_ret (by simp [E.den, layD, needN, giveN, layOk, hn])
def layE : E := .put (.put (.put (.put (.put (.put (.put (.put (.put (.nilS 9) (.ag1 (.ls ⟨#[112, 108, 97, 105, 110]⟩))) (.ag1 (.ls ⟨#[114, 117, 110, 115]⟩))) (.ag1 (.ls ⟨#[107, 101, 101, 112, 115]⟩))) (.ag1 (.ls ⟨#[99, 111, 117, 110, 116, 115]⟩))) (.ag1 (.ls ⟨#[108, 97, 122, 121]⟩))) (.ag1 (.ls ⟨#[114, 101, 97, 100, 115]⟩))) (.ag1 (.ls ⟨#[104, 101, 97, 114, 115]⟩))) (.ag1 (.ls ⟨#[104, 101, 97, 108, 115]⟩))) (.ag1 (.ls ⟨#[116, 119, 105, 99, 101]⟩))
def layNE : E := .put (.put (.put (.put (.put (.put (.put (.put (.put (.nilS 3) (.ag1 (.li .i64 0))) (.ag1 (.li .i64 1))) (.ag1 (.li .i64 2))) (.ag1 (.li .i64 2))) (.ag1 (.li .i64 3))) (.ag1 (.li .i64 2))) (.ag1 (.li .i64 1))) (.ag1 (.li .i64 1))) (.ag1 (.li .i64 4))
def layGE : E := .put (.put (.put (.put (.put (.put (.put (.put (.put (.nilS 3) (.ag1 (.li .i64 0))) (.ag1 (.li .i64 1))) (.ag1 (.li .i64 2))) (.ag1 (.li .i64 6))) (.ag1 (.li .i64 3))) (.ag1 (.li .i64 2))) (.ag1 (.li .i64 9))) (.ag1 (.li .i64 33))) (.ag1 (.li .i64 4))
theorem layE_den (env : List D) : layE.den env = encS layers := rfl
theorem layNE_den (env : List D) : layNE.den env = encS (layN.map fun (n : Nat) => (n : Int)) := rfl
theorem layGE_den (env : List D) : layGE.den env = encS (layG.map fun (n : Nat) => (n : Int)) := rfl
theorem c_spec_l4Row (s : ByteArray) : Fun Tryz.prog 59 none [.str s] (layD s) [] := by
 refine Fun.ofV vc_spec_l4Row_ok ty_spec_l4Row_ok rfl ?_ (fun hfit => ?_)
 ·exact ⟨trivial, trivial⟩
 clear hfit
 show VC.den _ _ (.loop [.one (.c (.int .i64))] [.li .i64 0] (.ite (.ic .lss (.var 1) (.len layE)) (.rq (.cond [] (.inb layE (.var 1))) (.ite (.sc .eql (.cell (.row [.str] layE (.var 1)) 0) (.var 0)) (.rq (.cond [] (.inb layNE (.var 1))) (.rq (.cond [] (.inb layGE (.var 1))) (.ret (.tp1 (.tp1 (.tp1 .tp0 (.cell (.row [.int .i64] layNE (.var 1)) 0)) (.cell (.row [.int .i64] layGE (.var 1)) 0)) (.lb true)) []))) (.again 0 [.ar .add .i64 (.var 1) (.li .i64 1)]))) (.ret (.tp1 (.tp1 (.tp1 .tp0 (.li .i64 0)) (.li .i64 0)) (.lb false)) []))) _ _ _
 have e9 : layers.length = 9 := rfl
 refine den_for 9 (fun k => [.int .i64 k]) (fun k => ∀ j, j < k → nth layers j ≠ s) rfl (by omega) ?_
 intro k hk hI _
 simp only [cA]
 refine den_ite (fun h2 => ?_) (fun h2 => ?_)
 ·simp only [E.den, dEq, iEq, sEq, layE_den, e9] at h2
  have h2 : k < 9 := by simp at h2; omega
  refine den_cond (fun _ => ?_) ?_
  ·simp only [E.den, dEq, iEq, sEq, layE_den, e9]
   simp; omega
  refine den_ite (fun h3 => ?_) (fun h3 => ?_)
  ·simp only [E.den, dEq, iEq, sEq, layE_den, row_str, cells_str] at h3
   simp at h3
   refine den_cond (fun _ => ?_) (den_cond (fun _ => ?_) ?_)
   ·simp only [E.den, dEq, iEq, sEq, layNE_den, List.length_map]
    simp [layN]; omega
   ·simp only [E.den, dEq, iEq, sEq, layGE_den, List.length_map]
    simp [layG]; omega
   refine den_ret ?_
   simp only [E.den, dEq, iEq, sEq, layNE_den, layGE_den, row_int, cells_int]
   have hn : layAt s = some k := by rw [← h3]; exact layAt_nth ⟨k, h2⟩
   simp only [layD, needN, giveN, layOk, hn]
   obtain rfl | rfl | rfl | rfl | rfl | rfl | rfl | rfl | rfl := nine h2
   all_goals rfl
  ·simp only [E.den, dEq, iEq, sEq, layE_den, row_str, cells_str] at h3
   simp at h3
   refine den_next h2 ?_ fun j hj => ?_
   ·simp only [E.den, dEq, iEq, sEq]
    rw [ar_add (by omega) (by omega)]; rfl
   ·rcases Nat.lt_or_ge j k with h | h
    ·exact hI j h
    ·obtain rfl : j = k := by omega
     exact h3
 ·simp only [E.den, dEq, iEq, sEq, layE_den, e9] at h2
  obtain rfl : k = 9 := by simp at h2; omega
  refine den_ret ?_
  have hn := layAt_none hI
  simp [E.den, layD, needN, giveN, layOk, hn]
theorem c_spec_LayerNeeds (s : ByteArray) : Fun Tryz.prog 71 none [.str s] (.tup [.int .i64 (needN s), .bool (layOk s)]) [] := by
 refine Fun.ofV vc_spec_LayerNeeds_ok ty_spec_LayerNeeds_ok rfl ?_ (fun hfit => ?_)
 ·exact ⟨trivial, trivial⟩
 unfold vc_spec_LayerNeeds
 (refine den_call ?_ (c_spec_l4Row s) (⟨rfl, rfl, trivial, trivial⟩) ?_; (focus (simp only [VC.den, E.den, dEq, gsH_nil, and_true]; try exact rfl)); (simp only [cA]))
 exact den_ret rfl
theorem off6 : ∀ n m : Fin 64, ((List.range 6).all fun k => !(m.val.testBit k && !n.val.testBit k)) = decide (m.val &&& n.val = m.val) := by decide +kernel
theorem offN_eq : ∀ n m : Fin 64, cmpI .eql (arI .andNot .i64 ((m.val : Nat) : Int) ((n.val : Nat) : Int)) 0 = decide (m.val &&& n.val = m.val) := by decide +kernel
theorem c_spec_Offers (a b : Int) : Fun Tryz.prog 60 none [.int .i64 a, .int .i64 b] (.bool (offersB a b)) [] := by
 refine Fun.ofV vc_spec_Offers_ok ty_spec_Offers_ok rfl ?_ (fun hfit => ?_)
 ·exact ⟨rfl, rfl, trivial⟩
 unfold vc_spec_Offers
 (refine den_call ?_ (c_spec_IsFace' a) (trivial) ?_; (focus (simp only [VC.den, E.den, dEq, gsH_nil, and_true]; try exact rfl)); (simp only [cA]))
 (refine den_call ?_ (c_spec_IsFace' b) (trivial) ?_; (focus (simp only [VC.den, E.den, dEq, gsH_nil, and_true]; try exact rfl)); (simp only [cA]))
 refine den_ite (fun h => ?_) (fun h => ?_)
 ·simp only [E.den, dEq, iEq, sEq] at h
  refine den_ret ?_
  simp only [E.den, D.bool.injEq]
  unfold offersB
  grind
 simp only [E.den, dEq, iEq, sEq] at h
 have ha : isFaceB a = true := by grind
 have hb : isFaceB b = true := by grind
 obtain ⟨n, rfl, hn⟩ := isFaceB_nat ha
 obtain ⟨m, rfl, hm⟩ := isFaceB_nat hb
 have ho : offersB (n : Int) (m : Int) = ((List.range 6).all fun k => !(m.testBit k && !n.testBit k)) := by
  unfold offersB
  rw [ha, hb, Bool.true_and, Bool.true_and, offN_eq ⟨n, hn⟩ ⟨m, hm⟩, off6 ⟨n, hn⟩ ⟨m, hm⟩]
 rw [ho]
 refine den_for 6 (fun k => [.int .i64 k]) (fun k => ∀ j, j < k → (!(m.testBit j && !n.testBit j)) = true) rfl (by omega) ?_
 intro k hk hI _
 simp only [cA]
 refine den_ite (fun h2 => ?_) (fun h2 => ?_)
 ·simp only [E.den, dEq, iEq, sEq] at h2
  have h2 : k < 6 := by simp at h2; omega
  (refine den_call ?_ (c_spec_l2Has m k hm h2) (trivial) ?_; (focus (simp only [VC.den, E.den, dEq, gsH_nil, and_true]; try exact rfl)); (simp only [cA]))
  (refine den_call ?_ (c_spec_l2Has n k hn h2) (trivial) ?_; (focus (simp only [VC.den, E.den, dEq, gsH_nil, and_true]; try exact rfl)); (simp only [cA]))
  refine den_ite (fun h3 => ?_) (fun h3 => ?_)
  ·simp only [E.den, dEq, iEq, sEq] at h3
   refine den_ret ?_
   simp only [E.den, D.bool.injEq]
   symm
   rw [List.all_eq_false]
   exact ⟨k, by simpa using h2, by rw [h3]; simp⟩
  ·simp only [E.den, dEq, iEq, sEq] at h3
   refine den_next h2 ?_ fun j hj => ?_
   ·simp only [E.den, dEq, iEq, sEq]
    rw [ar_add (by omega) (by omega)]; rfl
   ·rcases Nat.lt_or_ge j k with h | h
    ·exact hI j h
    ·obtain rfl : j = k := by omega
     rw [h3]; rfl
 ·simp only [E.den, dEq, iEq, sEq] at h2
  obtain rfl : k = 6 := by simp at h2; omega
  refine den_ret ?_
  simp only [E.den, D.bool.injEq]
  symm
  rw [List.all_eq_true]
  intro j hj
  exact hI j (by simpa using hj)
end Go.Proofs.YtbgcaneflfdddaaGreatDoor
/- Cores, parts, recipes: what the program and the reference compute. -/
namespace Go.Proofs.YtbgcaneflfdddaaGreatDoor
open Go.RowKit Go
variable [GC]
def cellB (l : List Cell) (k : Nat) : Bool := nameB (nth l k).key && numB (nth l k).val && (k == 0 || ltB (nth l (k - 1)).key (nth l k).key)
def cellsB (l : List Cell) : Bool := decide (l.length ≤ 4) && allTo (cellB l) l.length
theorem sub_one {k : Nat} (h : 0 < k) (hk : k ≤ 9223372036854775807) : (arI .sub .i64 (k : Int) 1).toNat = k - 1 := by
 rw [ar_sub (by omega) (by omega)]; omega
theorem c_impl_IsCells (l : List Cell) : Fun Tryz.prog 105 none [encS l] (.bool (cellsB l)) [] := by
 refine Fun.ofV vc_impl_IsCells_ok ty_impl_IsCells_ok rfl ?_ (fun hfit => ?_)
 ·exact ⟨ty_CellS l, trivial⟩
 have hl : l.length ≤ 9223372036854775807 := fits_encS hfit.1
 unfold vc_impl_IsCells
 refine den_ite (fun h => ?_) (fun h => ?_)
 ·simp only [E.den, dEq, iEq, sEq] at h
  refine den_ret ?_
  simp only [E.den, D.bool.injEq]
  unfold cellsB; grind
 simp only [E.den, dEq, iEq, sEq] at h
 have h4 : l.length ≤ 4 := by grind
 refine den_for l.length (fun k => [.int .i64 k]) (fun k => allTo (cellB l) k = true) rfl rfl ?_
 intro k hk hI _
 simp only [cA]
 refine den_ite (fun h2 => ?_) (fun h2 => ?_)
 ·simp only [E.den, dEq, iEq, sEq] at h2
  have h2 : k < l.length := by simp at h2; exact h2
  (refine den_cond (fun hg => ?_) ?_; (focus (simp only [gsH, gE, E.den, dEq, iEq, sEq] at hg ⊢; (try simp only [D.bool.injEq] at hg); (try simp only [D.bool.injEq]); grind)))
  (refine den_call ?_ (c_impl_IsName (nth l k).key) (trivial) ?_; (focus (simp only [VC.den, E.den, dEq, gsH_nil, and_true, row_Cell, cells_Cell, Int.toNat_natCast]; try exact rfl)); (simp only [cA]))
  (refine den_call ?_ (c_impl_isNumber (nth l k).val) (trivial) ?_; (focus (simp only [VC.den, E.den, dEq, gsH_nil, and_true, row_Cell, cells_Cell, Int.toNat_natCast]; try exact rfl)); (simp only [cA]))
  refine den_cond (fun hg => ?_) ?_
  ·simp [gsH, E.den, cmpI] at hg ⊢
   rw [ar_sub (by omega) (by omega)]; omega
  refine den_ite (fun h3 => ?_) (fun h3 => ?_)
  ·simp only [E.den, dEq, iEq, sEq, row_Cell, cells_Cell] at h3
   have hb : cellB l k = false := by
    unfold cellB
    by_cases e : 0 < k
    ·rw [sub_one e (by omega)] at h3; grind
    ·grind
   refine den_ret ?_
   simp [E.den, cellsB, allTo_bad h2 hb]
  ·simp only [E.den, dEq, iEq, sEq, row_Cell, cells_Cell] at h3
   have hb : cellB l k = true := by
    unfold cellB
    by_cases e : 0 < k
    ·rw [sub_one e (by omega)] at h3; grind
    ·grind
   refine den_next h2 ?_ (show (allTo (cellB l) k && cellB l k) = true by rw [hI, hb]; rfl)
   simp only [E.den, dEq, iEq, sEq]
   rw [ar_add (by omega) (by omega)]; rfl
 ·simp only [E.den, dEq, iEq, sEq] at h2
  obtain rfl : k = l.length := by simp at h2; omega
  exact den_ret (by simp [E.den, cellsB, hI, h4])
theorem c_spec_IsCells (l : List Cell) : Fun Tryz.prog 109 none [encS l] (.bool (cellsB l)) [] := by
 refine Fun.ofV vc_spec_IsCells_ok ty_spec_IsCells_ok rfl ?_ (fun hfit => ?_)
 ·exact ⟨ty_CellS l, trivial⟩
 have hl : l.length ≤ 9223372036854775807 := fits_encS hfit.1
 unfold vc_spec_IsCells
 refine den_for l.length (fun k => [.int .i64 k]) (fun k => allTo (cellB l) k = true) rfl rfl ?_
 intro k hk hI _
 simp only [cA]
 refine den_ite (fun h2 => ?_) (fun h2 => ?_)
 ·simp only [E.den, dEq, iEq, sEq] at h2
  have h2 : k < l.length := by simp at h2; exact h2
  (refine den_cond (fun hg => ?_) ?_; (focus (simp only [gsH, gE, E.den, dEq, iEq, sEq] at hg ⊢; (try simp only [D.bool.injEq] at hg); (try simp only [D.bool.injEq]); grind)))
  (refine den_call ?_ (c_spec_IsName (nth l k).key) (trivial) ?_; (focus (simp only [VC.den, E.den, dEq, gsH_nil, and_true, row_Cell, cells_Cell, Int.toNat_natCast]; try exact rfl)); (simp only [cA]))
  refine den_cond (fun hg => ?_) ?_
  ·simp [gsH, E.den, cmpI] at hg ⊢
   rw [ar_sub (by omega) (by omega)]; omega
  refine den_ite (fun h3 => ?_) (fun h3 => ?_)
  ·simp only [E.den, dEq, iEq, sEq, row_Cell, cells_Cell] at h3
   have hb : cellB l k = false := by
    unfold cellB numB
    by_cases e : 0 < k
    ·rw [sub_one e (by omega)] at h3; grind
    ·grind
   refine den_ret ?_
   simp [E.den, cellsB, allTo_bad h2 hb]
  ·simp only [E.den, dEq, iEq, sEq, row_Cell, cells_Cell] at h3
   have hb : cellB l k = true := by
    unfold cellB numB
    by_cases e : 0 < k
    ·rw [sub_one e (by omega)] at h3; grind
    ·grind
   refine den_next h2 ?_ (show (allTo (cellB l) k && cellB l k) = true by rw [hI, hb]; rfl)
   simp only [E.den, dEq, iEq, sEq]
   rw [ar_add (by omega) (by omega)]; rfl
 ·simp only [E.den, dEq, iEq, sEq] at h2
  obtain rfl : k = l.length := by simp at h2; omega
  refine den_ret ?_
  simp only [E.den, dEq, iEq, sEq]
  simp only [cellsB, hI, Bool.and_true, D.bool.injEq]
  grind
def coreB (p : Core) : Bool := kindOk p.kind && cellsB p.cells && (p.cells.length == 0 || (kindN p.kind).testBit 1) && numB p.count && !(p.on && p.broken) && ((kindN p.kind).testBit 0 || (!p.on && !p.broken))
theorem bit1 : ∀ n : Fin 64, cmpI .eql (arI .and .i64 ((n.val : Nat) : Int) 2) 0 = !n.val.testBit 1 := by decide +kernel
theorem bit0 : ∀ n : Fin 64, cmpI .eql (arI .and .i64 ((n.val : Nat) : Int) 1) 1 = n.val.testBit 0 := by decide +kernel
theorem c_impl_IsCore (p : Core) : Fun Tryz.prog 63 none [enc p] (.bool (coreB p)) [] := by
 refine Fun.ofV vc_impl_IsCore_ok ty_impl_IsCore_ok rfl ?_ (fun hfit => ?_)
 ·exact ⟨ty_Core p, trivial⟩
 have b1 := bit1 ⟨kindN p.kind, kindN_lt _⟩
 have b0 := bit0 ⟨kindN p.kind, kindN_lt _⟩
 simp only [cmpI_eql] at b1 b0
 unfold vc_impl_IsCore
 (refine den_call ?_ (c_impl_KindFace p.kind) (⟨rfl, trivial, trivial⟩) ?_; (focus (simp only [VC.den, E.den, dEq, gsH_nil, and_true, cells_Core]; try exact rfl)); (simp only [cA]))
 (refine den_call ?_ (c_impl_IsCells p.cells) (trivial) ?_; (focus (simp only [VC.den, E.den, dEq, gsH_nil, and_true, cells_Core]; try exact rfl)); (simp only [cA]))
 (refine den_call ?_ (c_impl_isNumber p.count) (trivial) ?_; (focus (simp only [VC.den, E.den, dEq, gsH_nil, and_true, cells_Core]; try exact rfl)); (simp only [cA]))
 refine den_ite (fun h => ?_) (fun h => ?_)
 ·simp only [E.den, dEq, iEq, sEq, cells_Core, b1] at h
  refine den_ret ?_
  simp only [E.den, D.bool.injEq]
  unfold coreB; grind
 ·simp only [E.den, dEq, iEq, sEq, cells_Core, b1] at h
  refine den_ret ?_
  simp only [E.den, dEq, iEq, sEq, cells_Core, b0]
  simp only [D.bool.injEq]
  unfold coreB; grind
theorem c_spec_IsCore (p : Core) : Fun Tryz.prog 70 none [enc p] (.bool (coreB p)) [] := by
 refine Fun.ofV vc_spec_IsCore_ok ty_spec_IsCore_ok rfl ?_ (fun hfit => ?_)
 ·exact ⟨ty_Core p, trivial⟩
 unfold vc_spec_IsCore
 (refine den_call ?_ (c_spec_KindFace p.kind) (⟨rfl, trivial, trivial⟩) ?_; (focus (simp only [VC.den, E.den, dEq, gsH_nil, and_true, cells_Core]; try exact rfl)); (simp only [cA]))
 (refine den_call ?_ (c_spec_l2Has (kindN p.kind) 0 (kindN_lt _) (by omega)) (trivial) ?_; (focus (simp only [VC.den, E.den, dEq, gsH_nil, and_true]; try exact rfl)); (simp only [cA]))
 (refine den_call ?_ (c_spec_IsCells p.cells) (trivial) ?_; (focus (simp only [VC.den, E.den, dEq, gsH_nil, and_true, cells_Core]; try exact rfl)); (simp only [cA]))
 (refine den_call ?_ (c_spec_l2Has (kindN p.kind) 1 (kindN_lt _) (by omega)) (trivial) ?_; (focus (simp only [VC.den, E.den, dEq, gsH_nil, and_true]; try exact rfl)); (simp only [cA]))
 refine den_ite (fun h => ?_) (fun h => ?_)
 ·simp only [E.den, dEq, iEq, sEq, cells_Core] at h
  refine den_ret ?_
  simp only [E.den, D.bool.injEq]
  unfold coreB numB; grind
 ·simp only [E.den, dEq, iEq, sEq, cells_Core] at h
  refine den_ret ?_
  simp only [E.den, dEq, iEq, sEq, cells_Core]
  simp only [D.bool.injEq]
  unfold coreB numB; grind
theorem c_impl_copyCore (p : Core) (h : p.cells.length ≤ 4294967296) : FunR Tryz.prog 94 none [enc p] (enc p) [] [(3, 2)] := by
 refine FunR.ofV vc_impl_copyCore_ok ty_impl_copyCore_ok rt_impl_copyCore_ok rfl ?_ (fun hfit => ?_)
 ·exact ⟨ty_Core p, trivial⟩
 unfold vc_impl_copyCore
 refine den_cond (fun _ => ?_) (den_ret ?_)
 ·simp [E.den, cells_Core, h]
 ·simp [E.den, cells_Core, enc, encS]
theorem c_spec_l3Copy (p : Core) (h : p.cells.length ≤ 4294967296) : FunR Tryz.prog 98 none [enc p] (enc p) [] [(3, 2)] := by
 refine FunR.ofV vc_spec_l3Copy_ok ty_spec_l3Copy_ok rt_spec_l3Copy_ok rfl ?_ (fun hfit => ?_)
 ·exact ⟨ty_Core p, trivial⟩
 unfold vc_spec_l3Copy
 refine den_cond (fun _ => ?_) (den_ret ?_)
 ·simp [E.den, cells_Core, h]
 ·simp [E.den, cells_Core, enc, encS]
theorem c_impl_copyPart (p : Part) (h : p.core.cells.length ≤ 4294967296) (h' : p.layers.length ≤ 4294967296) : FunR Tryz.prog 55 none [enc p] (enc p) [] [(3, 2), (5, 2)] := by
 refine FunR.ofV vc_impl_copyPart_ok ty_impl_copyPart_ok rt_impl_copyPart_ok rfl ?_ (fun hfit => ?_)
 ·exact ⟨ty_Part p, trivial⟩
 unfold vc_impl_copyPart
 (refine den_callR ?_ (c_impl_copyCore p.core h) (ty_Core _) ?_; (focus (simp only [VC.den, E.den, dEq, gsH_nil, and_true, cells_Part]; try exact rfl)); (simp only [cA]))
 refine den_cond (fun _ => ?_) (den_ret ?_)
 ·simp [E.den, cells_Part, h']
 ·simp [E.den, cells_Part, cells_Core, enc, encS]
theorem c_spec_l4Copy (p : Part) (h : p.core.cells.length ≤ 4294967296) (h' : p.layers.length ≤ 4294967296) : FunR Tryz.prog 58 none [enc p] (enc p) [] [(3, 2), (5, 2)] := by
 refine FunR.ofV vc_spec_l4Copy_ok ty_spec_l4Copy_ok rt_spec_l4Copy_ok rfl ?_ (fun hfit => ?_)
 ·exact ⟨ty_Part p, trivial⟩
 unfold vc_spec_l4Copy
 (refine den_callR ?_ (c_spec_l3Copy p.core h) (ty_Core _) ?_; (focus (simp only [VC.den, E.den, dEq, gsH_nil, and_true, cells_Part]; try exact rfl)); (simp only [cA]))
 refine den_cond (fun _ => ?_) (den_ret ?_)
 ·simp [E.den, cells_Part, h']
 ·simp [E.den, cells_Part, cells_Core, enc, encS]
def faceAt (p : Part) (k : Nat) : Nat := if k = 0 then kindN p.core.kind else giveN (nth p.layers (k - 1)).name
theorem faceAt_lt (p : Part) (k : Nat) : faceAt p k < 64 := by unfold faceAt; split; exact kindN_lt _; exact giveN_lt _
def faceOf (p : Part) : Nat := faceAt p p.layers.length
theorem c_impl_faceBelow (p : Part) (k : Nat) (hk : k ≤ p.layers.length) : Fun Tryz.prog 64 none [enc p, .int .i64 k] (.int .i64 (faceAt p k)) [] := by
 refine Fun.ofV vc_impl_faceBelow_ok ty_impl_faceBelow_ok rfl ?_ (fun hfit => ?_)
 ·exact ⟨ty_Part p, rfl, trivial⟩
 have hb : (k : Int) ≤ 9223372036854775807 := hfit.2.1.2
 unfold vc_impl_faceBelow
 refine den_ite (fun h => ?_) (fun h => ?_)
 ·simp only [E.den, dEq, iEq, sEq] at h
  have h : k = 0 := by simp at h; exact h
  subst h
  (refine den_call ?_ (c_impl_KindFace p.core.kind) (⟨rfl, trivial, trivial⟩) ?_; (focus (simp only [VC.den, E.den, dEq, gsH_nil, and_true, cells_Part]; try exact rfl)); (simp only [cA]))
  exact den_ret rfl
 ·simp only [E.den, dEq, iEq, sEq] at h
  have h : k ≠ 0 := by simpa using h
  have e := sub_one (k := k) (by omega) (by omega)
  refine den_cond (fun _ => ?_) ?_
  ·simp [E.den, cells_Part]
   rw [ar_sub (by omega) (by omega)]; omega
  (refine den_call ?_ (c_impl_layerFaces (nth p.layers (k - 1)).name) (⟨rfl, rfl, trivial, trivial⟩) ?_; (focus (simp only [VC.den, E.den, dEq, gsH_nil, and_true, cells_Part, row_Layer, cells_Layer, e]; try exact rfl)); (simp only [cA]))
  exact den_ret (by simp [E.den, layD, faceAt, h])
theorem c_spec_l4Face (p : Part) (k : Nat) (hk : k ≤ p.layers.length) : Fun Tryz.prog 72 none [enc p, .int .i64 k] (.int .i64 (faceAt p k)) [] := by
 refine Fun.ofV vc_spec_l4Face_ok ty_spec_l4Face_ok rfl ?_ (fun hfit => ?_)
 ·exact ⟨ty_Part p, rfl, trivial⟩
 have hb : (k : Int) ≤ 9223372036854775807 := hfit.2.1.2
 unfold vc_spec_l4Face
 refine den_ite (fun h => ?_) (fun h => ?_)
 ·simp only [E.den, dEq, iEq, sEq] at h
  have h : k = 0 := by simp at h; exact h
  subst h
  (refine den_call ?_ (c_spec_KindFace p.core.kind) (⟨rfl, trivial, trivial⟩) ?_; (focus (simp only [VC.den, E.den, dEq, gsH_nil, and_true, cells_Part]; try exact rfl)); (simp only [cA]))
  exact den_ret rfl
 ·simp only [E.den, dEq, iEq, sEq] at h
  have h : k ≠ 0 := by simpa using h
  have e := sub_one (k := k) (by omega) (by omega)
  refine den_cond (fun _ => ?_) ?_
  ·simp [E.den, cells_Part]
   rw [ar_sub (by omega) (by omega)]; omega
  (refine den_call ?_ (c_spec_l4Row (nth p.layers (k - 1)).name) (⟨rfl, rfl, trivial, trivial⟩) ?_; (focus (simp only [VC.den, E.den, dEq, gsH_nil, and_true, cells_Part, row_Layer, cells_Layer, e]; try exact rfl)); (simp only [cA]))
  exact den_ret (by simp [E.den, layD, faceAt, h])
theorem c_impl_FaceOf (p : Part) : Fun Tryz.prog 25 none [enc p] (.int .i64 (faceOf p)) [] := by
 refine Fun.ofV vc_impl_FaceOf_ok ty_impl_FaceOf_ok rfl ?_ (fun hfit => ?_)
 ·exact ⟨ty_Part p, trivial⟩
 unfold vc_impl_FaceOf
 (refine den_call ?_ (c_impl_faceBelow p p.layers.length (Nat.le_refl _)) (rfl) ?_; (focus (simp only [VC.den, E.den, dEq, gsH_nil, and_true, cells_Part]; try exact rfl)); (simp only [cA]))
 exact den_ret rfl
theorem c_spec_FaceOf (p : Part) : Fun Tryz.prog 61 none [enc p] (.int .i64 (faceOf p)) [] := by
 refine Fun.ofV vc_spec_FaceOf_ok ty_spec_FaceOf_ok rfl ?_ (fun hfit => ?_)
 ·exact ⟨ty_Part p, trivial⟩
 unfold vc_spec_FaceOf
 (refine den_call ?_ (c_spec_l4Face p p.layers.length (Nat.le_refl _)) (rfl) ?_; (focus (simp only [VC.den, E.den, dEq, gsH_nil, and_true, cells_Part]; try exact rfl)); (simp only [cA]))
 exact den_ret rfl
def counts : ByteArray := ⟨#[99, 111, 117, 110, 116, 115]⟩
def hears : ByteArray := ⟨#[104, 101, 97, 114, 115]⟩
def layerB (p : Part) (k : Nat) : Bool := layOk (nth p.layers k).name && offersB (faceAt p k) (needN (nth p.layers k).name) && numB (nth p.layers k).count && (decide ((nth p.layers k).count = 0) || decide ((nth p.layers k).name = counts) || decide ((nth p.layers k).name = hears))
def partB (p : Part) : Bool := coreB p.core && decide (p.layers.length ≤ 3) && allTo (layerB p) p.layers.length
theorem c_impl_IsPart (p : Part) : Fun Tryz.prog 20 none [enc p] (.bool (partB p)) [] := by
 refine Fun.ofV vc_impl_IsPart_ok ty_impl_IsPart_ok rfl ?_ (fun hfit => ?_)
 ·exact ⟨ty_Part p, trivial⟩
 unfold vc_impl_IsPart
 (refine den_call ?_ (c_impl_IsCore p.core) (trivial) ?_; (focus (simp only [VC.den, E.den, dEq, gsH_nil, and_true, cells_Part]; try exact rfl)); (simp only [cA]))
 refine den_ite (fun h => ?_) (fun h => ?_)
 ·simp only [E.den, dEq, iEq, sEq, cells_Part] at h
  refine den_ret ?_
  simp only [E.den, D.bool.injEq]
  unfold partB; grind
 simp only [E.den, dEq, iEq, sEq, cells_Part] at h
 have hc : coreB p.core = true := by grind
 have h3 : p.layers.length ≤ 3 := by grind
 refine den_for p.layers.length (fun k => [.int .i64 k]) (fun k => allTo (layerB p) k = true) rfl rfl ?_
 intro k hk hI _
 simp only [cA]
 refine den_ite (fun h2 => ?_) (fun h2 => ?_)
 ·simp only [E.den, dEq, iEq, sEq, cells_Part] at h2
  have h2 : k < p.layers.length := by simp at h2; exact h2
  (refine den_cond (fun hg => ?_) ?_; (focus (simp only [gsH, gE, E.den, dEq, iEq, sEq, cells_Part] at hg ⊢; (try simp only [D.bool.injEq] at hg); (try simp only [D.bool.injEq]); grind)))
  (refine den_call ?_ (c_impl_layerFaces (nth p.layers k).name) (⟨rfl, rfl, trivial, trivial⟩) ?_; (focus (simp only [VC.den, E.den, dEq, gsH_nil, and_true, cells_Part, row_Layer, cells_Layer]; try exact rfl)); (simp only [cA]))
  (refine den_call ?_ (c_impl_faceBelow p k hk) (rfl) ?_; (focus (simp only [VC.den, E.den, dEq, gsH_nil, and_true]; try exact rfl)); (simp only [cA]))
  (refine den_call ?_ (c_impl_Offers (faceAt p k) (needN (nth p.layers k).name)) (trivial) ?_; (focus (simp only [VC.den, E.den, dEq, gsH_nil, and_true, layD]; try exact rfl)); (simp only [cA]))
  (refine den_call ?_ (c_impl_isNumber (nth p.layers k).count) (trivial) ?_; (focus (simp only [VC.den, E.den, dEq, gsH_nil, and_true, cells_Part, row_Layer, cells_Layer]; try exact rfl)); (simp only [cA]))
  refine den_ite (fun h3 => ?_) (fun h3 => ?_)
  ·simp only [E.den, dEq, iEq, sEq, cells_Part, row_Layer, cells_Layer, layD] at h3
   have hb : layerB p k = false := by unfold layerB counts hears; grind
   refine den_ret ?_
   simp [E.den, partB, allTo_bad h2 hb]
  ·simp only [E.den, dEq, iEq, sEq, cells_Part, row_Layer, cells_Layer, layD] at h3
   have hb : layerB p k = true := by unfold layerB counts hears; grind
   refine den_next h2 ?_ (show (allTo (layerB p) k && layerB p k) = true by rw [hI, hb]; rfl)
   simp only [E.den, dEq, iEq, sEq]
   rw [ar_add (by omega) (by omega)]; rfl
 ·simp only [E.den, dEq, iEq, sEq, cells_Part] at h2
  obtain rfl : k = p.layers.length := by simp at h2; omega
  exact den_ret (by simp [E.den, partB, hI, hc, h3])
theorem c_spec_IsPart (p : Part) : Fun Tryz.prog 28 none [enc p] (.bool (partB p)) [] := by
 refine Fun.ofV vc_spec_IsPart_ok ty_spec_IsPart_ok rfl ?_ (fun hfit => ?_)
 ·exact ⟨ty_Part p, trivial⟩
 unfold vc_spec_IsPart
 (refine den_call ?_ (c_spec_IsCore p.core) (trivial) ?_; (focus (simp only [VC.den, E.den, dEq, gsH_nil, and_true, cells_Part]; try exact rfl)); (simp only [cA]))
 refine den_ite (fun h => ?_) (fun h => ?_)
 ·simp only [E.den, dEq, iEq, sEq, cells_Part] at h
  refine den_ret ?_
  simp only [E.den, D.bool.injEq]
  unfold partB; grind
 simp only [E.den, dEq, iEq, sEq, cells_Part] at h
 have hc : coreB p.core = true := by grind
 have h3 : p.layers.length ≤ 3 := by grind
 refine den_for p.layers.length (fun k => [.int .i64 k]) (fun k => allTo (layerB p) k = true) rfl rfl ?_
 intro k hk hI _
 simp only [cA]
 refine den_ite (fun h2 => ?_) (fun h2 => ?_)
 ·simp only [E.den, dEq, iEq, sEq, cells_Part] at h2
  have h2 : k < p.layers.length := by simp at h2; exact h2
  (refine den_cond (fun hg => ?_) ?_; (focus (simp only [gsH, gE, E.den, dEq, iEq, sEq, cells_Part] at hg ⊢; (try simp only [D.bool.injEq] at hg); (try simp only [D.bool.injEq]); grind)))
  (refine den_call ?_ (c_spec_LayerNeeds (nth p.layers k).name) (⟨rfl, trivial, trivial⟩) ?_; (focus (simp only [VC.den, E.den, dEq, gsH_nil, and_true, cells_Part, row_Layer, cells_Layer]; try exact rfl)); (simp only [cA]))
  (refine den_call ?_ (c_spec_l4Face p k hk) (rfl) ?_; (focus (simp only [VC.den, E.den, dEq, gsH_nil, and_true]; try exact rfl)); (simp only [cA]))
  (refine den_call ?_ (c_spec_Offers (faceAt p k) (needN (nth p.layers k).name)) (trivial) ?_; (focus (simp only [VC.den, E.den, dEq, gsH_nil, and_true]; try exact rfl)); (simp only [cA]))
  refine den_ite (fun h3 => ?_) (fun h3 => ?_)
  ·simp only [E.den, dEq, iEq, sEq, cells_Part, row_Layer, cells_Layer] at h3
   have hb : layerB p k = false := by unfold layerB counts hears numB; grind
   refine den_ret ?_
   simp [E.den, partB, allTo_bad h2 hb]
  ·simp only [E.den, dEq, iEq, sEq, cells_Part, row_Layer, cells_Layer] at h3
   have hb : layerB p k = true := by unfold layerB counts hears numB; grind
   refine den_next h2 ?_ (show (allTo (layerB p) k && layerB p k) = true by rw [hI, hb]; rfl)
   simp only [E.den, dEq, iEq, sEq]
   rw [ar_add (by omega) (by omega)]; rfl
 ·simp only [E.den, dEq, iEq, sEq, cells_Part] at h2
  obtain rfl : k = p.layers.length := by simp at h2; omega
  exact den_ret (by simp [E.den, partB, hI, hc, h3])
def rep (code val want had : Int) : Reply := ⟨code, val, ⟨#[]⟩, want, had⟩
def wrapP (p : Part) (s : ByteArray) : Part × Reply :=
 if partB p = false ∨ layOk s = false then (p, rep 7 0 0 0)
 else if 3 ≤ p.layers.length then (p, rep 5 0 0 0)
 else if offersB (faceOf p) (needN s) = false then (p, rep 1 0 (needN s) (faceOf p))
 else (⟨p.core, p.layers ++ [⟨s, 0⟩]⟩, rep 0 (giveN s) 0 0)
theorem c_spec_Wrap (p : Part) (s : ByteArray) (h1 : p.core.cells.length ≤ 4294967296) (h2 : p.layers.length ≤ 4294967295) : FunR Tryz.prog 18 none [enc p, .str s] (.tup [enc (wrapP p s).1, enc (wrapP p s).2]) [] [(3, 2), (5, 2)] := by
 refine FunR.ofV vc_spec_Wrap_ok ty_spec_Wrap_ok rt_spec_Wrap_ok rfl ?_ (fun hfit => ?_)
 ·exact ⟨ty_Part p, trivial, trivial⟩
 unfold vc_spec_Wrap
 (refine den_callR ?_ (c_spec_l4Copy p h1 (by omega)) (ty_Part _) ?_; (focus (simp only [VC.den, E.den, dEq, gsH_nil, and_true]; try exact rfl)); (simp only [cA]))
 (refine den_call ?_ (c_spec_l4Row s) (⟨rfl, rfl, trivial, trivial⟩) ?_; (focus (simp only [VC.den, E.den, dEq, gsH_nil, and_true]; try exact rfl)); (simp only [cA]))
 (refine den_call ?_ (c_spec_IsPart p) (trivial) ?_; (focus (simp only [VC.den, E.den, dEq, gsH_nil, and_true]; try exact rfl)); (simp only [cA]))
 refine den_ite (fun h => ?_) (fun h => ?_)
 ·simp only [E.den, dEq, iEq, sEq, layD] at h
  refine den_ret ?_
  unfold wrapP
  rw [if_pos (by grind)]
  rfl
 simp only [E.den, dEq, iEq, sEq, layD] at h
 have hn : ¬ (partB p = false ∨ layOk s = false) := by grind
 have hp3 : p.layers.length ≤ 3 := by
  have : partB p = true := by grind
  unfold partB at this; grind
 refine den_ite (fun h3 => ?_) (fun h3 => ?_)
 ·simp only [E.den, dEq, iEq, sEq, cells_Part] at h3
  refine den_ret ?_
  unfold wrapP
  rw [if_neg hn, if_pos (by grind)]
  rfl
 simp only [E.den, dEq, iEq, sEq, cells_Part] at h3
 have hm : ¬ 3 ≤ p.layers.length := by grind
 (refine den_call ?_ (c_spec_FaceOf p) (rfl) ?_; (focus (simp only [VC.den, E.den, dEq, gsH_nil, and_true]; try exact rfl)); (simp only [cA]))
 (refine den_call ?_ (c_spec_Offers (faceOf p) (needN s)) (trivial) ?_; (focus (simp only [VC.den, E.den, dEq, gsH_nil, and_true, layD]; try exact rfl)); (simp only [cA]))
 refine den_ite (fun h4 => ?_) (fun h4 => ?_)
 ·simp only [E.den, dEq, iEq, sEq] at h4
  (refine den_call ?_ (c_spec_FaceOf p) (rfl) ?_; (focus (simp only [VC.den, E.den, dEq, gsH_nil, and_true]; try exact rfl)); (simp only [cA]))
  refine den_ret ?_
  unfold wrapP
  rw [if_neg hn, if_neg hm, if_pos (by grind)]
  rfl
 ·simp only [E.den, dEq, iEq, sEq] at h4
  refine den_cond (fun _ => ?_) (den_ret ?_)
  ·simp [E.den, cells_Part]; omega
  unfold wrapP
  rw [if_neg hn, if_neg hm, if_neg (by grind)]
  simp [E.den, cells_Part, enc, encS, cells_Layer, layD, rep, cells_Reply]
def firstTo (p : Nat → Bool) : Nat → Option Nat
 | 0 => none
 | n + 1 => match firstTo p n with
  | some k => some k
  | none => if p n then some n else none
theorem firstTo_none {p : Nat → Bool} : ∀ {n : Nat}, (∀ i, i < n → p i = false) → firstTo p n = none
 | 0, _ => rfl
 | n + 1, h => by
  have h1 := firstTo_none (n := n) (fun i hi => h i (by omega))
  simp [firstTo, h1, h n (by omega)]
theorem firstTo_some {p : Nat → Bool} {k : Nat} (hp : p k = true) (h : ∀ i, i < k → p i = false) : ∀ {n : Nat}, k < n → firstTo p n = some k
 | 0, hk => by omega
 | n + 1, hk => by
  by_cases e : k = n
  ·subst e; simp [firstTo, firstTo_none h, hp]
  ·simp [firstTo, firstTo_some hp h (show k < n by omega)]
end Go.Proofs.YtbgcaneflfdddaaGreatDoor
/- Needs, entries, registries, providers: what the program and the reference compute. -/
namespace Go.Proofs.YtbgcaneflfdddaaGreatDoor
open Go.RowKit Go
variable [GC]
def noText : ByteArray := ⟨#[]⟩
theorem firstTo_lt {p : Nat → Bool} {k : Nat} : ∀ {n : Nat}, firstTo p n = some k → k < n ∧ p k = true ∧ ∀ i, i < k → p i = false
 | 0, h => by cases h
 | n + 1, h => by
  simp only [firstTo] at h
  split at h
  ·rename_i j hj
   cases h
   obtain ⟨h1, h2, h3⟩ := firstTo_lt hj
   exact ⟨by omega, h2, h3⟩
  ·rename_i hj
   split at h
   ·rename_i hp
    cases h
    refine ⟨by omega, hp, fun i hi => ?_⟩
    cases hb : p i with
    | false => rfl
    | true =>
     exfalso
     have : ∀ {n : Nat}, firstTo p n = none → ∀ i, i < n → p i = false := by
      intro n
      induction n with
      | zero => intro _ i hi; omega
      | succ n ih =>
       intro h i hi
       simp only [firstTo] at h
       split at h
       ·cases h
       ·rename_i hn
        split at h
        ·cases h
        ·rename_i hp
         by_cases e : i = n
         ·subst e; simpa using hp
         ·exact ih hn i (by omega)
     rw [this hj i hi] at hb; cases hb
   ·cases h
theorem rws_strs {w' : World} {M : Addr → Prop} {b : Nat} (hM : ∀ o, ¬ M ⟨b, o, none⟩) : ∀ (l : List ByteArray) (k : Nat), (∀ i (h : i < l.length), w'.cell? ⟨b, k + i, none⟩ = some (.string l[i])) → (∀ s, s ∈ l → s.size ≤ maxLen) → Rws w' M (l.map Enc.cells) b k
 | [], _, _, _ => by simp [Rws]
 | s :: l, k, h, hs => by
  simp only [List.map_cons, Rws, cells_str, Rw, R, and_true]
  refine ⟨⟨_, h 0 (by simp), hM _, rfl, hs s (by simp)⟩, rws_strs hM l (k + 1) (fun i hi => ?_) fun s' h' => hs s' (by simp [h'])⟩
  have := h (i + 1) (by simp; omega)
  rw [show k + (i + 1) = k + 1 + i by omega] at this
  simpa using this
theorem R_strs {w' : World} {M : Addr → Prop} {cs : Array Value} {T b n : Nat} (l : List ByteArray) (h : w'.heap[b]? = some (.cells cs T)) (hcs : cs = (l.map Value.string).toArray) (hn : n = l.length) (hM : ∀ o, ¬ M ⟨b, o, none⟩) (hs : ∀ s, s ∈ l → s.size ≤ maxLen) (hl : l.length ≤ maxLen) :
  R w' M (encS l) (.slice (some ⟨b, 0, none⟩) n n) := by
 subst hn
 refine ⟨_, _, _, rfl, by simp, Nat.le_refl _, hl, fun h => by (cases h), ?_⟩
 intro b' o s e
 cases e
 refine ⟨fun _ => rfl, rws_strs hM l 0 (fun i hi => ?_) hs⟩
 simp [World.cell?, h, hcs, hi]
theorem heap_old {w : World} {o o' : Obj} {b : Nat} (h : w.heap[b]? = some o) : (w.alloc o').heap[b]? = some o := by
 have hb : b < w.heap.size := by
  rcases Nat.lt_or_ge b w.heap.size with h' | h'
  ·exact h'
  ·rw [Array.getElem?_eq_none h'] at h; cases h
 exact (Below.heap_alloc w o' b hb).trans h
theorem heap_new {w : World} {o : Obj} {b : Nat} (h : b = w.heap.size) : (w.alloc o).heap[b]? = some o := by
 subst h
 show (w.heap.push o)[w.heap.size]? = _
 simp
end Go.Proofs.YtbgcaneflfdddaaGreatDoor
