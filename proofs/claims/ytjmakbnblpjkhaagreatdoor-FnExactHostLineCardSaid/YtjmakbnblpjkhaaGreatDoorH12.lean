/- The program's structures as plain types: their cells, their types, equality. Written by gen2.py. -/
import Derived.Test.YtjmakbnblpjkhaaGreatDoorH11
import Derived.PlainAid
import Derived.Test.YtjmakbnblpjkhaaGreatDoorProg
import Derived.WalkKit
import Derived.Handy
import Derived.Deep.QuietTactic
import Derived.BigQuiet
import Derived.Lib.Hide
import Derived.Deep.Draws
import Derived.StillTailTactics
import Derived.Deep.RegionHeld3
import Derived.Laws.Rows
import Derived.Laws.ResultCell
import Derived.Laws.BitsLemmas
import Derived.Laws.BitsAllLaws
set_option linter.unusedVariables false
set_option linter.unusedSimpArgs false
set_option maxRecDepth 100000
set_option linter.unusedSectionVars false
namespace Go.Proofs.YtjmakbnblpjkhaaGreatDoor
open Go.RowKit Go
variable [GC]
instance : Enc ByteArray := { cells := fun s => [.str s] }
instance : Enc Int := { cells := fun n => [.int .i64 n] }
theorem cells_str (s : ByteArray) : Enc.cells s = [.str s] := rfl
theorem cells_int (n : Int) : Enc.cells n = [.int .i64 n] := rfl
theorem row_str (l : List ByteArray) (k : Nat) : D.agg (((l.map Enc.cells)[k]?).getD [zeroD CT.str]) = enc (nth l k) := row_enc l k rfl
theorem row_int (l : List Int) (k : Nat) : D.agg (((l.map Enc.cells)[k]?).getD [zeroD (CT.int .i64)]) = enc (nth l k) := row_enc l k rfl
def byteZ (s : ByteArray) (k : Nat) : Int := ((s[k]?).map fun (c : UInt8) => (c.toNat : Int)).getD 0
theorem at_byte (s : ByteArray) (k : Nat) : ((s[k]?).map fun (c : UInt8) => (c.toNat : Int)).getD 0 = byteZ s k := rfl
theorem fits_str {s : ByteArray} (h : Fits (.str s)) : s.size ≤ 9223372036854775807 := by simpa [Fits, maxLen] using h
theorem len_str (s : ByteArray) : lenD (.str s) = s.size := rfl
theorem ty_str (s : ByteArray) : RowTy tbl.tab [.str] (Enc.cells s) := by simp [cells_str, RowTy, HasTy]
theorem tab_str : tbl.tab 9 = [.str] := by kernel_rfl
theorem ty_strS (l : List ByteArray) : HasTy tbl.tab (.sl 9) (encS l) := by
 show RowsTy _ (tbl.tab _) _
 rw [tab_str]; exact rowsTy_map ty_str l
theorem decR {α : Type} [Enc α] {tab : Nat → List CT} {ts : List CT} (h : ∀ row, RowTy tab ts row → ∃ x : α, row = Enc.cells x) : ∀ {rows : List (List D)}, RowsTy tab ts rows → ∃ l : List α, rows = l.map Enc.cells
 | [], _ => ⟨[], rfl⟩
 | r :: rows, hr => by
  simp only [RowsTy] at hr
  obtain ⟨x, rfl⟩ := h r hr.1
  obtain ⟨l, rfl⟩ := decR h hr.2
  exact ⟨x :: l, rfl⟩
theorem dec_str (row : List D) (h : RowTy tbl.tab [.str] row) : ∃ x : ByteArray, row = Enc.cells x := by
 match row, h with
 | [a], h => obtain ⟨s, rfl⟩ := hasTy_str h.1; exact ⟨s, rfl⟩
theorem decS_str {d : D} (h : HasTy tbl.tab (.sl 9) d) : ∃ l : List ByteArray, d = encS l := by
 obtain ⟨rows, rfl, hr⟩ := hasTy_sl h
 rw [tab_str] at hr
 obtain ⟨l, rfl⟩ := decR dec_str hr
 exact ⟨l, rfl⟩
theorem toList_eqB (a b : ByteArray) : (a.toList == b.toList) = decide (a = b) := by
 rw [Bool.eq_iff_iff]
 simp only [beq_iff_eq, decide_eq_true_eq]
 refine ⟨fun h => ?_, fun h => by rw [h]⟩
 rw [ByteArray.toList_eq, ByteArray.toList_eq] at h
 cases a; cases b; simp_all [Array.toList_inj]
theorem cmpS_eql (a b : ByteArray) : cmpS .eql a b = decide (a = b) := toList_eqB a b
theorem cmpS_neq (a b : ByteArray) : cmpS .neq a b = !decide (a = b) := by rw [← toList_eqB]; rfl
def ltB (a b : ByteArray) : Bool := Op.bytesLess a.toList b.toList
theorem cmpS_lss (a b : ByteArray) : cmpS .lss a b = ltB a b := rfl
theorem cmpS_geq (a b : ByteArray) : cmpS .geq a b = !ltB a b := rfl
theorem sEq : (∀ s : ByteArray, lenD (.str s) = s.size) ∧ (∀ (s : ByteArray) (k : Nat), ((s[k]?).map fun (c : UInt8) => (c.toNat : Int)).getD 0 = byteZ s k) ∧ (∀ a b : ByteArray, cmpS .eql a b = decide (a = b)) ∧ (∀ a b : ByteArray, cmpS .neq a b = !decide (a = b)) ∧ (∀ a b : ByteArray, cmpS .lss a b = ltB a b) ∧ (∀ a b : ByteArray, cmpS .geq a b = !ltB a b) := ⟨len_str, at_byte, cmpS_eql, cmpS_neq, cmpS_lss, cmpS_geq⟩
structure Layer where
 name : ByteArray
 count : Int
 deriving DecidableEq, Inhabited
instance : Enc Layer := { cells := fun v => [.str v.name, .int .i64 v.count] }
theorem cells_Layer (v : Layer) : Enc.cells v = [.str v.name, .int .i64 v.count] := rfl
theorem row_Layer (l : List Layer) (k : Nat) : D.agg (((l.map Enc.cells)[k]?).getD [zeroD (CT.str), zeroD (CT.int .i64)]) = enc (nth l k) := row_enc l k rfl
theorem eq_Layer (v u : Layer) : v = u ↔ v.name = u.name ∧ v.count = u.count := ⟨fun h => by subst h; simp, fun h => by cases v; cases u; simp_all⟩
theorem ty_Layer (v : Layer) : RowTy tbl.tab [.str, .int .i64] (Enc.cells v) := ⟨trivial, rfl, trivial⟩
theorem tab_Layer : tbl.tab 160 = [.str, .int .i64] := by kernel_rfl
theorem ty_LayerS (l : List Layer) : HasTy tbl.tab (.sl 160) (encS l) := by
 show RowsTy _ (tbl.tab _) _
 rw [tab_Layer]; exact rowsTy_map ty_Layer l
theorem ty_laws_Layer (v : Layer) : RowTy tbl.tab [.str, .int .i64] (Enc.cells v) := ⟨trivial, rfl, trivial⟩
theorem tab_laws_Layer : tbl.tab 196 = [.str, .int .i64] := by kernel_rfl
theorem ty_laws_LayerS (l : List Layer) : HasTy tbl.tab (.sl 196) (encS l) := by
 show RowsTy _ (tbl.tab _) _
 rw [tab_laws_Layer]; exact rowsTy_map ty_laws_Layer l
theorem dec_laws_Layer (row : List D) (h : RowTy tbl.tab [.str, .int .i64] row) : ∃ x : Layer, row = Enc.cells x := by
 match row, h with
 | [a0, a1], h =>
  obtain ⟨b0, rfl⟩ := hasTy_str (h.1)
  obtain ⟨b1, rfl⟩ := hasTy_int (h.2.1)
  exact ⟨⟨b0, b1⟩, rfl⟩
theorem decS_laws_Layer {d : D} (h : HasTy tbl.tab (.sl 196) d) : ∃ l : List Layer, d = encS l := by
 obtain ⟨rows, rfl, hr⟩ := hasTy_sl h
 rw [tab_laws_Layer] at hr
 obtain ⟨l, rfl⟩ := decR dec_laws_Layer hr
 exact ⟨l, rfl⟩
structure Cell where
 key : ByteArray
 val : Int
 deriving DecidableEq, Inhabited
instance : Enc Cell := { cells := fun v => [.str v.key, .int .i64 v.val] }
theorem cells_Cell (v : Cell) : Enc.cells v = [.str v.key, .int .i64 v.val] := rfl
theorem row_Cell (l : List Cell) (k : Nat) : D.agg (((l.map Enc.cells)[k]?).getD [zeroD (CT.str), zeroD (CT.int .i64)]) = enc (nth l k) := row_enc l k rfl
theorem eq_Cell (v u : Cell) : v = u ↔ v.key = u.key ∧ v.val = u.val := ⟨fun h => by subst h; simp, fun h => by cases v; cases u; simp_all⟩
theorem ty_Cell (v : Cell) : RowTy tbl.tab [.str, .int .i64] (Enc.cells v) := ⟨trivial, rfl, trivial⟩
theorem tab_Cell : tbl.tab 123 = [.str, .int .i64] := by kernel_rfl
theorem ty_CellS (l : List Cell) : HasTy tbl.tab (.sl 123) (encS l) := by
 show RowsTy _ (tbl.tab _) _
 rw [tab_Cell]; exact rowsTy_map ty_Cell l
theorem ty_laws_Cell (v : Cell) : RowTy tbl.tab [.str, .int .i64] (Enc.cells v) := ⟨trivial, rfl, trivial⟩
theorem tab_laws_Cell : tbl.tab 220 = [.str, .int .i64] := by kernel_rfl
theorem ty_laws_CellS (l : List Cell) : HasTy tbl.tab (.sl 220) (encS l) := by
 show RowsTy _ (tbl.tab _) _
 rw [tab_laws_Cell]; exact rowsTy_map ty_laws_Cell l
theorem dec_laws_Cell (row : List D) (h : RowTy tbl.tab [.str, .int .i64] row) : ∃ x : Cell, row = Enc.cells x := by
 match row, h with
 | [a0, a1], h =>
  obtain ⟨b0, rfl⟩ := hasTy_str (h.1)
  obtain ⟨b1, rfl⟩ := hasTy_int (h.2.1)
  exact ⟨⟨b0, b1⟩, rfl⟩
theorem decS_laws_Cell {d : D} (h : HasTy tbl.tab (.sl 220) d) : ∃ l : List Cell, d = encS l := by
 obtain ⟨rows, rfl, hr⟩ := hasTy_sl h
 rw [tab_laws_Cell] at hr
 obtain ⟨l, rfl⟩ := decR dec_laws_Cell hr
 exact ⟨l, rfl⟩
structure Core where
 kind : ByteArray
 on : Bool
 broken : Bool
 cells : List Cell
 count : Int
 deriving DecidableEq, Inhabited
instance : Enc Core := { cells := fun v => [.str v.kind, .bool v.on, .bool v.broken, encS v.cells, .int .i64 v.count] }
theorem cells_Core (v : Core) : Enc.cells v = [.str v.kind, .bool v.on, .bool v.broken, encS v.cells, .int .i64 v.count] := rfl
theorem eq_Core (v u : Core) : v = u ↔ v.kind = u.kind ∧ v.on = u.on ∧ v.broken = u.broken ∧ v.cells = u.cells ∧ v.count = u.count := ⟨fun h => by subst h; simp, fun h => by cases v; cases u; simp_all⟩
theorem ty_Core (v : Core) : RowTy tbl.tab [.str, .bool, .bool, .sl 123, .int .i64] (Enc.cells v) := ⟨trivial, trivial, trivial, ty_CellS _, rfl, trivial⟩
theorem ty_laws_Core (v : Core) : RowTy tbl.tab [.str, .bool, .bool, .sl 220, .int .i64] (Enc.cells v) := ⟨trivial, trivial, trivial, ty_laws_CellS _, rfl, trivial⟩
structure Call where
 method : ByteArray
 key : ByteArray
 val : Int
 text : ByteArray
 deriving DecidableEq, Inhabited
instance : Enc Call := { cells := fun v => [.str v.method, .str v.key, .int .i64 v.val, .str v.text] }
theorem cells_Call (v : Call) : Enc.cells v = [.str v.method, .str v.key, .int .i64 v.val, .str v.text] := rfl
theorem eq_Call (v u : Call) : v = u ↔ v.method = u.method ∧ v.key = u.key ∧ v.val = u.val ∧ v.text = u.text := ⟨fun h => by subst h; simp, fun h => by cases v; cases u; simp_all⟩
theorem eqv_Call (v u : Call) : eqvL (Enc.cells v) (Enc.cells u) = decide (v = u) := by
 rw [Bool.eq_iff_iff]
 simp [cells_Call, eqvL, eqvD, toList_eqB, eq_Call, and_assoc]
theorem ty_Call (v : Call) : RowTy tbl.tab [.str, .str, .int .i64, .str] (Enc.cells v) := ⟨trivial, trivial, rfl, trivial, trivial⟩
theorem ty_laws_Call (v : Call) : RowTy tbl.tab [.str, .str, .int .i64, .str] (Enc.cells v) := ⟨trivial, trivial, rfl, trivial, trivial⟩
structure Reply where
 code : Int
 val : Int
 text : ByteArray
 want : Int
 had : Int
 deriving DecidableEq, Inhabited
instance : Enc Reply := { cells := fun v => [.int .i64 v.code, .int .i64 v.val, .str v.text, .int .i64 v.want, .int .i64 v.had] }
theorem cells_Reply (v : Reply) : Enc.cells v = [.int .i64 v.code, .int .i64 v.val, .str v.text, .int .i64 v.want, .int .i64 v.had] := rfl
theorem ty_Reply (v : Reply) : RowTy tbl.tab [.int .i64, .int .i64, .str, .int .i64, .int .i64] (Enc.cells v) := ⟨rfl, rfl, trivial, rfl, rfl, trivial⟩
structure Part where
 core : Core
 layers : List Layer
 deriving DecidableEq, Inhabited
instance : Enc Part := { cells := fun v => [.str v.core.kind, .bool v.core.on, .bool v.core.broken, encS v.core.cells, .int .i64 v.core.count, encS v.layers] }
theorem cells_Part (v : Part) : Enc.cells v = [.str v.core.kind, .bool v.core.on, .bool v.core.broken, encS v.core.cells, .int .i64 v.core.count, encS v.layers] := rfl
theorem row_Part (l : List Part) (k : Nat) : D.agg (((l.map Enc.cells)[k]?).getD [zeroD (CT.str), zeroD (CT.bool), zeroD (CT.bool), zeroD (CT.sl 123), zeroD (CT.int .i64), zeroD (CT.sl 160)]) = enc (nth l k) := row_enc l k rfl
theorem eq_Part (v u : Part) : v = u ↔ v.core = u.core ∧ v.layers = u.layers := ⟨fun h => by subst h; simp, fun h => by cases v; cases u; simp_all⟩
theorem ty_Part (v : Part) : RowTy tbl.tab [.str, .bool, .bool, .sl 123, .int .i64, .sl 160] (Enc.cells v) := ⟨trivial, trivial, trivial, ty_CellS _, rfl, ty_LayerS _, trivial⟩
theorem tab_Part : tbl.tab 67 = [.str, .bool, .bool, .sl 123, .int .i64, .sl 160] := by kernel_rfl
theorem ty_PartS (l : List Part) : HasTy tbl.tab (.sl 67) (encS l) := by
 show RowsTy _ (tbl.tab _) _
 rw [tab_Part]; exact rowsTy_map ty_Part l
theorem ty_laws_Part (v : Part) : RowTy tbl.tab [.str, .bool, .bool, .sl 220, .int .i64, .sl 196] (Enc.cells v) := ⟨trivial, trivial, trivial, ty_laws_CellS _, rfl, ty_laws_LayerS _, trivial⟩
theorem tab_laws_Part : tbl.tab 111 = [.str, .bool, .bool, .sl 220, .int .i64, .sl 196] := by kernel_rfl
theorem ty_laws_PartS (l : List Part) : HasTy tbl.tab (.sl 111) (encS l) := by
 show RowsTy _ (tbl.tab _) _
 rw [tab_laws_Part]; exact rowsTy_map ty_laws_Part l
theorem dec_laws_Part (row : List D) (h : RowTy tbl.tab [.str, .bool, .bool, .sl 220, .int .i64, .sl 196] row) : ∃ x : Part, row = Enc.cells x := by
 match row, h with
 | [a0, a1, a2, a3, a4, a5], h =>
  obtain ⟨b0, rfl⟩ := hasTy_str (h.1)
  obtain ⟨b1, rfl⟩ := hasTy_bool (h.2.1)
  obtain ⟨b2, rfl⟩ := hasTy_bool (h.2.2.1)
  obtain ⟨b3, rfl⟩ := decS_laws_Cell (h.2.2.2.1)
  obtain ⟨b4, rfl⟩ := hasTy_int (h.2.2.2.2.1)
  obtain ⟨b5, rfl⟩ := decS_laws_Layer (h.2.2.2.2.2.1)
  exact ⟨⟨⟨b0, b1, b2, b3, b4⟩, b5⟩, rfl⟩
theorem decS_laws_Part {d : D} (h : HasTy tbl.tab (.sl 111) d) : ∃ l : List Part, d = encS l := by
 obtain ⟨rows, rfl, hr⟩ := hasTy_sl h
 rw [tab_laws_Part] at hr
 obtain ⟨l, rfl⟩ := decR dec_laws_Part hr
 exact ⟨l, rfl⟩
theorem row_laws_Part (l : List Part) (k : Nat) : D.agg (((l.map Enc.cells)[k]?).getD [zeroD (CT.str), zeroD (CT.bool), zeroD (CT.bool), zeroD (CT.sl 220), zeroD (CT.int .i64), zeroD (CT.sl 196)]) = enc (nth l k) := row_enc l k rfl
structure Ver where
 maj : Int
 min : Int
 deriving DecidableEq, Inhabited
instance : Enc Ver := { cells := fun v => [.int .i64 v.maj, .int .i64 v.min] }
theorem cells_Ver (v : Ver) : Enc.cells v = [.int .i64 v.maj, .int .i64 v.min] := rfl
theorem eq_Ver (v u : Ver) : v = u ↔ v.maj = u.maj ∧ v.min = u.min := ⟨fun h => by subst h; simp, fun h => by cases v; cases u; simp_all⟩
theorem ty_Ver (v : Ver) : RowTy tbl.tab [.int .i64, .int .i64] (Enc.cells v) := ⟨rfl, rfl, trivial⟩
theorem ty_laws_Ver (v : Ver) : RowTy tbl.tab [.int .i64, .int .i64] (Enc.cells v) := ⟨rfl, rfl, trivial⟩
structure Need where
 face : Int
 frm : ByteArray
 least : Ver
 deriving DecidableEq, Inhabited
instance : Enc Need := { cells := fun v => [.int .i64 v.face, .str v.frm, .int .i64 v.least.maj, .int .i64 v.least.min] }
theorem cells_Need (v : Need) : Enc.cells v = [.int .i64 v.face, .str v.frm, .int .i64 v.least.maj, .int .i64 v.least.min] := rfl
theorem row_Need (l : List Need) (k : Nat) : D.agg (((l.map Enc.cells)[k]?).getD [zeroD (CT.int .i64), zeroD (CT.str), zeroD (CT.int .i64), zeroD (CT.int .i64)]) = enc (nth l k) := row_enc l k rfl
theorem eq_Need (v u : Need) : v = u ↔ v.face = u.face ∧ v.frm = u.frm ∧ v.least = u.least := ⟨fun h => by subst h; simp, fun h => by cases v; cases u; simp_all⟩
theorem ty_Need (v : Need) : RowTy tbl.tab [.int .i64, .str, .int .i64, .int .i64] (Enc.cells v) := ⟨rfl, trivial, rfl, rfl, trivial⟩
theorem tab_Need : tbl.tab 91 = [.int .i64, .str, .int .i64, .int .i64] := by kernel_rfl
theorem ty_NeedS (l : List Need) : HasTy tbl.tab (.sl 91) (encS l) := by
 show RowsTy _ (tbl.tab _) _
 rw [tab_Need]; exact rowsTy_map ty_Need l
theorem ty_laws_Need (v : Need) : RowTy tbl.tab [.int .i64, .str, .int .i64, .int .i64] (Enc.cells v) := ⟨rfl, trivial, rfl, rfl, trivial⟩
theorem tab_laws_Need : tbl.tab 193 = [.int .i64, .str, .int .i64, .int .i64] := by kernel_rfl
theorem ty_laws_NeedS (l : List Need) : HasTy tbl.tab (.sl 193) (encS l) := by
 show RowsTy _ (tbl.tab _) _
 rw [tab_laws_Need]; exact rowsTy_map ty_laws_Need l
theorem dec_laws_Need (row : List D) (h : RowTy tbl.tab [.int .i64, .str, .int .i64, .int .i64] row) : ∃ x : Need, row = Enc.cells x := by
 match row, h with
 | [a0, a1, a2, a3], h =>
  obtain ⟨b0, rfl⟩ := hasTy_int (h.1)
  obtain ⟨b1, rfl⟩ := hasTy_str (h.2.1)
  obtain ⟨b2, rfl⟩ := hasTy_int (h.2.2.1)
  obtain ⟨b3, rfl⟩ := hasTy_int (h.2.2.2.1)
  exact ⟨⟨b0, b1, ⟨b2, b3⟩⟩, rfl⟩
theorem decS_laws_Need {d : D} (h : HasTy tbl.tab (.sl 193) d) : ∃ l : List Need, d = encS l := by
 obtain ⟨rows, rfl, hr⟩ := hasTy_sl h
 rw [tab_laws_Need] at hr
 obtain ⟨l, rfl⟩ := decR dec_laws_Need hr
 exact ⟨l, rfl⟩
structure Entry where
 name : ByteArray
 recipe : List ByteArray
 ver : Ver
 needs : List Need
 deriving DecidableEq, Inhabited
instance : Enc Entry := { cells := fun v => [.str v.name, encS v.recipe, .int .i64 v.ver.maj, .int .i64 v.ver.min, encS v.needs] }
theorem cells_Entry (v : Entry) : Enc.cells v = [.str v.name, encS v.recipe, .int .i64 v.ver.maj, .int .i64 v.ver.min, encS v.needs] := rfl
theorem row_Entry (l : List Entry) (k : Nat) : D.agg (((l.map Enc.cells)[k]?).getD [zeroD (CT.str), zeroD (CT.sl 9), zeroD (CT.int .i64), zeroD (CT.int .i64), zeroD (CT.sl 91)]) = enc (nth l k) := row_enc l k rfl
theorem eq_Entry (v u : Entry) : v = u ↔ v.name = u.name ∧ v.recipe = u.recipe ∧ v.ver = u.ver ∧ v.needs = u.needs := ⟨fun h => by subst h; simp, fun h => by cases v; cases u; simp_all⟩
theorem ty_Entry (v : Entry) : RowTy tbl.tab [.str, .sl 9, .int .i64, .int .i64, .sl 91] (Enc.cells v) := ⟨trivial, ty_strS _, rfl, rfl, ty_NeedS _, trivial⟩
theorem tab_Entry : tbl.tab 51 = [.str, .sl 9, .int .i64, .int .i64, .sl 91] := by kernel_rfl
theorem ty_EntryS (l : List Entry) : HasTy tbl.tab (.sl 51) (encS l) := by
 show RowsTy _ (tbl.tab _) _
 rw [tab_Entry]; exact rowsTy_map ty_Entry l
theorem ty_laws_Entry (v : Entry) : RowTy tbl.tab [.str, .sl 9, .int .i64, .int .i64, .sl 193] (Enc.cells v) := ⟨trivial, ty_strS _, rfl, rfl, ty_laws_NeedS _, trivial⟩
theorem tab_laws_Entry : tbl.tab 104 = [.str, .sl 9, .int .i64, .int .i64, .sl 193] := by kernel_rfl
theorem ty_laws_EntryS (l : List Entry) : HasTy tbl.tab (.sl 104) (encS l) := by
 show RowsTy _ (tbl.tab _) _
 rw [tab_laws_Entry]; exact rowsTy_map ty_laws_Entry l
theorem dec_laws_Entry (row : List D) (h : RowTy tbl.tab [.str, .sl 9, .int .i64, .int .i64, .sl 193] row) : ∃ x : Entry, row = Enc.cells x := by
 match row, h with
 | [a0, a1, a2, a3, a4], h =>
  obtain ⟨b0, rfl⟩ := hasTy_str (h.1)
  obtain ⟨b1, rfl⟩ := decS_str (h.2.1)
  obtain ⟨b2, rfl⟩ := hasTy_int (h.2.2.1)
  obtain ⟨b3, rfl⟩ := hasTy_int (h.2.2.2.1)
  obtain ⟨b4, rfl⟩ := decS_laws_Need (h.2.2.2.2.1)
  exact ⟨⟨b0, b1, ⟨b2, b3⟩, b4⟩, rfl⟩
theorem decS_laws_Entry {d : D} (h : HasTy tbl.tab (.sl 104) d) : ∃ l : List Entry, d = encS l := by
 obtain ⟨rows, rfl, hr⟩ := hasTy_sl h
 rw [tab_laws_Entry] at hr
 obtain ⟨l, rfl⟩ := decR dec_laws_Entry hr
 exact ⟨l, rfl⟩
theorem row_laws_Entry (l : List Entry) (k : Nat) : D.agg (((l.map Enc.cells)[k]?).getD [zeroD (CT.str), zeroD (CT.sl 9), zeroD (CT.int .i64), zeroD (CT.int .i64), zeroD (CT.sl 193)]) = enc (nth l k) := row_enc l k rfl
structure Link where
 frm : ByteArray
 to : ByteArray
 face : Int
 deriving DecidableEq, Inhabited
instance : Enc Link := { cells := fun v => [.str v.frm, .str v.to, .int .i64 v.face] }
theorem cells_Link (v : Link) : Enc.cells v = [.str v.frm, .str v.to, .int .i64 v.face] := rfl
theorem row_Link (l : List Link) (k : Nat) : D.agg (((l.map Enc.cells)[k]?).getD [zeroD (CT.str), zeroD (CT.str), zeroD (CT.int .i64)]) = enc (nth l k) := row_enc l k rfl
theorem ty_Link (v : Link) : RowTy tbl.tab [.str, .str, .int .i64] (Enc.cells v) := ⟨trivial, trivial, rfl, trivial⟩
theorem tab_Link : tbl.tab 199 = [.str, .str, .int .i64] := by kernel_rfl
theorem ty_LinkS (l : List Link) : HasTy tbl.tab (.sl 199) (encS l) := by
 show RowsTy _ (tbl.tab _) _
 rw [tab_Link]; exact rowsTy_map ty_Link l
structure Event where
 kind : Int
 name : ByteArray
 call : Call
 recipe : List ByteArray
 deriving DecidableEq, Inhabited
instance : Enc Event := { cells := fun v => [.int .i64 v.kind, .str v.name, .str v.call.method, .str v.call.key, .int .i64 v.call.val, .str v.call.text, encS v.recipe] }
theorem cells_Event (v : Event) : Enc.cells v = [.int .i64 v.kind, .str v.name, .str v.call.method, .str v.call.key, .int .i64 v.call.val, .str v.call.text, encS v.recipe] := rfl
theorem row_Event (l : List Event) (k : Nat) : D.agg (((l.map Enc.cells)[k]?).getD [zeroD (CT.int .i64), zeroD (CT.str), zeroD (CT.str), zeroD (CT.str), zeroD (CT.int .i64), zeroD (CT.str), zeroD (CT.sl 9)]) = enc (nth l k) := row_enc l k rfl
theorem eq_Event (v u : Event) : v = u ↔ v.kind = u.kind ∧ v.name = u.name ∧ v.call = u.call ∧ v.recipe = u.recipe := ⟨fun h => by subst h; simp, fun h => by cases v; cases u; simp_all⟩
theorem ty_Event (v : Event) : RowTy tbl.tab [.int .i64, .str, .str, .str, .int .i64, .str, .sl 9] (Enc.cells v) := ⟨rfl, trivial, trivial, trivial, rfl, trivial, ty_strS _, trivial⟩
theorem tab_Event : tbl.tab 41 = [.int .i64, .str, .str, .str, .int .i64, .str, .sl 9] := by kernel_rfl
theorem ty_EventS (l : List Event) : HasTy tbl.tab (.sl 41) (encS l) := by
 show RowsTy _ (tbl.tab _) _
 rw [tab_Event]; exact rowsTy_map ty_Event l
theorem ty_laws_Event (v : Event) : RowTy tbl.tab [.int .i64, .str, .str, .str, .int .i64, .str, .sl 9] (Enc.cells v) := ⟨rfl, trivial, trivial, trivial, rfl, trivial, ty_strS _, trivial⟩
theorem tab_laws_Event : tbl.tab 115 = [.int .i64, .str, .str, .str, .int .i64, .str, .sl 9] := by kernel_rfl
theorem ty_laws_EventS (l : List Event) : HasTy tbl.tab (.sl 115) (encS l) := by
 show RowsTy _ (tbl.tab _) _
 rw [tab_laws_Event]; exact rowsTy_map ty_laws_Event l
theorem dec_laws_Event (row : List D) (h : RowTy tbl.tab [.int .i64, .str, .str, .str, .int .i64, .str, .sl 9] row) : ∃ x : Event, row = Enc.cells x := by
 match row, h with
 | [a0, a1, a2, a3, a4, a5, a6], h =>
  obtain ⟨b0, rfl⟩ := hasTy_int (h.1)
  obtain ⟨b1, rfl⟩ := hasTy_str (h.2.1)
  obtain ⟨b2, rfl⟩ := hasTy_str (h.2.2.1)
  obtain ⟨b3, rfl⟩ := hasTy_str (h.2.2.2.1)
  obtain ⟨b4, rfl⟩ := hasTy_int (h.2.2.2.2.1)
  obtain ⟨b5, rfl⟩ := hasTy_str (h.2.2.2.2.2.1)
  obtain ⟨b6, rfl⟩ := decS_str (h.2.2.2.2.2.2.1)
  exact ⟨⟨b0, b1, ⟨b2, b3, b4, b5⟩, b6⟩, rfl⟩
theorem decS_laws_Event {d : D} (h : HasTy tbl.tab (.sl 115) d) : ∃ l : List Event, d = encS l := by
 obtain ⟨rows, rfl, hr⟩ := hasTy_sl h
 rw [tab_laws_Event] at hr
 obtain ⟨l, rfl⟩ := decR dec_laws_Event hr
 exact ⟨l, rfl⟩
structure Host where
 entries : List Entry
 parts : List Part
 up : List ByteArray
 shut : List ByteArray
 log : List Event
 deriving DecidableEq, Inhabited
instance : Enc Host := { cells := fun v => [encS v.entries, encS v.parts, encS v.up, encS v.shut, encS v.log] }
theorem cells_Host (v : Host) : Enc.cells v = [encS v.entries, encS v.parts, encS v.up, encS v.shut, encS v.log] := rfl
theorem eq_Host (v u : Host) : v = u ↔ v.entries = u.entries ∧ v.parts = u.parts ∧ v.up = u.up ∧ v.shut = u.shut ∧ v.log = u.log := ⟨fun h => by subst h; simp, fun h => by cases v; cases u; simp_all⟩
theorem ty_Host (v : Host) : RowTy tbl.tab [.sl 51, .sl 67, .sl 9, .sl 9, .sl 41] (Enc.cells v) := ⟨ty_EntryS _, ty_PartS _, ty_strS _, ty_strS _, ty_EventS _, trivial⟩
theorem ty_laws_Host (v : Host) : RowTy tbl.tab [.sl 104, .sl 111, .sl 9, .sl 9, .sl 115] (Enc.cells v) := ⟨ty_laws_EntryS _, ty_laws_PartS _, ty_strS _, ty_strS _, ty_laws_EventS _, trivial⟩
theorem dec_laws_Host (row : List D) (h : RowTy tbl.tab [.sl 104, .sl 111, .sl 9, .sl 9, .sl 115] row) : ∃ x : Host, row = Enc.cells x := by
 match row, h with
 | [a0, a1, a2, a3, a4], h =>
  obtain ⟨b0, rfl⟩ := decS_laws_Entry (h.1)
  obtain ⟨b1, rfl⟩ := decS_laws_Part (h.2.1)
  obtain ⟨b2, rfl⟩ := decS_str (h.2.2.1)
  obtain ⟨b3, rfl⟩ := decS_str (h.2.2.2.1)
  obtain ⟨b4, rfl⟩ := decS_laws_Event (h.2.2.2.2.1)
  exact ⟨⟨b0, b1, b2, b3, b4⟩, rfl⟩
theorem decV_laws_Host {d : D} (h : HasVT tbl.tab (.one (.agg [.sl 104, .sl 111, .sl 9, .sl 9, .sl 115])) d) : ∃ x : Host, d = enc x := by
 obtain ⟨l, rfl, hl⟩ := hasV1_agg h
 obtain ⟨x, rfl⟩ := dec_laws_Host l hl
 exact ⟨x, rfl⟩
theorem nth_mem {α : Type} [Inhabited α] {l : List α} {k : Nat} (h : k < l.length) : nth l k ∈ l := by
 simp [nth, List.getD, List.getElem?_eq_getElem h]
theorem ext_nth {α : Type} [Inhabited α] {l l' : List α} (hl : l.length = l'.length) (h : ∀ i, i < l.length → nth l i = nth l' i) : l = l' := by
 refine List.ext_getElem hl fun i h1 h2 => ?_
 have := h i h1
 simpa [nth, List.getD, List.getElem?_eq_getElem h1, List.getElem?_eq_getElem h2] using this
theorem fits_nth {α : Type} [Enc α] {l : List α} (h : Fits (encS l)) {k : Nat} (hk : k < l.length) : FitsL (Enc.cells (nth l k)) := by
 unfold encS Fits at h
 have : ∀ (rows : List (List D)), FitsR rows → ∀ r ∈ rows, FitsL r := by
  intro rows
  induction rows with
  | nil => intro _ r hr; cases hr
  | cons a t ih => intro h r hr; rcases List.mem_cons.1 hr with rfl | hr; exact h.1; exact ih h.2 r hr
 exact this _ h.2 _ (List.mem_map.2 ⟨_, nth_mem hk, rfl⟩)
def allTo (p : Nat → Bool) : Nat → Bool
 | 0 => true
 | n + 1 => allTo p n && p n
theorem allTo_iff {p : Nat → Bool} : ∀ {n : Nat}, allTo p n = true ↔ ∀ i, i < n → p i = true
 | 0 => by simp [allTo]
 | n + 1 => by
  simp only [allTo, Bool.and_eq_true, allTo_iff]
  exact ⟨fun ⟨h1, h2⟩ i hi => by
   by_cases e : i = n
   ·subst e; exact h2
   ·exact h1 i (by omega), fun h => ⟨fun i hi => h i (by omega), h n (by omega)⟩⟩
theorem allTo_bad {p : Nat → Bool} {n k : Nat} (hk : k < n) (h : p k = false) : allTo p n = false := by
 rcases hb : allTo p n with _ | _
 ·rfl
 ·have := allTo_iff.1 hb k hk; rw [h] at this; cases this
end Go.Proofs.YtjmakbnblpjkhaaGreatDoor
/- Versions. -/
namespace Go.Proofs.YtjmakbnblpjkhaaGreatDoor
open Go.RowKit Go
variable [GC]
def Ver.ok (v : Ver) : Bool := decide (0 ≤ v.maj) && decide (v.maj ≤ 99) && decide (0 ≤ v.min) && decide (v.min ≤ 99)
theorem c_spec_IsVersion (v : Ver) : Fun Tryz.prog 155 none [enc v] (.bool v.ok) [] := by
 refine Fun.ofV vc_spec_IsVersion_ok ty_spec_IsVersion_ok rfl ?_ (fun hfit => ?_)
 ·simp [ty_spec_IsVersion, HasTys, HasVT, HasV1, enc, ty_Ver]
 simp only [vc_spec_IsVersion, VC.den, E.den, dEq, gsH_nil, and_true, cells_Ver]
 simp [cmpI, Ver.ok]
def Ver.cmp (v u : Ver) : Int := if v.maj < u.maj ∨ (v.maj = u.maj ∧ v.min < u.min) then -1 else if v.maj = u.maj ∧ v.min = u.min then 0 else 1
end Go.Proofs.YtjmakbnblpjkhaaGreatDoor
/- Plain functions on versions. No program in sight. -/
namespace Go.Proofs.YtjmakbnblpjkhaaGreatDoor
def isFaceB (f : Int) : Bool := decide (0 ≤ f) && decide (f ≤ 63)
theorem isFaceB_nat {f : Int} (h : isFaceB f = true) : ∃ n : Nat, f = n ∧ n < 64 := by
 unfold isFaceB at h; simp at h; exact ⟨f.toNat, by omega, by omega⟩
def cmpV (a b c d : Int) : Int := if a < c ∨ (a = c ∧ b < d) then -1 else if a = c ∧ b = d then 0 else 1
def sinceM : Nat → Int | 0 => 1 | 1 => 1 | 2 => 1 | 3 => 1 | 4 => 2 | 5 => 2 | _ => 0
def sinceN : Nat → Int | 0 => 0 | 1 => 0 | 2 => 1 | 3 => 2 | 4 => 0 | 5 => 1 | _ => 0
def allows (a b : Int) (k : Nat) : Bool := decide (cmpV (sinceM k) (sinceN k) a b ≤ 0)
end Go.Proofs.YtjmakbnblpjkhaaGreatDoor
/- Plain functions on faces. No program in sight. -/
namespace Go.Proofs.YtjmakbnblpjkhaaGreatDoor
end Go.Proofs.YtjmakbnblpjkhaaGreatDoor
/- Faces and versions: what the program and the reference compute. -/
namespace Go.Proofs.YtjmakbnblpjkhaaGreatDoor
open Go.RowKit Go
variable [GC]
theorem c_impl_IsVersion (v : Ver) : Fun Tryz.prog 109 none [enc v] (.bool v.ok) [] := by
 refine Fun.ofV vc_impl_IsVersion_ok ty_impl_IsVersion_ok rfl ?_ (fun hfit => ?_)
 ·simp [ty_impl_IsVersion, HasTys, HasVT, HasV1, enc, ty_Ver]
 simp only [vc_impl_IsVersion, VC.den, E.den, dEq, gsH_nil, and_true, cells_Ver]
 simp [cmpI, Ver.ok]
theorem c_impl_CompareVersions (v u : Ver) : Fun Tryz.prog 221 none [enc v, enc u] (.int .i64 (v.cmp u)) [] := by
 refine Fun.ofV vc_impl_CompareVersions_ok ty_impl_CompareVersions_ok rfl ?_ (fun hfit => ?_)
 ·simp [ty_impl_CompareVersions, HasTys, HasVT, HasV1, enc, ty_Ver]
 simp only [vc_impl_CompareVersions, VC.den, E.den, dEq, gsH_nil, and_true, cells_Ver]
 simp [cmpI, eqvL, eqvD, Ver.cmp]
 (repeat' split) <;> omega
theorem c_impl_IsFace (f : Int) : Fun Tryz.prog 158 none [.int .i64 f] (.bool (isFaceB f)) [] := by
 refine Fun.ofV vc_impl_IsFace_ok ty_impl_IsFace_ok rfl ?_ (fun hfit => ?_)
 ·simp [ty_impl_IsFace, HasTys, HasVT, HasV1, HasTy]
 simp only [vc_impl_IsFace, VC.den, E.den, dEq, gsH_nil, and_true]
 simp [cmpI, isFaceB]
theorem allow_shl : ∀ k : Fin 6, arI .shl .i64 1 ((k : Nat) : Int) = ((2 ^ (k : Nat) : Nat) : Int) := by decide +kernel
theorem bit_of2 : ∀ n : Fin 64, ∀ k : Fin 6, cmpI .eql (arI .rem .i64 (arI .shr .i64 ((n : Nat) : Int) ((k : Nat) : Int)) 2) 1 = n.val.testBit k.val := by decide +kernel
end Go.Proofs.YtjmakbnblpjkhaaGreatDoor
/- General lemmas on worlds, cells and results, used by all walks of this seat. Nothing is assumed. -/
namespace Go.Proofs.YtjmakbnblpjkhaaGreatDoor
open Go.RowKit
theorem cell_keep {w w1 : World} {p : Addr} {v : Value} (hb : Below w.heap.size w w1) (h : w.cell? p = some v) : w1.cell? p = some v := by
 rw [hb.cell (block_lt_of_cell h)]; exact h
theorem bt {w a b : World} (h : Below w.heap.size w a) (k : Below a.heap.size a b) : Below w.heap.size w b := h.trans (k.mono h.size)
def RBlk (w : World) (g : Nat) (t : TypeId) (cs : Array Value) : Prop := w.heap[g]? = some (.cells cs t (0, 0))
section
variable {w w' : World} {g : Nat} {t : TypeId} {cs : Array Value}
theorem RBlk.lt (h : RBlk w g t cs) : g < w.heap.size := by
 rcases Nat.lt_or_ge g w.heap.size with hlt | hge
 ·exact hlt
 ·unfold RBlk at h; rw [Array.getElem?_eq_none hge] at h; cases h
theorem RBlk.cell (h : RBlk w g t cs) (i : Nat) : w.cell? ⟨g, i, none⟩ = cs[i]? := cell_of_row w g i cs t (0, 0) h
theorem RBlk.frozen (h : RBlk w g t cs) (i : Nat) : w.frozen? ⟨g, i, none⟩ = false := by
 unfold RBlk at h
 simp [World.frozen?, h]
theorem RBlk.new (w : World) (t : TypeId) (cs : Array Value) : RBlk (w.alloc (.cells cs t)) w.heap.size t cs := heap_alloc_new w _
theorem RBlk.set_ (h : RBlk w g t cs) (i : Nat) (u : Value) : RBlk (w.setCell ⟨g, i, none⟩ u) g t (cs.setIfInBounds i u) := by
 unfold RBlk at h ⊢
 simp [World.setCell, Array.getElem?_modify, h]
theorem RBlk.below {B : Nat} (h : RBlk w g t cs) (hb : Below B w w') (hg : g < B) : RBlk w' g t cs := (hb.block g hg).trans h
end
end Go.Proofs.YtjmakbnblpjkhaaGreatDoor
/- SinceOf of the program and of the reference. Nothing is assumed but what each theorem says. -/
namespace Go.Proofs.YtjmakbnblpjkhaaGreatDoor
open Go.RowKit
end Go.Proofs.YtjmakbnblpjkhaaGreatDoor
/- What faces a version allows: the program's and the reference's functions. -/
namespace Go.Proofs.YtjmakbnblpjkhaaGreatDoor
open Go.RowKit Go
variable [GC]
theorem c_spec_l2Has (m k : Nat) (hm : m < 64) (hk : k < 6) : Fun Tryz.prog 164 none [.int .i64 m, .int .i64 k] (.bool (m.testBit k)) [] := by
 refine Fun.ofV vc_spec_l2Has_ok ty_spec_l2Has_ok rfl ?_ (fun hfit => ?_)
 ·simp [ty_spec_l2Has, HasTys, HasVT, HasV1, HasTy]
 unfold vc_spec_l2Has
 refine den_cond (fun _ => ?_) (den_cond (fun _ => rfl) (den_ret ?_))
 ·simp [E.den, cmpI]
 have hb := bit_of2 ⟨m, hm⟩ ⟨k, hk⟩
 simp only at hb
 simp only [E.den, List.getD_cons_zero, List.getD_cons_succ, D.toI_int, hb]
theorem c_spec_IsFace' (f : Int) : Fun Tryz.prog 166 none [.int .i64 f] (.bool (isFaceB f)) [] := by
 refine Fun.ofV vc_spec_IsFace_ok ty_spec_IsFace_ok rfl ?_ (fun hfit => ?_)
 ·simp [ty_spec_IsFace, HasTys, HasVT, HasV1, HasTy]
 simp only [vc_spec_IsFace, VC.den, E.den, dEq, gsH_nil, and_true]
 simp [cmpI, isFaceB]
def offersB (a b : Int) : Bool := isFaceB a && isFaceB b && cmpI .eql (arI .andNot .i64 b a) 0
theorem c_impl_Offers (a b : Int) : Fun Tryz.prog 139 none [.int .i64 a, .int .i64 b] (.bool (offersB a b)) [] := by
 refine Fun.ofV vc_impl_Offers_ok ty_impl_Offers_ok rfl ?_ (fun hfit => ?_)
 ·simp [ty_impl_Offers, HasTys, HasVT, HasV1, HasTy]
 unfold vc_impl_Offers
 (apply den_call; (focus (simp only [VC.den, E.den, dEq, gsH_nil, and_true]; try exact rfl)); (focus (exact c_impl_IsFace a)); (focus (simp [HasTys, HasVT, HasV1, HasTy, RowTy, HasVs, enc])); (simp only [cA]))
 (apply den_call; (focus (simp only [VC.den, E.den, dEq, gsH_nil, and_true]; try exact rfl)); (focus (exact c_impl_IsFace b)); (focus (simp [HasTys, HasVT, HasV1, HasTy, RowTy, HasVs, enc])); (simp only [cA]))
 exact den_ret rfl
end Go.Proofs.YtjmakbnblpjkhaaGreatDoor
/- Names, kinds, faces: what the program and the reference compute. -/
namespace Go.Proofs.YtjmakbnblpjkhaaGreatDoor
open Go.RowKit Go
variable [GC]
def letB (s : ByteArray) (k : Nat) : Bool := (decide (97 ≤ byteZ s k) && decide (byteZ s k ≤ 122)) || (!(k == 0) && (decide (48 ≤ byteZ s k) && decide (byteZ s k ≤ 57)))
def nameB (s : ByteArray) : Bool := decide (1 ≤ s.size) && decide (s.size ≤ 8) && allTo (letB s) s.size
theorem c_spec_l1Letter (b : Int) (f : Bool) : Fun Tryz.prog 169 none [.int .u8 b, .bool f] (.bool ((decide (97 ≤ b) && decide (b ≤ 122)) || (!f && (decide (48 ≤ b) && decide (b ≤ 57))))) [] := by
 refine Fun.ofV vc_spec_l1Letter_ok ty_spec_l1Letter_ok rfl ?_ (fun hfit => ?_)
 ·exact ⟨rfl, trivial, trivial⟩
 unfold vc_spec_l1Letter
 refine den_ret ?_
 simp [E.den, cmpI, Bool.and_assoc]
theorem c_spec_IsName (s : ByteArray) : Fun Tryz.prog 130 none [.str s] (.bool (nameB s)) [] := by
 refine Fun.ofV vc_spec_IsName_ok ty_spec_IsName_ok rfl ?_ (fun hfit => ?_)
 ·exact ⟨trivial, trivial⟩
 have hl := fits_str hfit.1
 unfold vc_spec_IsName
 refine den_for s.size (fun k => [.int .i64 k]) (fun k => allTo (letB s) k = true) rfl rfl ?_
 intro k hk hI _
 simp only [cA]
 refine den_ite (fun h2 => ?_) (fun h2 => ?_)
 ·simp only [E.den, dEq, iEq, sEq] at h2
  have h2 : k < s.size := by simp at h2; exact h2
  (refine den_cond (fun hg => ?_) ?_; (focus (simp only [gsH, gE, E.den, dEq, iEq, sEq] at hg ⊢; (try simp only [D.bool.injEq] at hg); (try simp only [D.bool.injEq]); grind)))
  ((first | refine den_call ?_ (c_spec_l1Letter (byteZ s k) ((k : Int) == 0)) (trivial) ?_ | refine den_callR ?_ (c_spec_l1Letter (byteZ s k) ((k : Int) == 0)) (trivial) ?_ | refine den_call ?_ (.ofR (c_spec_l1Letter (byteZ s k) ((k : Int) == 0))) (trivial) ?_); (focus (simp only [VC.den, E.den, dEq, gsH_nil, and_true, at_byte, cmpI_eql, Int.toNat_natCast]; try exact rfl)); (simp only [cA]))
  refine den_ite (fun h3 => ?_) (fun h3 => ?_)
  ·simp only [E.den, dEq, iEq, sEq] at h3
   have hb : letB s k = false := by
    simp at h3
    simp [letB]; omega
   refine den_ret ?_
   simp [E.den, nameB, allTo_bad h2 hb]
  ·simp only [E.den, dEq, iEq, sEq] at h3
   have hb : letB s k = true := by
    simp at h3
    simp [letB]; omega
   refine den_next h2 ?_ (show (allTo (letB s) k && letB s k) = true by rw [hI, hb]; rfl)
   simp only [E.den, dEq, iEq, sEq]
   rw [ar_add (by omega) (by omega)]; rfl
 ·simp only [E.den, dEq, iEq, sEq] at h2
  obtain rfl : k = s.size := by simp at h2; omega
  refine den_ret ?_
  simp only [nameB, hI, Bool.and_true]
  simp only [E.den, dEq, iEq, sEq]
  congr 1
  grind
theorem c_impl_IsName (s : ByteArray) : Fun Tryz.prog 101 none [.str s] (.bool (nameB s)) [] := by
 refine Fun.ofV vc_impl_IsName_ok ty_impl_IsName_ok rfl ?_ (fun hfit => ?_)
 ·exact ⟨trivial, trivial⟩
 have hl := fits_str hfit.1
 unfold vc_impl_IsName
 (refine den_cond (fun hg => ?_) ?_; (focus (simp only [gsH, gE, E.den, dEq, iEq, sEq] at hg ⊢; (try simp only [D.bool.injEq] at hg); (try simp only [D.bool.injEq]); grind)))
 (refine den_cond (fun hg => ?_) ?_; (focus (simp only [gsH, gE, E.den, dEq, iEq, sEq] at hg ⊢; (try simp only [D.bool.injEq] at hg); (try simp only [D.bool.injEq]); grind)))
 refine den_ite (fun h => ?_) (fun h => ?_)
 ·simp only [E.den, dEq, iEq, sEq] at h
  refine den_ret ?_
  simp only [E.den, D.bool.injEq]
  by_cases h0 : 1 ≤ s.size ∧ s.size ≤ 8
  ·have hb : letB s 0 = false := by
    simp at h
    simp [letB]; omega
   simp [nameB, allTo_bad (show 0 < s.size by omega) hb]
  ·have : (decide (1 ≤ s.size) && decide (s.size ≤ 8)) = false := by simp; omega
   simp [nameB, this]
 simp only [E.den, dEq, iEq, sEq] at h
 have h0 : 1 ≤ s.size ∧ s.size ≤ 8 := by grind
 refine den_for s.size (fun k => [.int .i64 k]) (fun k => allTo (letB s) k = true) rfl rfl ?_
 intro k hk hI _
 simp only [cA]
 refine den_ite (fun h2 => ?_) (fun h2 => ?_)
 ·simp only [E.den, dEq, iEq, sEq] at h2
  have h2 : k < s.size := by simp at h2; exact h2
  (refine den_cond (fun hg => ?_) ?_; (focus (simp only [gsH, gE, E.den, dEq, iEq, sEq] at hg ⊢; (try simp only [D.bool.injEq] at hg); (try simp only [D.bool.injEq]); grind)))
  (refine den_cond (fun hg => ?_) ?_; (focus (simp only [gsH, gE, E.den, dEq, iEq, sEq] at hg ⊢; (try simp only [D.bool.injEq] at hg); (try simp only [D.bool.injEq]); grind)))
  (refine den_cond (fun hg => ?_) ?_; (focus (simp only [gsH, gE, E.den, dEq, iEq, sEq] at hg ⊢; (try simp only [D.bool.injEq] at hg); (try simp only [D.bool.injEq]); grind)))
  (refine den_cond (fun hg => ?_) ?_; (focus (simp only [gsH, gE, E.den, dEq, iEq, sEq] at hg ⊢; (try simp only [D.bool.injEq] at hg); (try simp only [D.bool.injEq]); grind)))
  refine den_ite (fun h3 => ?_) (fun h3 => ?_)
  ·simp only [E.den, dEq, iEq, sEq] at h3
   have hb : letB s k = false := by
    simp at h3
    simp [letB]; omega
   refine den_ret ?_
   simp [E.den, nameB, allTo_bad h2 hb]
  ·simp only [E.den, dEq, iEq, sEq] at h3
   have hb : letB s k = true := by
    simp at h h3
    by_cases e : k = 0
    ·subst e; simp [letB]; omega
    ·simp [letB]; omega
   refine den_next h2 ?_ (show (allTo (letB s) k && letB s k) = true by rw [hI, hb]; rfl)
   simp only [E.den, dEq, iEq, sEq]
   rw [ar_add (by omega) (by omega)]; rfl
 ·simp only [E.den, dEq, iEq, sEq] at h2
  obtain rfl : k = s.size := by simp at h2; omega
  refine den_ret ?_
  simp [E.den, nameB, hI, h0]
def numB (n : Int) : Bool := decide (0 ≤ n) && decide (n ≤ 999)
theorem c_impl_isNumber (n : Int) : Fun Tryz.prog 141 none [.int .i64 n] (.bool (numB n)) [] := by
 refine Fun.ofV vc_impl_isNumber_ok ty_impl_isNumber_ok rfl ?_ (fun hfit => ?_)
 ·exact ⟨rfl, trivial⟩
 exact den_ret (by simp [E.den, cmpI, numB])
def kinds : List ByteArray := [⟨#[115, 116, 111, 110, 101]⟩, ⟨#[108, 97, 109, 112]⟩, ⟨#[115, 104, 101, 108, 102]⟩, ⟨#[109, 101, 116, 101, 114]⟩, ⟨#[100, 114, 97, 119, 101, 114]⟩, ⟨#[104, 111, 114, 110]⟩, ⟨#[118, 97, 117, 108, 116]⟩, ⟨#[114, 111, 98, 111, 116]⟩]
def kindFs : List Nat := [0, 1, 2, 5, 3, 9, 19, 63]
def kindAt (s : ByteArray) : Option Nat := if s = nth kinds 0 then some 0 else if s = nth kinds 1 then some 1 else if s = nth kinds 2 then some 2 else if s = nth kinds 3 then some 3 else if s = nth kinds 4 then some 4 else if s = nth kinds 5 then some 5 else if s = nth kinds 6 then some 6 else if s = nth kinds 7 then some 7 else none
def kindN (s : ByteArray) : Nat := match kindAt s with | some k => kindFs.getD k 0 | none => 0
def kindOk (s : ByteArray) : Bool := (kindAt s).isSome
theorem kindN_lt (s : ByteArray) : kindN s < 64 := by
 unfold kindN
 split
 ·rename_i k _
  by_cases h : k < 8
  ·obtain rfl | rfl | rfl | rfl | rfl | rfl | rfl | rfl : k = 0 ∨ k = 1 ∨ k = 2 ∨ k = 3 ∨ k = 4 ∨ k = 5 ∨ k = 6 ∨ k = 7 := by omega
   all_goals decide
  ·rw [List.getD, List.getElem?_eq_none (by simp [kindFs]; omega)]; decide
 ·decide
theorem kindAt_none {s : ByteArray} (h : ∀ j, j < 8 → nth kinds j ≠ s) : kindAt s = none := by
 unfold kindAt
 rw [if_neg (fun e => h 0 (by omega) e.symm), if_neg (fun e => h 1 (by omega) e.symm), if_neg (fun e => h 2 (by omega) e.symm), if_neg (fun e => h 3 (by omega) e.symm), if_neg (fun e => h 4 (by omega) e.symm), if_neg (fun e => h 5 (by omega) e.symm), if_neg (fun e => h 6 (by omega) e.symm), if_neg (fun e => h 7 (by omega) e.symm)]
theorem eight {k : Nat} (h : k < 8) : k = 0 ∨ k = 1 ∨ k = 2 ∨ k = 3 ∨ k = 4 ∨ k = 5 ∨ k = 6 ∨ k = 7 := by omega
theorem c_impl_KindFace (s : ByteArray) : Fun Tryz.prog 174 none [.str s] (.tup [.int .i64 (kindN s), .bool (kindOk s)]) [] := by
 refine Fun.ofV vc_impl_KindFace_ok ty_impl_KindFace_ok rfl ?_ (fun hfit => ?_)
 ·exact ⟨trivial, trivial⟩
 clear hfit
 unfold vc_impl_KindFace
 refine den_ite (fun h => ?_) (fun h0 => ?_)
 ·simp only [E.den, dEq, iEq, sEq] at h; simp at h; subst h; exact den_ret rfl
 refine den_ite (fun h => ?_) (fun h1 => ?_)
 ·simp only [E.den, dEq, iEq, sEq] at h; simp at h; subst h; exact den_ret rfl
 refine den_ite (fun h => ?_) (fun h2 => ?_)
 ·simp only [E.den, dEq, iEq, sEq] at h; simp at h; subst h; exact den_ret rfl
 refine den_ite (fun h => ?_) (fun h3 => ?_)
 ·simp only [E.den, dEq, iEq, sEq] at h; simp at h; subst h; exact den_ret rfl
 refine den_ite (fun h => ?_) (fun h4 => ?_)
 ·simp only [E.den, dEq, iEq, sEq] at h; simp at h; subst h; exact den_ret rfl
 refine den_ite (fun h => ?_) (fun h5 => ?_)
 ·simp only [E.den, dEq, iEq, sEq] at h; simp at h; subst h; exact den_ret rfl
 refine den_ite (fun h => ?_) (fun h6 => ?_)
 ·simp only [E.den, dEq, iEq, sEq] at h; simp at h; subst h; exact den_ret rfl
 refine den_ite (fun h => ?_) (fun h7 => ?_)
 ·simp only [E.den, dEq, iEq, sEq] at h; simp at h; subst h; exact den_ret rfl
 simp only [E.den, dEq, iEq, sEq] at h0 h1 h2 h3 h4 h5 h6 h7
 simp at h0 h1 h2 h3 h4 h5 h6 h7
 have hn : kindAt s = none := kindAt_none fun j hj => by
  obtain rfl | rfl | rfl | rfl | rfl | rfl | rfl | rfl := eight hj
  all_goals (intro e; first | exact h0 e.symm | exact h1 e.symm | exact h2 e.symm | exact h3 e.symm | exact h4 e.symm | exact h5 e.symm | exact h6 e.symm | exact h7 e.symm)
 exact den_ret (by simp [E.den, kindN, kindOk, hn])
theorem kindAt_nth : ∀ k : Fin 8, kindAt (nth kinds k.val) = some k.val := by decide +kernel
def kindE : E := .put (.put (.put (.put (.put (.put (.put (.put (.nilS 9) (.ag1 (.ls ⟨#[115, 116, 111, 110, 101]⟩))) (.ag1 (.ls ⟨#[108, 97, 109, 112]⟩))) (.ag1 (.ls ⟨#[115, 104, 101, 108, 102]⟩))) (.ag1 (.ls ⟨#[109, 101, 116, 101, 114]⟩))) (.ag1 (.ls ⟨#[100, 114, 97, 119, 101, 114]⟩))) (.ag1 (.ls ⟨#[104, 111, 114, 110]⟩))) (.ag1 (.ls ⟨#[118, 97, 117, 108, 116]⟩))) (.ag1 (.ls ⟨#[114, 111, 98, 111, 116]⟩))
def kindFE : E := .put (.put (.put (.put (.put (.put (.put (.put (.nilS 3) (.ag1 (.li .i64 0))) (.ag1 (.li .i64 1))) (.ag1 (.li .i64 2))) (.ag1 (.li .i64 5))) (.ag1 (.li .i64 3))) (.ag1 (.li .i64 9))) (.ag1 (.li .i64 19))) (.ag1 (.li .i64 63))
theorem kindE_den (env : List D) : kindE.den env = encS kinds := rfl
theorem kindFE_den (env : List D) : kindFE.den env = encS (kindFs.map fun (n : Nat) => (n : Int)) := rfl
theorem c_spec_KindFace (s : ByteArray) : Fun Tryz.prog 163 none [.str s] (.tup [.int .i64 (kindN s), .bool (kindOk s)]) [] := by
 refine Fun.ofV vc_spec_KindFace_ok ty_spec_KindFace_ok rfl ?_ (fun hfit => ?_)
 ·exact ⟨trivial, trivial⟩
 clear hfit
 show VC.den _ _ (.loop [.one (.c (.int .i64))] [.li .i64 0] (.ite (.ic .lss (.var 1) (.len kindE)) (.rq (.cond [] (.inb kindE (.var 1))) (.ite (.sc .eql (.cell (.row [.str] kindE (.var 1)) 0) (.var 0)) (.rq (.cond [] (.inb kindFE (.var 1))) (.ret (.tp1 (.tp1 .tp0 (.cell (.row [.int .i64] kindFE (.var 1)) 0)) (.lb true)) [])) (.again 0 [.ar .add .i64 (.var 1) (.li .i64 1)]))) (.ret (.tp1 (.tp1 .tp0 (.li .i64 0)) (.lb false)) []))) _ _ _
 have e8 : kinds.length = 8 := rfl
 refine den_for 8 (fun k => [.int .i64 k]) (fun k => ∀ j, j < k → nth kinds j ≠ s) rfl (by omega) ?_
 intro k hk hI _
 simp only [cA]
 refine den_ite (fun h2 => ?_) (fun h2 => ?_)
 ·simp only [E.den, dEq, iEq, sEq, kindE_den, e8] at h2
  have h2 : k < 8 := by simp at h2; omega
  refine den_cond (fun _ => ?_) ?_
  ·simp only [E.den, dEq, iEq, sEq, kindE_den, e8]
   simp; omega
  refine den_ite (fun h3 => ?_) (fun h3 => ?_)
  ·simp only [E.den, dEq, iEq, sEq, kindE_den, row_str, cells_str] at h3
   simp at h3
   refine den_cond (fun _ => ?_) ?_
   ·simp only [E.den, dEq, iEq, sEq, kindFE_den, List.length_map]
    simp [kindFs]; omega
   refine den_ret ?_
   simp only [E.den, dEq, iEq, sEq, kindFE_den, row_int, cells_int]
   have hn : kindAt s = some k := by rw [← h3]; exact kindAt_nth ⟨k, h2⟩
   simp only [kindN, kindOk, hn]
   obtain rfl | rfl | rfl | rfl | rfl | rfl | rfl | rfl : k = 0 ∨ k = 1 ∨ k = 2 ∨ k = 3 ∨ k = 4 ∨ k = 5 ∨ k = 6 ∨ k = 7 := by omega
   all_goals rfl
  ·simp only [E.den, dEq, iEq, sEq, kindE_den, row_str, cells_str] at h3
   simp at h3
   refine den_next h2 ?_ fun j hj => ?_
   ·simp only [E.den, dEq, iEq, sEq]
    rw [ar_add (by omega) (by omega)]; rfl
   ·rcases Nat.lt_or_ge j k with h | h
    ·exact hI j h
    ·obtain rfl : j = k := by omega
     exact h3
 ·simp only [E.den, dEq, iEq, sEq, kindE_den, e8] at h2
  obtain rfl : k = 8 := by simp at h2; omega
  refine den_ret ?_
  have hn := kindAt_none hI
  simp [E.den, kindN, kindOk, hn]
def layers : List ByteArray := [⟨#[112, 108, 97, 105, 110]⟩, ⟨#[114, 117, 110, 115]⟩, ⟨#[107, 101, 101, 112, 115]⟩, ⟨#[99, 111, 117, 110, 116, 115]⟩, ⟨#[108, 97, 122, 121]⟩, ⟨#[114, 101, 97, 100, 115]⟩, ⟨#[104, 101, 97, 114, 115]⟩, ⟨#[104, 101, 97, 108, 115]⟩, ⟨#[116, 119, 105, 99, 101]⟩]
def layN : List Nat := [0, 1, 2, 2, 3, 2, 1, 1, 4]
def layG : List Nat := [0, 1, 2, 6, 3, 2, 9, 33, 4]
def layAt (s : ByteArray) : Option Nat := if s = nth layers 0 then some 0 else if s = nth layers 1 then some 1 else if s = nth layers 2 then some 2 else if s = nth layers 3 then some 3 else if s = nth layers 4 then some 4 else if s = nth layers 5 then some 5 else if s = nth layers 6 then some 6 else if s = nth layers 7 then some 7 else if s = nth layers 8 then some 8 else none
def needN (s : ByteArray) : Nat := match layAt s with | some k => layN.getD k 0 | none => 0
def giveN (s : ByteArray) : Nat := match layAt s with | some k => layG.getD k 0 | none => 0
def layOk (s : ByteArray) : Bool := (layAt s).isSome
theorem nine {k : Nat} (h : k < 9) : k = 0 ∨ k = 1 ∨ k = 2 ∨ k = 3 ∨ k = 4 ∨ k = 5 ∨ k = 6 ∨ k = 7 ∨ k = 8 := by omega
theorem layAt_none {s : ByteArray} (h : ∀ j, j < 9 → nth layers j ≠ s) : layAt s = none := by
 unfold layAt
 rw [if_neg (fun e => h 0 (by omega) e.symm), if_neg (fun e => h 1 (by omega) e.symm), if_neg (fun e => h 2 (by omega) e.symm), if_neg (fun e => h 3 (by omega) e.symm), if_neg (fun e => h 4 (by omega) e.symm), if_neg (fun e => h 5 (by omega) e.symm), if_neg (fun e => h 6 (by omega) e.symm), if_neg (fun e => h 7 (by omega) e.symm), if_neg (fun e => h 8 (by omega) e.symm)]
theorem layAt_nth : ∀ k : Fin 9, layAt (nth layers k.val) = some k.val := by decide +kernel
def layD (s : ByteArray) : D := .tup [.int .i64 (needN s), .int .i64 (giveN s), .bool (layOk s)]
theorem c_impl_layerFaces (s : ByteArray) : Fun Tryz.prog 138 none [.str s] (layD s) [] := by
 refine Fun.ofV vc_impl_layerFaces_ok ty_impl_layerFaces_ok rfl ?_ (fun hfit => ?_)
 ·exact ⟨trivial, trivial⟩
 clear hfit
 unfold vc_impl_layerFaces
 refine den_ite (fun h => ?_) (fun h0 => ?_)
 ·simp only [E.den, dEq, iEq, sEq] at h; simp at h; subst h; exact den_ret rfl
 refine den_ite (fun h => ?_) (fun h1 => ?_)
 ·simp only [E.den, dEq, iEq, sEq] at h; simp at h; subst h; exact den_ret rfl
 refine den_ite (fun h => ?_) (fun h2 => ?_)
 ·refine den_ite (fun _ => ?_) (fun h' => ?_)
  ·simp only [E.den, dEq, iEq, sEq] at h; simp at h; subst h; exact den_ret rfl
  ·rw [h] at h'; cases h'
 refine den_ite (fun h => ?_) (fun h3 => ?_)
 ·simp only [E.den, dEq, iEq, sEq] at h; simp at h; subst h; exact den_ret rfl
 refine den_ite (fun h => ?_) (fun h4 => ?_)
 ·simp only [E.den, dEq, iEq, sEq] at h; simp at h; subst h; exact den_ret rfl
 refine den_ite (fun h => ?_) (fun h5 => ?_)
 ·simp only [E.den, dEq, iEq, sEq] at h; simp at h; subst h; exact den_ret rfl
 refine den_ite (fun h => ?_) (fun h6 => ?_)
 ·simp only [E.den, dEq, iEq, sEq] at h; simp at h; subst h; exact den_ret rfl
 refine den_ite (fun h => ?_) (fun h7 => ?_)
 ·simp only [E.den, dEq, iEq, sEq] at h; simp at h; subst h; exact den_ret rfl
 refine den_ite (fun h => ?_) (fun h8 => ?_)
 ·simp only [E.den, dEq, iEq, sEq] at h; simp at h; subst h; exact den_ret rfl
 simp only [E.den, dEq, iEq, sEq] at h0 h1 h2 h3 h4 h5 h6 h7 h8
 simp at h0 h1 h2 h3 h4 h5 h6 h7 h8
 have hn : layAt s = none := layAt_none fun j hj => by
  obtain rfl | rfl | rfl | rfl | rfl | rfl | rfl | rfl | rfl := nine hj
  all_goals (intro e; first | exact h0 e.symm | exact h1 e.symm | exact h2 e.symm | exact h3 e.symm | exact h4 e.symm | exact h5 e.symm | exact h6 e.symm | exact h7 e.symm | exact h8 e.symm)
 exact den_ret (by simp [E.den, layD, needN, giveN, layOk, hn])
def layE : E := .put (.put (.put (.put (.put (.put (.put (.put (.put (.nilS 9) (.ag1 (.ls ⟨#[112, 108, 97, 105, 110]⟩))) (.ag1 (.ls ⟨#[114, 117, 110, 115]⟩))) (.ag1 (.ls ⟨#[107, 101, 101, 112, 115]⟩))) (.ag1 (.ls ⟨#[99, 111, 117, 110, 116, 115]⟩))) (.ag1 (.ls ⟨#[108, 97, 122, 121]⟩))) (.ag1 (.ls ⟨#[114, 101, 97, 100, 115]⟩))) (.ag1 (.ls ⟨#[104, 101, 97, 114, 115]⟩))) (.ag1 (.ls ⟨#[104, 101, 97, 108, 115]⟩))) (.ag1 (.ls ⟨#[116, 119, 105, 99, 101]⟩))
def layNE : E := .put (.put (.put (.put (.put (.put (.put (.put (.put (.nilS 3) (.ag1 (.li .i64 0))) (.ag1 (.li .i64 1))) (.ag1 (.li .i64 2))) (.ag1 (.li .i64 2))) (.ag1 (.li .i64 3))) (.ag1 (.li .i64 2))) (.ag1 (.li .i64 1))) (.ag1 (.li .i64 1))) (.ag1 (.li .i64 4))
def layGE : E := .put (.put (.put (.put (.put (.put (.put (.put (.put (.nilS 3) (.ag1 (.li .i64 0))) (.ag1 (.li .i64 1))) (.ag1 (.li .i64 2))) (.ag1 (.li .i64 6))) (.ag1 (.li .i64 3))) (.ag1 (.li .i64 2))) (.ag1 (.li .i64 9))) (.ag1 (.li .i64 33))) (.ag1 (.li .i64 4))
theorem layE_den (env : List D) : layE.den env = encS layers := rfl
theorem layNE_den (env : List D) : layNE.den env = encS (layN.map fun (n : Nat) => (n : Int)) := rfl
theorem layGE_den (env : List D) : layGE.den env = encS (layG.map fun (n : Nat) => (n : Int)) := rfl
theorem c_spec_l4Row (s : ByteArray) : Fun Tryz.prog 165 none [.str s] (layD s) [] := by
 refine Fun.ofV vc_spec_l4Row_ok ty_spec_l4Row_ok rfl ?_ (fun hfit => ?_)
 ·exact ⟨trivial, trivial⟩
 clear hfit
 show VC.den _ _ (.loop [.one (.c (.int .i64))] [.li .i64 0] (.ite (.ic .lss (.var 1) (.len layE)) (.rq (.cond [] (.inb layE (.var 1))) (.ite (.sc .eql (.cell (.row [.str] layE (.var 1)) 0) (.var 0)) (.rq (.cond [] (.inb layNE (.var 1))) (.rq (.cond [] (.inb layGE (.var 1))) (.ret (.tp1 (.tp1 (.tp1 .tp0 (.cell (.row [.int .i64] layNE (.var 1)) 0)) (.cell (.row [.int .i64] layGE (.var 1)) 0)) (.lb true)) []))) (.again 0 [.ar .add .i64 (.var 1) (.li .i64 1)]))) (.ret (.tp1 (.tp1 (.tp1 .tp0 (.li .i64 0)) (.li .i64 0)) (.lb false)) []))) _ _ _
 have e9 : layers.length = 9 := rfl
 refine den_for 9 (fun k => [.int .i64 k]) (fun k => ∀ j, j < k → nth layers j ≠ s) rfl (by omega) ?_
 intro k hk hI _
 simp only [cA]
 refine den_ite (fun h2 => ?_) (fun h2 => ?_)
 ·simp only [E.den, dEq, iEq, sEq, layE_den, e9] at h2
  have h2 : k < 9 := by simp at h2; omega
  refine den_cond (fun _ => ?_) ?_
  ·simp only [E.den, dEq, iEq, sEq, layE_den, e9]
   simp; omega
  refine den_ite (fun h3 => ?_) (fun h3 => ?_)
  ·simp only [E.den, dEq, iEq, sEq, layE_den, row_str, cells_str] at h3
   simp at h3
   refine den_cond (fun _ => ?_) (den_cond (fun _ => ?_) ?_)
   ·simp only [E.den, dEq, iEq, sEq, layNE_den, List.length_map]
    simp [layN]; omega
   ·simp only [E.den, dEq, iEq, sEq, layGE_den, List.length_map]
    simp [layG]; omega
   refine den_ret ?_
   simp only [E.den, dEq, iEq, sEq, layNE_den, layGE_den, row_int, cells_int]
   have hn : layAt s = some k := by rw [← h3]; exact layAt_nth ⟨k, h2⟩
   simp only [layD, needN, giveN, layOk, hn]
   obtain rfl | rfl | rfl | rfl | rfl | rfl | rfl | rfl | rfl := nine h2
   all_goals rfl
  ·simp only [E.den, dEq, iEq, sEq, layE_den, row_str, cells_str] at h3
   simp at h3
   refine den_next h2 ?_ fun j hj => ?_
   ·simp only [E.den, dEq, iEq, sEq]
    rw [ar_add (by omega) (by omega)]; rfl
   ·rcases Nat.lt_or_ge j k with h | h
    ·exact hI j h
    ·obtain rfl : j = k := by omega
     exact h3
 ·simp only [E.den, dEq, iEq, sEq, layE_den, e9] at h2
  obtain rfl : k = 9 := by simp at h2; omega
  refine den_ret ?_
  have hn := layAt_none hI
  simp [E.den, layD, needN, giveN, layOk, hn]
theorem c_spec_LayerNeeds (s : ByteArray) : Fun Tryz.prog 125 none [.str s] (.tup [.int .i64 (needN s), .bool (layOk s)]) [] := by
 refine Fun.ofV vc_spec_LayerNeeds_ok ty_spec_LayerNeeds_ok rfl ?_ (fun hfit => ?_)
 ·exact ⟨trivial, trivial⟩
 unfold vc_spec_LayerNeeds
 ((first | refine den_call ?_ (c_spec_l4Row s) (⟨rfl, rfl, trivial, trivial⟩) ?_ | refine den_callR ?_ (c_spec_l4Row s) (⟨rfl, rfl, trivial, trivial⟩) ?_ | refine den_call ?_ (.ofR (c_spec_l4Row s)) (⟨rfl, rfl, trivial, trivial⟩) ?_); (focus (simp only [VC.den, E.den, dEq, gsH_nil, and_true]; try exact rfl)); (simp only [cA]))
 exact den_ret rfl
theorem off6 : ∀ n m : Fin 64, ((List.range 6).all fun k => !(m.val.testBit k && !n.val.testBit k)) = decide (m.val &&& n.val = m.val) := by decide +kernel
theorem offN_eq : ∀ n m : Fin 64, cmpI .eql (arI .andNot .i64 ((m.val : Nat) : Int) ((n.val : Nat) : Int)) 0 = decide (m.val &&& n.val = m.val) := by decide +kernel
theorem c_spec_Offers (a b : Int) : Fun Tryz.prog 126 none [.int .i64 a, .int .i64 b] (.bool (offersB a b)) [] := by
 refine Fun.ofV vc_spec_Offers_ok ty_spec_Offers_ok rfl ?_ (fun hfit => ?_)
 ·exact ⟨rfl, rfl, trivial⟩
 unfold vc_spec_Offers
 ((first | refine den_call ?_ (c_spec_IsFace' a) (trivial) ?_ | refine den_callR ?_ (c_spec_IsFace' a) (trivial) ?_ | refine den_call ?_ (.ofR (c_spec_IsFace' a)) (trivial) ?_); (focus (simp only [VC.den, E.den, dEq, gsH_nil, and_true]; try exact rfl)); (simp only [cA]))
 ((first | refine den_call ?_ (c_spec_IsFace' b) (trivial) ?_ | refine den_callR ?_ (c_spec_IsFace' b) (trivial) ?_ | refine den_call ?_ (.ofR (c_spec_IsFace' b)) (trivial) ?_); (focus (simp only [VC.den, E.den, dEq, gsH_nil, and_true]; try exact rfl)); (simp only [cA]))
 refine den_ite (fun h => ?_) (fun h => ?_)
 ·simp only [E.den, dEq, iEq, sEq] at h
  refine den_ret ?_
  simp only [E.den, D.bool.injEq]
  unfold offersB
  grind
 simp only [E.den, dEq, iEq, sEq] at h
 have ha : isFaceB a = true := by grind
 have hb : isFaceB b = true := by grind
 obtain ⟨n, rfl, hn⟩ := isFaceB_nat ha
 obtain ⟨m, rfl, hm⟩ := isFaceB_nat hb
 have ho : offersB (n : Int) (m : Int) = ((List.range 6).all fun k => !(m.testBit k && !n.testBit k)) := by
  unfold offersB
  rw [ha, hb, Bool.true_and, Bool.true_and, offN_eq ⟨n, hn⟩ ⟨m, hm⟩, off6 ⟨n, hn⟩ ⟨m, hm⟩]
 rw [ho]
 refine den_for 6 (fun k => [.int .i64 k]) (fun k => ∀ j, j < k → (!(m.testBit j && !n.testBit j)) = true) rfl (by omega) ?_
 intro k hk hI _
 simp only [cA]
 refine den_ite (fun h2 => ?_) (fun h2 => ?_)
 ·simp only [E.den, dEq, iEq, sEq] at h2
  have h2 : k < 6 := by simp at h2; omega
  ((first | refine den_call ?_ (c_spec_l2Has m k hm h2) (trivial) ?_ | refine den_callR ?_ (c_spec_l2Has m k hm h2) (trivial) ?_ | refine den_call ?_ (.ofR (c_spec_l2Has m k hm h2)) (trivial) ?_); (focus (simp only [VC.den, E.den, dEq, gsH_nil, and_true]; try exact rfl)); (simp only [cA]))
  ((first | refine den_call ?_ (c_spec_l2Has n k hn h2) (trivial) ?_ | refine den_callR ?_ (c_spec_l2Has n k hn h2) (trivial) ?_ | refine den_call ?_ (.ofR (c_spec_l2Has n k hn h2)) (trivial) ?_); (focus (simp only [VC.den, E.den, dEq, gsH_nil, and_true]; try exact rfl)); (simp only [cA]))
  refine den_ite (fun h3 => ?_) (fun h3 => ?_)
  ·simp only [E.den, dEq, iEq, sEq] at h3
   refine den_ret ?_
   simp only [E.den, D.bool.injEq]
   symm
   rw [List.all_eq_false]
   exact ⟨k, by simpa using h2, by rw [h3]; simp⟩
  ·simp only [E.den, dEq, iEq, sEq] at h3
   refine den_next h2 ?_ fun j hj => ?_
   ·simp only [E.den, dEq, iEq, sEq]
    rw [ar_add (by omega) (by omega)]; rfl
   ·rcases Nat.lt_or_ge j k with h | h
    ·exact hI j h
    ·obtain rfl : j = k := by omega
     rw [h3]; rfl
 ·simp only [E.den, dEq, iEq, sEq] at h2
  obtain rfl : k = 6 := by simp at h2; omega
  refine den_ret ?_
  simp only [E.den, D.bool.injEq]
  symm
  rw [List.all_eq_true]
  intro j hj
  exact hI j (by simpa using hj)
end Go.Proofs.YtjmakbnblpjkhaaGreatDoor
