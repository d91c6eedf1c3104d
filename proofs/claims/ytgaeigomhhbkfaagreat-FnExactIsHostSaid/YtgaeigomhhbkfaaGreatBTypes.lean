/- The program's structures as plain types: their cells, their types, equality. Written by gen2.py. -/
import Derived.Test.YtgaeigomhhbkfaaGreatBUse
namespace Go.Proofs.YtgaeigomhhbkfaaGreat
open Go.RowKit Go
set_option linter.unusedVariables false
set_option linter.unusedSimpArgs false
set_option maxRecDepth 100000
set_option linter.unusedSectionVars false
variable [GC]
instance : Enc ByteArray := { cells := fun s => [.str s] }
instance : Enc Int := { cells := fun n => [.int .i64 n] }
theorem cells_str (s : ByteArray) : Enc.cells s = [.str s] := rfl
theorem cells_int (n : Int) : Enc.cells n = [.int .i64 n] := rfl
theorem row_str (l : List ByteArray) (k : Nat) : D.agg (((l.map Enc.cells)[k]?).getD [zeroD CT.str]) = enc (nth l k) := row_enc l k rfl
theorem row_int (l : List Int) (k : Nat) : D.agg (((l.map Enc.cells)[k]?).getD [zeroD (CT.int .i64)]) = enc (nth l k) := row_enc l k rfl
def byteZ (s : ByteArray) (k : Nat) : Int := ((s[k]?).map fun (c : UInt8) => (c.toNat : Int)).getD 0
theorem at_byte (s : ByteArray) (k : Nat) : ((s[k]?).map fun (c : UInt8) => (c.toNat : Int)).getD 0 = byteZ s k := rfl
theorem fits_str {s : ByteArray} (h : Fits (.str s)) : s.size ≤ 9223372036854775807 := by simpa [Fits, maxLen] using h
theorem len_str (s : ByteArray) : lenD (.str s) = s.size := rfl
theorem ty_str (s : ByteArray) : RowTy tbl.tab [.str] (Enc.cells s) := by simp [cells_str, RowTy, HasTy]
theorem tab_str : tbl.tab 9 = [.str] := by kernel_rfl
theorem ty_strS (l : List ByteArray) : HasTy tbl.tab (.sl 9) (encS l) := by
  show RowsTy _ (tbl.tab _) _
  rw [tab_str]; exact rowsTy_map ty_str l
theorem decR {α : Type} [Enc α] {tab : Nat → List CT} {ts : List CT} (h : ∀ row, RowTy tab ts row → ∃ x : α, row = Enc.cells x) : ∀ {rows : List (List D)}, RowsTy tab ts rows → ∃ l : List α, rows = l.map Enc.cells
  | [], _ => ⟨[], rfl⟩
  | r :: rows, hr => by
    simp only [RowsTy] at hr
    obtain ⟨x, rfl⟩ := h r hr.1
    obtain ⟨l, rfl⟩ := decR h hr.2
    exact ⟨x :: l, rfl⟩
theorem dec_str (row : List D) (h : RowTy tbl.tab [.str] row) : ∃ x : ByteArray, row = Enc.cells x := by
  match row, h with
  | [a], h => obtain ⟨s, rfl⟩ := hasTy_str h.1; exact ⟨s, rfl⟩
theorem decS_str {d : D} (h : HasTy tbl.tab (.sl 9) d) : ∃ l : List ByteArray, d = encS l := by
  obtain ⟨rows, rfl, hr⟩ := hasTy_sl h
  rw [tab_str] at hr
  obtain ⟨l, rfl⟩ := decR dec_str hr
  exact ⟨l, rfl⟩
theorem toList_eqB (a b : ByteArray) : (a.toList == b.toList) = decide (a = b) := by
  rw [Bool.eq_iff_iff]
  simp only [beq_iff_eq, decide_eq_true_eq]
  refine ⟨fun h => ?_, fun h => by rw [h]⟩
  rw [ByteArray.toList_eq, ByteArray.toList_eq] at h
  cases a; cases b; simp_all [Array.toList_inj]
theorem cmpS_eql (a b : ByteArray) : cmpS .eql a b = decide (a = b) := toList_eqB a b
theorem cmpS_neq (a b : ByteArray) : cmpS .neq a b = !decide (a = b) := by rw [← toList_eqB]; rfl
def ltB (a b : ByteArray) : Bool := Op.bytesLess a.toList b.toList
theorem cmpS_lss (a b : ByteArray) : cmpS .lss a b = ltB a b := rfl
theorem cmpS_geq (a b : ByteArray) : cmpS .geq a b = !ltB a b := rfl
theorem sEq : (∀ s : ByteArray, lenD (.str s) = s.size) ∧ (∀ (s : ByteArray) (k : Nat), ((s[k]?).map fun (c : UInt8) => (c.toNat : Int)).getD 0 = byteZ s k) ∧ (∀ a b : ByteArray, cmpS .eql a b = decide (a = b)) ∧ (∀ a b : ByteArray, cmpS .neq a b = !decide (a = b)) ∧ (∀ a b : ByteArray, cmpS .lss a b = ltB a b) ∧ (∀ a b : ByteArray, cmpS .geq a b = !ltB a b) := ⟨len_str, at_byte, cmpS_eql, cmpS_neq, cmpS_lss, cmpS_geq⟩
structure Layer where
  name : ByteArray
  count : Int
  deriving DecidableEq, Inhabited
instance : Enc Layer := { cells := fun v => [.str v.name, .int .i64 v.count] }
theorem cells_Layer (v : Layer) : Enc.cells v = [.str v.name, .int .i64 v.count] := rfl
theorem row_Layer (l : List Layer) (k : Nat) : D.agg (((l.map Enc.cells)[k]?).getD [zeroD (CT.str), zeroD (CT.int .i64)]) = enc (nth l k) := row_enc l k rfl
theorem eq_Layer (v u : Layer) : v = u ↔ v.name = u.name ∧ v.count = u.count := ⟨fun h => by subst h; simp, fun h => by cases v; cases u; simp_all⟩
theorem eqv_Layer (v u : Layer) : eqvL (Enc.cells v) (Enc.cells u) = decide (v = u) := by
  rw [Bool.eq_iff_iff]
  simp [cells_Layer, eqvL, eqvD, toList_eqB, eq_Layer, and_assoc]
theorem ty_Layer (v : Layer) : RowTy tbl.tab [.str, .int .i64] (Enc.cells v) := ⟨trivial, rfl, trivial⟩
theorem tab_Layer : tbl.tab 105 = [.str, .int .i64] := by kernel_rfl
theorem ty_LayerS (l : List Layer) : HasTy tbl.tab (.sl 105) (encS l) := by
  show RowsTy _ (tbl.tab _) _
  rw [tab_Layer]; exact rowsTy_map ty_Layer l
theorem dec_Layer (row : List D) (h : RowTy tbl.tab [.str, .int .i64] row) : ∃ x : Layer, row = Enc.cells x := by
  match row, h with
  | [a0, a1], h =>
    obtain ⟨b0, rfl⟩ := hasTy_str (h.1)
    obtain ⟨b1, rfl⟩ := hasTy_int (h.2.1)
    exact ⟨⟨b0, b1⟩, rfl⟩
theorem decS_Layer {d : D} (h : HasTy tbl.tab (.sl 105) d) : ∃ l : List Layer, d = encS l := by
  obtain ⟨rows, rfl, hr⟩ := hasTy_sl h
  rw [tab_Layer] at hr
  obtain ⟨l, rfl⟩ := decR dec_Layer hr
  exact ⟨l, rfl⟩
theorem decV_Layer {d : D} (h : HasVT tbl.tab (.one (.agg [.str, .int .i64])) d) : ∃ x : Layer, d = enc x := by
  obtain ⟨l, rfl, hl⟩ := hasV1_agg h
  obtain ⟨x, rfl⟩ := dec_Layer l hl
  exact ⟨x, rfl⟩
theorem ty_laws_Layer (v : Layer) : RowTy tbl.tab [.str, .int .i64] (Enc.cells v) := ⟨trivial, rfl, trivial⟩
theorem tab_laws_Layer : tbl.tab 157 = [.str, .int .i64] := by kernel_rfl
theorem ty_laws_LayerS (l : List Layer) : HasTy tbl.tab (.sl 157) (encS l) := by
  show RowsTy _ (tbl.tab _) _
  rw [tab_laws_Layer]; exact rowsTy_map ty_laws_Layer l
theorem dec_laws_Layer (row : List D) (h : RowTy tbl.tab [.str, .int .i64] row) : ∃ x : Layer, row = Enc.cells x := by
  match row, h with
  | [a0, a1], h =>
    obtain ⟨b0, rfl⟩ := hasTy_str (h.1)
    obtain ⟨b1, rfl⟩ := hasTy_int (h.2.1)
    exact ⟨⟨b0, b1⟩, rfl⟩
theorem decS_laws_Layer {d : D} (h : HasTy tbl.tab (.sl 157) d) : ∃ l : List Layer, d = encS l := by
  obtain ⟨rows, rfl, hr⟩ := hasTy_sl h
  rw [tab_laws_Layer] at hr
  obtain ⟨l, rfl⟩ := decR dec_laws_Layer hr
  exact ⟨l, rfl⟩
theorem decV_laws_Layer {d : D} (h : HasVT tbl.tab (.one (.agg [.str, .int .i64])) d) : ∃ x : Layer, d = enc x := by
  obtain ⟨l, rfl, hl⟩ := hasV1_agg h
  obtain ⟨x, rfl⟩ := dec_laws_Layer l hl
  exact ⟨x, rfl⟩
structure Cell where
  key : ByteArray
  val : Int
  deriving DecidableEq, Inhabited
instance : Enc Cell := { cells := fun v => [.str v.key, .int .i64 v.val] }
theorem cells_Cell (v : Cell) : Enc.cells v = [.str v.key, .int .i64 v.val] := rfl
theorem row_Cell (l : List Cell) (k : Nat) : D.agg (((l.map Enc.cells)[k]?).getD [zeroD (CT.str), zeroD (CT.int .i64)]) = enc (nth l k) := row_enc l k rfl
theorem eq_Cell (v u : Cell) : v = u ↔ v.key = u.key ∧ v.val = u.val := ⟨fun h => by subst h; simp, fun h => by cases v; cases u; simp_all⟩
theorem eqv_Cell (v u : Cell) : eqvL (Enc.cells v) (Enc.cells u) = decide (v = u) := by
  rw [Bool.eq_iff_iff]
  simp [cells_Cell, eqvL, eqvD, toList_eqB, eq_Cell, and_assoc]
theorem ty_Cell (v : Cell) : RowTy tbl.tab [.str, .int .i64] (Enc.cells v) := ⟨trivial, rfl, trivial⟩
theorem tab_Cell : tbl.tab 160 = [.str, .int .i64] := by kernel_rfl
theorem ty_CellS (l : List Cell) : HasTy tbl.tab (.sl 160) (encS l) := by
  show RowsTy _ (tbl.tab _) _
  rw [tab_Cell]; exact rowsTy_map ty_Cell l
theorem dec_Cell (row : List D) (h : RowTy tbl.tab [.str, .int .i64] row) : ∃ x : Cell, row = Enc.cells x := by
  match row, h with
  | [a0, a1], h =>
    obtain ⟨b0, rfl⟩ := hasTy_str (h.1)
    obtain ⟨b1, rfl⟩ := hasTy_int (h.2.1)
    exact ⟨⟨b0, b1⟩, rfl⟩
theorem decS_Cell {d : D} (h : HasTy tbl.tab (.sl 160) d) : ∃ l : List Cell, d = encS l := by
  obtain ⟨rows, rfl, hr⟩ := hasTy_sl h
  rw [tab_Cell] at hr
  obtain ⟨l, rfl⟩ := decR dec_Cell hr
  exact ⟨l, rfl⟩
theorem decV_Cell {d : D} (h : HasVT tbl.tab (.one (.agg [.str, .int .i64])) d) : ∃ x : Cell, d = enc x := by
  obtain ⟨l, rfl, hl⟩ := hasV1_agg h
  obtain ⟨x, rfl⟩ := dec_Cell l hl
  exact ⟨x, rfl⟩
theorem ty_laws_Cell (v : Cell) : RowTy tbl.tab [.str, .int .i64] (Enc.cells v) := ⟨trivial, rfl, trivial⟩
theorem tab_laws_Cell : tbl.tab 173 = [.str, .int .i64] := by kernel_rfl
theorem ty_laws_CellS (l : List Cell) : HasTy tbl.tab (.sl 173) (encS l) := by
  show RowsTy _ (tbl.tab _) _
  rw [tab_laws_Cell]; exact rowsTy_map ty_laws_Cell l
theorem dec_laws_Cell (row : List D) (h : RowTy tbl.tab [.str, .int .i64] row) : ∃ x : Cell, row = Enc.cells x := by
  match row, h with
  | [a0, a1], h =>
    obtain ⟨b0, rfl⟩ := hasTy_str (h.1)
    obtain ⟨b1, rfl⟩ := hasTy_int (h.2.1)
    exact ⟨⟨b0, b1⟩, rfl⟩
theorem decS_laws_Cell {d : D} (h : HasTy tbl.tab (.sl 173) d) : ∃ l : List Cell, d = encS l := by
  obtain ⟨rows, rfl, hr⟩ := hasTy_sl h
  rw [tab_laws_Cell] at hr
  obtain ⟨l, rfl⟩ := decR dec_laws_Cell hr
  exact ⟨l, rfl⟩
theorem decV_laws_Cell {d : D} (h : HasVT tbl.tab (.one (.agg [.str, .int .i64])) d) : ∃ x : Cell, d = enc x := by
  obtain ⟨l, rfl, hl⟩ := hasV1_agg h
  obtain ⟨x, rfl⟩ := dec_laws_Cell l hl
  exact ⟨x, rfl⟩
structure Core where
  kind : ByteArray
  on : Bool
  broken : Bool
  cells : List Cell
  count : Int
  deriving DecidableEq, Inhabited
instance : Enc Core := { cells := fun v => [.str v.kind, .bool v.on, .bool v.broken, encS v.cells, .int .i64 v.count] }
theorem cells_Core (v : Core) : Enc.cells v = [.str v.kind, .bool v.on, .bool v.broken, encS v.cells, .int .i64 v.count] := rfl
theorem row_Core (l : List Core) (k : Nat) : D.agg (((l.map Enc.cells)[k]?).getD [zeroD (CT.str), zeroD (CT.bool), zeroD (CT.bool), zeroD (CT.sl 160), zeroD (CT.int .i64)]) = enc (nth l k) := row_enc l k rfl
theorem eq_Core (v u : Core) : v = u ↔ v.kind = u.kind ∧ v.on = u.on ∧ v.broken = u.broken ∧ v.cells = u.cells ∧ v.count = u.count := ⟨fun h => by subst h; simp, fun h => by cases v; cases u; simp_all⟩
theorem ty_Core (v : Core) : RowTy tbl.tab [.str, .bool, .bool, .sl 160, .int .i64] (Enc.cells v) := ⟨trivial, trivial, trivial, ty_CellS _, rfl, trivial⟩
theorem tab_Core : tbl.tab 47 = [.str, .bool, .bool, .sl 160, .int .i64] := by kernel_rfl
theorem ty_CoreS (l : List Core) : HasTy tbl.tab (.sl 47) (encS l) := by
  show RowsTy _ (tbl.tab _) _
  rw [tab_Core]; exact rowsTy_map ty_Core l
theorem dec_Core (row : List D) (h : RowTy tbl.tab [.str, .bool, .bool, .sl 160, .int .i64] row) : ∃ x : Core, row = Enc.cells x := by
  match row, h with
  | [a0, a1, a2, a3, a4], h =>
    obtain ⟨b0, rfl⟩ := hasTy_str (h.1)
    obtain ⟨b1, rfl⟩ := hasTy_bool (h.2.1)
    obtain ⟨b2, rfl⟩ := hasTy_bool (h.2.2.1)
    obtain ⟨b3, rfl⟩ := decS_Cell (h.2.2.2.1)
    obtain ⟨b4, rfl⟩ := hasTy_int (h.2.2.2.2.1)
    exact ⟨⟨b0, b1, b2, b3, b4⟩, rfl⟩
theorem decS_Core {d : D} (h : HasTy tbl.tab (.sl 47) d) : ∃ l : List Core, d = encS l := by
  obtain ⟨rows, rfl, hr⟩ := hasTy_sl h
  rw [tab_Core] at hr
  obtain ⟨l, rfl⟩ := decR dec_Core hr
  exact ⟨l, rfl⟩
theorem decV_Core {d : D} (h : HasVT tbl.tab (.one (.agg [.str, .bool, .bool, .sl 160, .int .i64])) d) : ∃ x : Core, d = enc x := by
  obtain ⟨l, rfl, hl⟩ := hasV1_agg h
  obtain ⟨x, rfl⟩ := dec_Core l hl
  exact ⟨x, rfl⟩
theorem ty_laws_Core (v : Core) : RowTy tbl.tab [.str, .bool, .bool, .sl 173, .int .i64] (Enc.cells v) := ⟨trivial, trivial, trivial, ty_laws_CellS _, rfl, trivial⟩
theorem tab_laws_Core : tbl.tab 89 = [.str, .bool, .bool, .sl 173, .int .i64] := by kernel_rfl
theorem ty_laws_CoreS (l : List Core) : HasTy tbl.tab (.sl 89) (encS l) := by
  show RowsTy _ (tbl.tab _) _
  rw [tab_laws_Core]; exact rowsTy_map ty_laws_Core l
theorem dec_laws_Core (row : List D) (h : RowTy tbl.tab [.str, .bool, .bool, .sl 173, .int .i64] row) : ∃ x : Core, row = Enc.cells x := by
  match row, h with
  | [a0, a1, a2, a3, a4], h =>
    obtain ⟨b0, rfl⟩ := hasTy_str (h.1)
    obtain ⟨b1, rfl⟩ := hasTy_bool (h.2.1)
    obtain ⟨b2, rfl⟩ := hasTy_bool (h.2.2.1)
    obtain ⟨b3, rfl⟩ := decS_laws_Cell (h.2.2.2.1)
    obtain ⟨b4, rfl⟩ := hasTy_int (h.2.2.2.2.1)
    exact ⟨⟨b0, b1, b2, b3, b4⟩, rfl⟩
theorem decS_laws_Core {d : D} (h : HasTy tbl.tab (.sl 89) d) : ∃ l : List Core, d = encS l := by
  obtain ⟨rows, rfl, hr⟩ := hasTy_sl h
  rw [tab_laws_Core] at hr
  obtain ⟨l, rfl⟩ := decR dec_laws_Core hr
  exact ⟨l, rfl⟩
theorem decV_laws_Core {d : D} (h : HasVT tbl.tab (.one (.agg [.str, .bool, .bool, .sl 173, .int .i64])) d) : ∃ x : Core, d = enc x := by
  obtain ⟨l, rfl, hl⟩ := hasV1_agg h
  obtain ⟨x, rfl⟩ := dec_laws_Core l hl
  exact ⟨x, rfl⟩
theorem row_laws_Core (l : List Core) (k : Nat) : D.agg (((l.map Enc.cells)[k]?).getD [zeroD (CT.str), zeroD (CT.bool), zeroD (CT.bool), zeroD (CT.sl 173), zeroD (CT.int .i64)]) = enc (nth l k) := row_enc l k rfl
structure Call where
  method : ByteArray
  key : ByteArray
  val : Int
  text : ByteArray
  deriving DecidableEq, Inhabited
instance : Enc Call := { cells := fun v => [.str v.method, .str v.key, .int .i64 v.val, .str v.text] }
theorem cells_Call (v : Call) : Enc.cells v = [.str v.method, .str v.key, .int .i64 v.val, .str v.text] := rfl
theorem row_Call (l : List Call) (k : Nat) : D.agg (((l.map Enc.cells)[k]?).getD [zeroD (CT.str), zeroD (CT.str), zeroD (CT.int .i64), zeroD (CT.str)]) = enc (nth l k) := row_enc l k rfl
theorem eq_Call (v u : Call) : v = u ↔ v.method = u.method ∧ v.key = u.key ∧ v.val = u.val ∧ v.text = u.text := ⟨fun h => by subst h; simp, fun h => by cases v; cases u; simp_all⟩
theorem eqv_Call (v u : Call) : eqvL (Enc.cells v) (Enc.cells u) = decide (v = u) := by
  rw [Bool.eq_iff_iff]
  simp [cells_Call, eqvL, eqvD, toList_eqB, eq_Call, and_assoc]
theorem ty_Call (v : Call) : RowTy tbl.tab [.str, .str, .int .i64, .str] (Enc.cells v) := ⟨trivial, trivial, rfl, trivial, trivial⟩
theorem tab_Call : tbl.tab 62 = [.str, .str, .int .i64, .str] := by kernel_rfl
theorem ty_CallS (l : List Call) : HasTy tbl.tab (.sl 62) (encS l) := by
  show RowsTy _ (tbl.tab _) _
  rw [tab_Call]; exact rowsTy_map ty_Call l
theorem dec_Call (row : List D) (h : RowTy tbl.tab [.str, .str, .int .i64, .str] row) : ∃ x : Call, row = Enc.cells x := by
  match row, h with
  | [a0, a1, a2, a3], h =>
    obtain ⟨b0, rfl⟩ := hasTy_str (h.1)
    obtain ⟨b1, rfl⟩ := hasTy_str (h.2.1)
    obtain ⟨b2, rfl⟩ := hasTy_int (h.2.2.1)
    obtain ⟨b3, rfl⟩ := hasTy_str (h.2.2.2.1)
    exact ⟨⟨b0, b1, b2, b3⟩, rfl⟩
theorem decS_Call {d : D} (h : HasTy tbl.tab (.sl 62) d) : ∃ l : List Call, d = encS l := by
  obtain ⟨rows, rfl, hr⟩ := hasTy_sl h
  rw [tab_Call] at hr
  obtain ⟨l, rfl⟩ := decR dec_Call hr
  exact ⟨l, rfl⟩
theorem decV_Call {d : D} (h : HasVT tbl.tab (.one (.agg [.str, .str, .int .i64, .str])) d) : ∃ x : Call, d = enc x := by
  obtain ⟨l, rfl, hl⟩ := hasV1_agg h
  obtain ⟨x, rfl⟩ := dec_Call l hl
  exact ⟨x, rfl⟩
theorem ty_laws_Call (v : Call) : RowTy tbl.tab [.str, .str, .int .i64, .str] (Enc.cells v) := ⟨trivial, trivial, rfl, trivial, trivial⟩
theorem tab_laws_Call : tbl.tab 94 = [.str, .str, .int .i64, .str] := by kernel_rfl
theorem ty_laws_CallS (l : List Call) : HasTy tbl.tab (.sl 94) (encS l) := by
  show RowsTy _ (tbl.tab _) _
  rw [tab_laws_Call]; exact rowsTy_map ty_laws_Call l
theorem dec_laws_Call (row : List D) (h : RowTy tbl.tab [.str, .str, .int .i64, .str] row) : ∃ x : Call, row = Enc.cells x := by
  match row, h with
  | [a0, a1, a2, a3], h =>
    obtain ⟨b0, rfl⟩ := hasTy_str (h.1)
    obtain ⟨b1, rfl⟩ := hasTy_str (h.2.1)
    obtain ⟨b2, rfl⟩ := hasTy_int (h.2.2.1)
    obtain ⟨b3, rfl⟩ := hasTy_str (h.2.2.2.1)
    exact ⟨⟨b0, b1, b2, b3⟩, rfl⟩
theorem decS_laws_Call {d : D} (h : HasTy tbl.tab (.sl 94) d) : ∃ l : List Call, d = encS l := by
  obtain ⟨rows, rfl, hr⟩ := hasTy_sl h
  rw [tab_laws_Call] at hr
  obtain ⟨l, rfl⟩ := decR dec_laws_Call hr
  exact ⟨l, rfl⟩
theorem decV_laws_Call {d : D} (h : HasVT tbl.tab (.one (.agg [.str, .str, .int .i64, .str])) d) : ∃ x : Call, d = enc x := by
  obtain ⟨l, rfl, hl⟩ := hasV1_agg h
  obtain ⟨x, rfl⟩ := dec_laws_Call l hl
  exact ⟨x, rfl⟩
structure Reply where
  code : Int
  val : Int
  text : ByteArray
  want : Int
  had : Int
  deriving DecidableEq, Inhabited
instance : Enc Reply := { cells := fun v => [.int .i64 v.code, .int .i64 v.val, .str v.text, .int .i64 v.want, .int .i64 v.had] }
theorem cells_Reply (v : Reply) : Enc.cells v = [.int .i64 v.code, .int .i64 v.val, .str v.text, .int .i64 v.want, .int .i64 v.had] := rfl
theorem row_Reply (l : List Reply) (k : Nat) : D.agg (((l.map Enc.cells)[k]?).getD [zeroD (CT.int .i64), zeroD (CT.int .i64), zeroD (CT.str), zeroD (CT.int .i64), zeroD (CT.int .i64)]) = enc (nth l k) := row_enc l k rfl
theorem eq_Reply (v u : Reply) : v = u ↔ v.code = u.code ∧ v.val = u.val ∧ v.text = u.text ∧ v.want = u.want ∧ v.had = u.had := ⟨fun h => by subst h; simp, fun h => by cases v; cases u; simp_all⟩
theorem eqv_Reply (v u : Reply) : eqvL (Enc.cells v) (Enc.cells u) = decide (v = u) := by
  rw [Bool.eq_iff_iff]
  simp [cells_Reply, eqvL, eqvD, toList_eqB, eq_Reply, and_assoc]
theorem ty_Reply (v : Reply) : RowTy tbl.tab [.int .i64, .int .i64, .str, .int .i64, .int .i64] (Enc.cells v) := ⟨rfl, rfl, trivial, rfl, rfl, trivial⟩
theorem tab_Reply : tbl.tab 136 = [.int .i64, .int .i64, .str, .int .i64, .int .i64] := by kernel_rfl
theorem ty_ReplyS (l : List Reply) : HasTy tbl.tab (.sl 136) (encS l) := by
  show RowsTy _ (tbl.tab _) _
  rw [tab_Reply]; exact rowsTy_map ty_Reply l
theorem dec_Reply (row : List D) (h : RowTy tbl.tab [.int .i64, .int .i64, .str, .int .i64, .int .i64] row) : ∃ x : Reply, row = Enc.cells x := by
  match row, h with
  | [a0, a1, a2, a3, a4], h =>
    obtain ⟨b0, rfl⟩ := hasTy_int (h.1)
    obtain ⟨b1, rfl⟩ := hasTy_int (h.2.1)
    obtain ⟨b2, rfl⟩ := hasTy_str (h.2.2.1)
    obtain ⟨b3, rfl⟩ := hasTy_int (h.2.2.2.1)
    obtain ⟨b4, rfl⟩ := hasTy_int (h.2.2.2.2.1)
    exact ⟨⟨b0, b1, b2, b3, b4⟩, rfl⟩
theorem decS_Reply {d : D} (h : HasTy tbl.tab (.sl 136) d) : ∃ l : List Reply, d = encS l := by
  obtain ⟨rows, rfl, hr⟩ := hasTy_sl h
  rw [tab_Reply] at hr
  obtain ⟨l, rfl⟩ := decR dec_Reply hr
  exact ⟨l, rfl⟩
theorem decV_Reply {d : D} (h : HasVT tbl.tab (.one (.agg [.int .i64, .int .i64, .str, .int .i64, .int .i64])) d) : ∃ x : Reply, d = enc x := by
  obtain ⟨l, rfl, hl⟩ := hasV1_agg h
  obtain ⟨x, rfl⟩ := dec_Reply l hl
  exact ⟨x, rfl⟩
structure Part where
  core : Core
  layers : List Layer
  deriving DecidableEq, Inhabited
instance : Enc Part := { cells := fun v => [.str v.core.kind, .bool v.core.on, .bool v.core.broken, encS v.core.cells, .int .i64 v.core.count, encS v.layers] }
theorem cells_Part (v : Part) : Enc.cells v = [.str v.core.kind, .bool v.core.on, .bool v.core.broken, encS v.core.cells, .int .i64 v.core.count, encS v.layers] := rfl
theorem row_Part (l : List Part) (k : Nat) : D.agg (((l.map Enc.cells)[k]?).getD [zeroD (CT.str), zeroD (CT.bool), zeroD (CT.bool), zeroD (CT.sl 160), zeroD (CT.int .i64), zeroD (CT.sl 105)]) = enc (nth l k) := row_enc l k rfl
theorem eq_Part (v u : Part) : v = u ↔ v.core = u.core ∧ v.layers = u.layers := ⟨fun h => by subst h; simp, fun h => by cases v; cases u; simp_all⟩
theorem ty_Part (v : Part) : RowTy tbl.tab [.str, .bool, .bool, .sl 160, .int .i64, .sl 105] (Enc.cells v) := ⟨trivial, trivial, trivial, ty_CellS _, rfl, ty_LayerS _, trivial⟩
theorem tab_Part : tbl.tab 50 = [.str, .bool, .bool, .sl 160, .int .i64, .sl 105] := by kernel_rfl
theorem ty_PartS (l : List Part) : HasTy tbl.tab (.sl 50) (encS l) := by
  show RowsTy _ (tbl.tab _) _
  rw [tab_Part]; exact rowsTy_map ty_Part l
theorem dec_Part (row : List D) (h : RowTy tbl.tab [.str, .bool, .bool, .sl 160, .int .i64, .sl 105] row) : ∃ x : Part, row = Enc.cells x := by
  match row, h with
  | [a0, a1, a2, a3, a4, a5], h =>
    obtain ⟨b0, rfl⟩ := hasTy_str (h.1)
    obtain ⟨b1, rfl⟩ := hasTy_bool (h.2.1)
    obtain ⟨b2, rfl⟩ := hasTy_bool (h.2.2.1)
    obtain ⟨b3, rfl⟩ := decS_Cell (h.2.2.2.1)
    obtain ⟨b4, rfl⟩ := hasTy_int (h.2.2.2.2.1)
    obtain ⟨b5, rfl⟩ := decS_Layer (h.2.2.2.2.2.1)
    exact ⟨⟨⟨b0, b1, b2, b3, b4⟩, b5⟩, rfl⟩
theorem decS_Part {d : D} (h : HasTy tbl.tab (.sl 50) d) : ∃ l : List Part, d = encS l := by
  obtain ⟨rows, rfl, hr⟩ := hasTy_sl h
  rw [tab_Part] at hr
  obtain ⟨l, rfl⟩ := decR dec_Part hr
  exact ⟨l, rfl⟩
theorem decV_Part {d : D} (h : HasVT tbl.tab (.one (.agg [.str, .bool, .bool, .sl 160, .int .i64, .sl 105])) d) : ∃ x : Part, d = enc x := by
  obtain ⟨l, rfl, hl⟩ := hasV1_agg h
  obtain ⟨x, rfl⟩ := dec_Part l hl
  exact ⟨x, rfl⟩
theorem ty_laws_Part (v : Part) : RowTy tbl.tab [.str, .bool, .bool, .sl 173, .int .i64, .sl 157] (Enc.cells v) := ⟨trivial, trivial, trivial, ty_laws_CellS _, rfl, ty_laws_LayerS _, trivial⟩
theorem tab_laws_Part : tbl.tab 92 = [.str, .bool, .bool, .sl 173, .int .i64, .sl 157] := by kernel_rfl
theorem ty_laws_PartS (l : List Part) : HasTy tbl.tab (.sl 92) (encS l) := by
  show RowsTy _ (tbl.tab _) _
  rw [tab_laws_Part]; exact rowsTy_map ty_laws_Part l
theorem dec_laws_Part (row : List D) (h : RowTy tbl.tab [.str, .bool, .bool, .sl 173, .int .i64, .sl 157] row) : ∃ x : Part, row = Enc.cells x := by
  match row, h with
  | [a0, a1, a2, a3, a4, a5], h =>
    obtain ⟨b0, rfl⟩ := hasTy_str (h.1)
    obtain ⟨b1, rfl⟩ := hasTy_bool (h.2.1)
    obtain ⟨b2, rfl⟩ := hasTy_bool (h.2.2.1)
    obtain ⟨b3, rfl⟩ := decS_laws_Cell (h.2.2.2.1)
    obtain ⟨b4, rfl⟩ := hasTy_int (h.2.2.2.2.1)
    obtain ⟨b5, rfl⟩ := decS_laws_Layer (h.2.2.2.2.2.1)
    exact ⟨⟨⟨b0, b1, b2, b3, b4⟩, b5⟩, rfl⟩
theorem decS_laws_Part {d : D} (h : HasTy tbl.tab (.sl 92) d) : ∃ l : List Part, d = encS l := by
  obtain ⟨rows, rfl, hr⟩ := hasTy_sl h
  rw [tab_laws_Part] at hr
  obtain ⟨l, rfl⟩ := decR dec_laws_Part hr
  exact ⟨l, rfl⟩
theorem decV_laws_Part {d : D} (h : HasVT tbl.tab (.one (.agg [.str, .bool, .bool, .sl 173, .int .i64, .sl 157])) d) : ∃ x : Part, d = enc x := by
  obtain ⟨l, rfl, hl⟩ := hasV1_agg h
  obtain ⟨x, rfl⟩ := dec_laws_Part l hl
  exact ⟨x, rfl⟩
theorem row_laws_Part (l : List Part) (k : Nat) : D.agg (((l.map Enc.cells)[k]?).getD [zeroD (CT.str), zeroD (CT.bool), zeroD (CT.bool), zeroD (CT.sl 173), zeroD (CT.int .i64), zeroD (CT.sl 157)]) = enc (nth l k) := row_enc l k rfl
structure Ver where
  maj : Int
  min : Int
  deriving DecidableEq, Inhabited
instance : Enc Ver := { cells := fun v => [.int .i64 v.maj, .int .i64 v.min] }
theorem cells_Ver (v : Ver) : Enc.cells v = [.int .i64 v.maj, .int .i64 v.min] := rfl
theorem row_Ver (l : List Ver) (k : Nat) : D.agg (((l.map Enc.cells)[k]?).getD [zeroD (CT.int .i64), zeroD (CT.int .i64)]) = enc (nth l k) := row_enc l k rfl
theorem eq_Ver (v u : Ver) : v = u ↔ v.maj = u.maj ∧ v.min = u.min := ⟨fun h => by subst h; simp, fun h => by cases v; cases u; simp_all⟩
theorem eqv_Ver (v u : Ver) : eqvL (Enc.cells v) (Enc.cells u) = decide (v = u) := by
  rw [Bool.eq_iff_iff]
  simp [cells_Ver, eqvL, eqvD, toList_eqB, eq_Ver, and_assoc]
theorem ty_Ver (v : Ver) : RowTy tbl.tab [.int .i64, .int .i64] (Enc.cells v) := ⟨rfl, rfl, trivial⟩
theorem tab_Ver : tbl.tab 55 = [.int .i64, .int .i64] := by kernel_rfl
theorem ty_VerS (l : List Ver) : HasTy tbl.tab (.sl 55) (encS l) := by
  show RowsTy _ (tbl.tab _) _
  rw [tab_Ver]; exact rowsTy_map ty_Ver l
theorem dec_Ver (row : List D) (h : RowTy tbl.tab [.int .i64, .int .i64] row) : ∃ x : Ver, row = Enc.cells x := by
  match row, h with
  | [a0, a1], h =>
    obtain ⟨b0, rfl⟩ := hasTy_int (h.1)
    obtain ⟨b1, rfl⟩ := hasTy_int (h.2.1)
    exact ⟨⟨b0, b1⟩, rfl⟩
theorem decS_Ver {d : D} (h : HasTy tbl.tab (.sl 55) d) : ∃ l : List Ver, d = encS l := by
  obtain ⟨rows, rfl, hr⟩ := hasTy_sl h
  rw [tab_Ver] at hr
  obtain ⟨l, rfl⟩ := decR dec_Ver hr
  exact ⟨l, rfl⟩
theorem decV_Ver {d : D} (h : HasVT tbl.tab (.one (.agg [.int .i64, .int .i64])) d) : ∃ x : Ver, d = enc x := by
  obtain ⟨l, rfl, hl⟩ := hasV1_agg h
  obtain ⟨x, rfl⟩ := dec_Ver l hl
  exact ⟨x, rfl⟩
theorem ty_laws_Ver (v : Ver) : RowTy tbl.tab [.int .i64, .int .i64] (Enc.cells v) := ⟨rfl, rfl, trivial⟩
theorem tab_laws_Ver : tbl.tab 82 = [.int .i64, .int .i64] := by kernel_rfl
theorem ty_laws_VerS (l : List Ver) : HasTy tbl.tab (.sl 82) (encS l) := by
  show RowsTy _ (tbl.tab _) _
  rw [tab_laws_Ver]; exact rowsTy_map ty_laws_Ver l
theorem dec_laws_Ver (row : List D) (h : RowTy tbl.tab [.int .i64, .int .i64] row) : ∃ x : Ver, row = Enc.cells x := by
  match row, h with
  | [a0, a1], h =>
    obtain ⟨b0, rfl⟩ := hasTy_int (h.1)
    obtain ⟨b1, rfl⟩ := hasTy_int (h.2.1)
    exact ⟨⟨b0, b1⟩, rfl⟩
theorem decS_laws_Ver {d : D} (h : HasTy tbl.tab (.sl 82) d) : ∃ l : List Ver, d = encS l := by
  obtain ⟨rows, rfl, hr⟩ := hasTy_sl h
  rw [tab_laws_Ver] at hr
  obtain ⟨l, rfl⟩ := decR dec_laws_Ver hr
  exact ⟨l, rfl⟩
theorem decV_laws_Ver {d : D} (h : HasVT tbl.tab (.one (.agg [.int .i64, .int .i64])) d) : ∃ x : Ver, d = enc x := by
  obtain ⟨l, rfl, hl⟩ := hasV1_agg h
  obtain ⟨x, rfl⟩ := dec_laws_Ver l hl
  exact ⟨x, rfl⟩
structure Need where
  face : Int
  frm : ByteArray
  least : Ver
  deriving DecidableEq, Inhabited
instance : Enc Need := { cells := fun v => [.int .i64 v.face, .str v.frm, .int .i64 v.least.maj, .int .i64 v.least.min] }
theorem cells_Need (v : Need) : Enc.cells v = [.int .i64 v.face, .str v.frm, .int .i64 v.least.maj, .int .i64 v.least.min] := rfl
theorem row_Need (l : List Need) (k : Nat) : D.agg (((l.map Enc.cells)[k]?).getD [zeroD (CT.int .i64), zeroD (CT.str), zeroD (CT.int .i64), zeroD (CT.int .i64)]) = enc (nth l k) := row_enc l k rfl
theorem eq_Need (v u : Need) : v = u ↔ v.face = u.face ∧ v.frm = u.frm ∧ v.least = u.least := ⟨fun h => by subst h; simp, fun h => by cases v; cases u; simp_all⟩
theorem eqv_Need (v u : Need) : eqvL (Enc.cells v) (Enc.cells u) = decide (v = u) := by
  rw [Bool.eq_iff_iff]
  simp [cells_Need, eqvL, eqvD, toList_eqB, eq_Need, eq_Ver, and_assoc]
theorem ty_Need (v : Need) : RowTy tbl.tab [.int .i64, .str, .int .i64, .int .i64] (Enc.cells v) := ⟨rfl, trivial, rfl, rfl, trivial⟩
theorem tab_Need : tbl.tab 117 = [.int .i64, .str, .int .i64, .int .i64] := by kernel_rfl
theorem ty_NeedS (l : List Need) : HasTy tbl.tab (.sl 117) (encS l) := by
  show RowsTy _ (tbl.tab _) _
  rw [tab_Need]; exact rowsTy_map ty_Need l
theorem dec_Need (row : List D) (h : RowTy tbl.tab [.int .i64, .str, .int .i64, .int .i64] row) : ∃ x : Need, row = Enc.cells x := by
  match row, h with
  | [a0, a1, a2, a3], h =>
    obtain ⟨b0, rfl⟩ := hasTy_int (h.1)
    obtain ⟨b1, rfl⟩ := hasTy_str (h.2.1)
    obtain ⟨b2, rfl⟩ := hasTy_int (h.2.2.1)
    obtain ⟨b3, rfl⟩ := hasTy_int (h.2.2.2.1)
    exact ⟨⟨b0, b1, ⟨b2, b3⟩⟩, rfl⟩
theorem decS_Need {d : D} (h : HasTy tbl.tab (.sl 117) d) : ∃ l : List Need, d = encS l := by
  obtain ⟨rows, rfl, hr⟩ := hasTy_sl h
  rw [tab_Need] at hr
  obtain ⟨l, rfl⟩ := decR dec_Need hr
  exact ⟨l, rfl⟩
theorem decV_Need {d : D} (h : HasVT tbl.tab (.one (.agg [.int .i64, .str, .int .i64, .int .i64])) d) : ∃ x : Need, d = enc x := by
  obtain ⟨l, rfl, hl⟩ := hasV1_agg h
  obtain ⟨x, rfl⟩ := dec_Need l hl
  exact ⟨x, rfl⟩
theorem ty_laws_Need (v : Need) : RowTy tbl.tab [.int .i64, .str, .int .i64, .int .i64] (Enc.cells v) := ⟨rfl, trivial, rfl, rfl, trivial⟩
theorem tab_laws_Need : tbl.tab 154 = [.int .i64, .str, .int .i64, .int .i64] := by kernel_rfl
theorem ty_laws_NeedS (l : List Need) : HasTy tbl.tab (.sl 154) (encS l) := by
  show RowsTy _ (tbl.tab _) _
  rw [tab_laws_Need]; exact rowsTy_map ty_laws_Need l
theorem dec_laws_Need (row : List D) (h : RowTy tbl.tab [.int .i64, .str, .int .i64, .int .i64] row) : ∃ x : Need, row = Enc.cells x := by
  match row, h with
  | [a0, a1, a2, a3], h =>
    obtain ⟨b0, rfl⟩ := hasTy_int (h.1)
    obtain ⟨b1, rfl⟩ := hasTy_str (h.2.1)
    obtain ⟨b2, rfl⟩ := hasTy_int (h.2.2.1)
    obtain ⟨b3, rfl⟩ := hasTy_int (h.2.2.2.1)
    exact ⟨⟨b0, b1, ⟨b2, b3⟩⟩, rfl⟩
theorem decS_laws_Need {d : D} (h : HasTy tbl.tab (.sl 154) d) : ∃ l : List Need, d = encS l := by
  obtain ⟨rows, rfl, hr⟩ := hasTy_sl h
  rw [tab_laws_Need] at hr
  obtain ⟨l, rfl⟩ := decR dec_laws_Need hr
  exact ⟨l, rfl⟩
theorem decV_laws_Need {d : D} (h : HasVT tbl.tab (.one (.agg [.int .i64, .str, .int .i64, .int .i64])) d) : ∃ x : Need, d = enc x := by
  obtain ⟨l, rfl, hl⟩ := hasV1_agg h
  obtain ⟨x, rfl⟩ := dec_laws_Need l hl
  exact ⟨x, rfl⟩
structure Entry where
  name : ByteArray
  recipe : List ByteArray
  ver : Ver
  needs : List Need
  deriving DecidableEq, Inhabited
instance : Enc Entry := { cells := fun v => [.str v.name, encS v.recipe, .int .i64 v.ver.maj, .int .i64 v.ver.min, encS v.needs] }
theorem cells_Entry (v : Entry) : Enc.cells v = [.str v.name, encS v.recipe, .int .i64 v.ver.maj, .int .i64 v.ver.min, encS v.needs] := rfl
theorem row_Entry (l : List Entry) (k : Nat) : D.agg (((l.map Enc.cells)[k]?).getD [zeroD (CT.str), zeroD (CT.sl 9), zeroD (CT.int .i64), zeroD (CT.int .i64), zeroD (CT.sl 117)]) = enc (nth l k) := row_enc l k rfl
theorem eq_Entry (v u : Entry) : v = u ↔ v.name = u.name ∧ v.recipe = u.recipe ∧ v.ver = u.ver ∧ v.needs = u.needs := ⟨fun h => by subst h; simp, fun h => by cases v; cases u; simp_all⟩
theorem ty_Entry (v : Entry) : RowTy tbl.tab [.str, .sl 9, .int .i64, .int .i64, .sl 117] (Enc.cells v) := ⟨trivial, ty_strS _, rfl, rfl, ty_NeedS _, trivial⟩
theorem tab_Entry : tbl.tab 58 = [.str, .sl 9, .int .i64, .int .i64, .sl 117] := by kernel_rfl
theorem ty_EntryS (l : List Entry) : HasTy tbl.tab (.sl 58) (encS l) := by
  show RowsTy _ (tbl.tab _) _
  rw [tab_Entry]; exact rowsTy_map ty_Entry l
theorem dec_Entry (row : List D) (h : RowTy tbl.tab [.str, .sl 9, .int .i64, .int .i64, .sl 117] row) : ∃ x : Entry, row = Enc.cells x := by
  match row, h with
  | [a0, a1, a2, a3, a4], h =>
    obtain ⟨b0, rfl⟩ := hasTy_str (h.1)
    obtain ⟨b1, rfl⟩ := decS_str (h.2.1)
    obtain ⟨b2, rfl⟩ := hasTy_int (h.2.2.1)
    obtain ⟨b3, rfl⟩ := hasTy_int (h.2.2.2.1)
    obtain ⟨b4, rfl⟩ := decS_Need (h.2.2.2.2.1)
    exact ⟨⟨b0, b1, ⟨b2, b3⟩, b4⟩, rfl⟩
theorem decS_Entry {d : D} (h : HasTy tbl.tab (.sl 58) d) : ∃ l : List Entry, d = encS l := by
  obtain ⟨rows, rfl, hr⟩ := hasTy_sl h
  rw [tab_Entry] at hr
  obtain ⟨l, rfl⟩ := decR dec_Entry hr
  exact ⟨l, rfl⟩
theorem decV_Entry {d : D} (h : HasVT tbl.tab (.one (.agg [.str, .sl 9, .int .i64, .int .i64, .sl 117])) d) : ∃ x : Entry, d = enc x := by
  obtain ⟨l, rfl, hl⟩ := hasV1_agg h
  obtain ⟨x, rfl⟩ := dec_Entry l hl
  exact ⟨x, rfl⟩
theorem ty_laws_Entry (v : Entry) : RowTy tbl.tab [.str, .sl 9, .int .i64, .int .i64, .sl 154] (Enc.cells v) := ⟨trivial, ty_strS _, rfl, rfl, ty_laws_NeedS _, trivial⟩
theorem tab_laws_Entry : tbl.tab 85 = [.str, .sl 9, .int .i64, .int .i64, .sl 154] := by kernel_rfl
theorem ty_laws_EntryS (l : List Entry) : HasTy tbl.tab (.sl 85) (encS l) := by
  show RowsTy _ (tbl.tab _) _
  rw [tab_laws_Entry]; exact rowsTy_map ty_laws_Entry l
theorem dec_laws_Entry (row : List D) (h : RowTy tbl.tab [.str, .sl 9, .int .i64, .int .i64, .sl 154] row) : ∃ x : Entry, row = Enc.cells x := by
  match row, h with
  | [a0, a1, a2, a3, a4], h =>
    obtain ⟨b0, rfl⟩ := hasTy_str (h.1)
    obtain ⟨b1, rfl⟩ := decS_str (h.2.1)
    obtain ⟨b2, rfl⟩ := hasTy_int (h.2.2.1)
    obtain ⟨b3, rfl⟩ := hasTy_int (h.2.2.2.1)
    obtain ⟨b4, rfl⟩ := decS_laws_Need (h.2.2.2.2.1)
    exact ⟨⟨b0, b1, ⟨b2, b3⟩, b4⟩, rfl⟩
theorem decS_laws_Entry {d : D} (h : HasTy tbl.tab (.sl 85) d) : ∃ l : List Entry, d = encS l := by
  obtain ⟨rows, rfl, hr⟩ := hasTy_sl h
  rw [tab_laws_Entry] at hr
  obtain ⟨l, rfl⟩ := decR dec_laws_Entry hr
  exact ⟨l, rfl⟩
theorem decV_laws_Entry {d : D} (h : HasVT tbl.tab (.one (.agg [.str, .sl 9, .int .i64, .int .i64, .sl 154])) d) : ∃ x : Entry, d = enc x := by
  obtain ⟨l, rfl, hl⟩ := hasV1_agg h
  obtain ⟨x, rfl⟩ := dec_laws_Entry l hl
  exact ⟨x, rfl⟩
theorem row_laws_Entry (l : List Entry) (k : Nat) : D.agg (((l.map Enc.cells)[k]?).getD [zeroD (CT.str), zeroD (CT.sl 9), zeroD (CT.int .i64), zeroD (CT.int .i64), zeroD (CT.sl 154)]) = enc (nth l k) := row_enc l k rfl
structure Link where
  frm : ByteArray
  to : ByteArray
  face : Int
  deriving DecidableEq, Inhabited
instance : Enc Link := { cells := fun v => [.str v.frm, .str v.to, .int .i64 v.face] }
theorem cells_Link (v : Link) : Enc.cells v = [.str v.frm, .str v.to, .int .i64 v.face] := rfl
theorem row_Link (l : List Link) (k : Nat) : D.agg (((l.map Enc.cells)[k]?).getD [zeroD (CT.str), zeroD (CT.str), zeroD (CT.int .i64)]) = enc (nth l k) := row_enc l k rfl
theorem eq_Link (v u : Link) : v = u ↔ v.frm = u.frm ∧ v.to = u.to ∧ v.face = u.face := ⟨fun h => by subst h; simp, fun h => by cases v; cases u; simp_all⟩
theorem eqv_Link (v u : Link) : eqvL (Enc.cells v) (Enc.cells u) = decide (v = u) := by
  rw [Bool.eq_iff_iff]
  simp [cells_Link, eqvL, eqvD, toList_eqB, eq_Link, and_assoc]
theorem ty_Link (v : Link) : RowTy tbl.tab [.str, .str, .int .i64] (Enc.cells v) := ⟨trivial, trivial, rfl, trivial⟩
theorem tab_Link : tbl.tab 133 = [.str, .str, .int .i64] := by kernel_rfl
theorem ty_LinkS (l : List Link) : HasTy tbl.tab (.sl 133) (encS l) := by
  show RowsTy _ (tbl.tab _) _
  rw [tab_Link]; exact rowsTy_map ty_Link l
theorem dec_Link (row : List D) (h : RowTy tbl.tab [.str, .str, .int .i64] row) : ∃ x : Link, row = Enc.cells x := by
  match row, h with
  | [a0, a1, a2], h =>
    obtain ⟨b0, rfl⟩ := hasTy_str (h.1)
    obtain ⟨b1, rfl⟩ := hasTy_str (h.2.1)
    obtain ⟨b2, rfl⟩ := hasTy_int (h.2.2.1)
    exact ⟨⟨b0, b1, b2⟩, rfl⟩
theorem decS_Link {d : D} (h : HasTy tbl.tab (.sl 133) d) : ∃ l : List Link, d = encS l := by
  obtain ⟨rows, rfl, hr⟩ := hasTy_sl h
  rw [tab_Link] at hr
  obtain ⟨l, rfl⟩ := decR dec_Link hr
  exact ⟨l, rfl⟩
theorem decV_Link {d : D} (h : HasVT tbl.tab (.one (.agg [.str, .str, .int .i64])) d) : ∃ x : Link, d = enc x := by
  obtain ⟨l, rfl, hl⟩ := hasV1_agg h
  obtain ⟨x, rfl⟩ := dec_Link l hl
  exact ⟨x, rfl⟩
structure Event where
  kind : Int
  name : ByteArray
  call : Call
  recipe : List ByteArray
  deriving DecidableEq, Inhabited
instance : Enc Event := { cells := fun v => [.int .i64 v.kind, .str v.name, .str v.call.method, .str v.call.key, .int .i64 v.call.val, .str v.call.text, encS v.recipe] }
theorem cells_Event (v : Event) : Enc.cells v = [.int .i64 v.kind, .str v.name, .str v.call.method, .str v.call.key, .int .i64 v.call.val, .str v.call.text, encS v.recipe] := rfl
theorem row_Event (l : List Event) (k : Nat) : D.agg (((l.map Enc.cells)[k]?).getD [zeroD (CT.int .i64), zeroD (CT.str), zeroD (CT.str), zeroD (CT.str), zeroD (CT.int .i64), zeroD (CT.str), zeroD (CT.sl 9)]) = enc (nth l k) := row_enc l k rfl
theorem eq_Event (v u : Event) : v = u ↔ v.kind = u.kind ∧ v.name = u.name ∧ v.call = u.call ∧ v.recipe = u.recipe := ⟨fun h => by subst h; simp, fun h => by cases v; cases u; simp_all⟩
theorem ty_Event (v : Event) : RowTy tbl.tab [.int .i64, .str, .str, .str, .int .i64, .str, .sl 9] (Enc.cells v) := ⟨rfl, trivial, trivial, trivial, rfl, trivial, ty_strS _, trivial⟩
theorem tab_Event : tbl.tab 64 = [.int .i64, .str, .str, .str, .int .i64, .str, .sl 9] := by kernel_rfl
theorem ty_EventS (l : List Event) : HasTy tbl.tab (.sl 64) (encS l) := by
  show RowsTy _ (tbl.tab _) _
  rw [tab_Event]; exact rowsTy_map ty_Event l
theorem dec_Event (row : List D) (h : RowTy tbl.tab [.int .i64, .str, .str, .str, .int .i64, .str, .sl 9] row) : ∃ x : Event, row = Enc.cells x := by
  match row, h with
  | [a0, a1, a2, a3, a4, a5, a6], h =>
    obtain ⟨b0, rfl⟩ := hasTy_int (h.1)
    obtain ⟨b1, rfl⟩ := hasTy_str (h.2.1)
    obtain ⟨b2, rfl⟩ := hasTy_str (h.2.2.1)
    obtain ⟨b3, rfl⟩ := hasTy_str (h.2.2.2.1)
    obtain ⟨b4, rfl⟩ := hasTy_int (h.2.2.2.2.1)
    obtain ⟨b5, rfl⟩ := hasTy_str (h.2.2.2.2.2.1)
    obtain ⟨b6, rfl⟩ := decS_str (h.2.2.2.2.2.2.1)
    exact ⟨⟨b0, b1, ⟨b2, b3, b4, b5⟩, b6⟩, rfl⟩
theorem decS_Event {d : D} (h : HasTy tbl.tab (.sl 64) d) : ∃ l : List Event, d = encS l := by
  obtain ⟨rows, rfl, hr⟩ := hasTy_sl h
  rw [tab_Event] at hr
  obtain ⟨l, rfl⟩ := decR dec_Event hr
  exact ⟨l, rfl⟩
theorem decV_Event {d : D} (h : HasVT tbl.tab (.one (.agg [.int .i64, .str, .str, .str, .int .i64, .str, .sl 9])) d) : ∃ x : Event, d = enc x := by
  obtain ⟨l, rfl, hl⟩ := hasV1_agg h
  obtain ⟨x, rfl⟩ := dec_Event l hl
  exact ⟨x, rfl⟩
theorem ty_laws_Event (v : Event) : RowTy tbl.tab [.int .i64, .str, .str, .str, .int .i64, .str, .sl 9] (Enc.cells v) := ⟨rfl, trivial, trivial, trivial, rfl, trivial, ty_strS _, trivial⟩
theorem tab_laws_Event : tbl.tab 96 = [.int .i64, .str, .str, .str, .int .i64, .str, .sl 9] := by kernel_rfl
theorem ty_laws_EventS (l : List Event) : HasTy tbl.tab (.sl 96) (encS l) := by
  show RowsTy _ (tbl.tab _) _
  rw [tab_laws_Event]; exact rowsTy_map ty_laws_Event l
theorem dec_laws_Event (row : List D) (h : RowTy tbl.tab [.int .i64, .str, .str, .str, .int .i64, .str, .sl 9] row) : ∃ x : Event, row = Enc.cells x := by
  match row, h with
  | [a0, a1, a2, a3, a4, a5, a6], h =>
    obtain ⟨b0, rfl⟩ := hasTy_int (h.1)
    obtain ⟨b1, rfl⟩ := hasTy_str (h.2.1)
    obtain ⟨b2, rfl⟩ := hasTy_str (h.2.2.1)
    obtain ⟨b3, rfl⟩ := hasTy_str (h.2.2.2.1)
    obtain ⟨b4, rfl⟩ := hasTy_int (h.2.2.2.2.1)
    obtain ⟨b5, rfl⟩ := hasTy_str (h.2.2.2.2.2.1)
    obtain ⟨b6, rfl⟩ := decS_str (h.2.2.2.2.2.2.1)
    exact ⟨⟨b0, b1, ⟨b2, b3, b4, b5⟩, b6⟩, rfl⟩
theorem decS_laws_Event {d : D} (h : HasTy tbl.tab (.sl 96) d) : ∃ l : List Event, d = encS l := by
  obtain ⟨rows, rfl, hr⟩ := hasTy_sl h
  rw [tab_laws_Event] at hr
  obtain ⟨l, rfl⟩ := decR dec_laws_Event hr
  exact ⟨l, rfl⟩
theorem decV_laws_Event {d : D} (h : HasVT tbl.tab (.one (.agg [.int .i64, .str, .str, .str, .int .i64, .str, .sl 9])) d) : ∃ x : Event, d = enc x := by
  obtain ⟨l, rfl, hl⟩ := hasV1_agg h
  obtain ⟨x, rfl⟩ := dec_laws_Event l hl
  exact ⟨x, rfl⟩
structure Host where
  entries : List Entry
  parts : List Part
  up : List ByteArray
  shut : List ByteArray
  log : List Event
  deriving DecidableEq, Inhabited
instance : Enc Host := { cells := fun v => [encS v.entries, encS v.parts, encS v.up, encS v.shut, encS v.log] }
theorem cells_Host (v : Host) : Enc.cells v = [encS v.entries, encS v.parts, encS v.up, encS v.shut, encS v.log] := rfl
theorem row_Host (l : List Host) (k : Nat) : D.agg (((l.map Enc.cells)[k]?).getD [zeroD (CT.sl 58), zeroD (CT.sl 50), zeroD (CT.sl 9), zeroD (CT.sl 9), zeroD (CT.sl 64)]) = enc (nth l k) := row_enc l k rfl
theorem eq_Host (v u : Host) : v = u ↔ v.entries = u.entries ∧ v.parts = u.parts ∧ v.up = u.up ∧ v.shut = u.shut ∧ v.log = u.log := ⟨fun h => by subst h; simp, fun h => by cases v; cases u; simp_all⟩
theorem ty_Host (v : Host) : RowTy tbl.tab [.sl 58, .sl 50, .sl 9, .sl 9, .sl 64] (Enc.cells v) := ⟨ty_EntryS _, ty_PartS _, ty_strS _, ty_strS _, ty_EventS _, trivial⟩
theorem tab_Host : tbl.tab 34 = [.sl 58, .sl 50, .sl 9, .sl 9, .sl 64] := by kernel_rfl
theorem ty_HostS (l : List Host) : HasTy tbl.tab (.sl 34) (encS l) := by
  show RowsTy _ (tbl.tab _) _
  rw [tab_Host]; exact rowsTy_map ty_Host l
theorem dec_Host (row : List D) (h : RowTy tbl.tab [.sl 58, .sl 50, .sl 9, .sl 9, .sl 64] row) : ∃ x : Host, row = Enc.cells x := by
  match row, h with
  | [a0, a1, a2, a3, a4], h =>
    obtain ⟨b0, rfl⟩ := decS_Entry (h.1)
    obtain ⟨b1, rfl⟩ := decS_Part (h.2.1)
    obtain ⟨b2, rfl⟩ := decS_str (h.2.2.1)
    obtain ⟨b3, rfl⟩ := decS_str (h.2.2.2.1)
    obtain ⟨b4, rfl⟩ := decS_Event (h.2.2.2.2.1)
    exact ⟨⟨b0, b1, b2, b3, b4⟩, rfl⟩
theorem decS_Host {d : D} (h : HasTy tbl.tab (.sl 34) d) : ∃ l : List Host, d = encS l := by
  obtain ⟨rows, rfl, hr⟩ := hasTy_sl h
  rw [tab_Host] at hr
  obtain ⟨l, rfl⟩ := decR dec_Host hr
  exact ⟨l, rfl⟩
theorem decV_Host {d : D} (h : HasVT tbl.tab (.one (.agg [.sl 58, .sl 50, .sl 9, .sl 9, .sl 64])) d) : ∃ x : Host, d = enc x := by
  obtain ⟨l, rfl, hl⟩ := hasV1_agg h
  obtain ⟨x, rfl⟩ := dec_Host l hl
  exact ⟨x, rfl⟩
theorem ty_laws_Host (v : Host) : RowTy tbl.tab [.sl 85, .sl 92, .sl 9, .sl 9, .sl 96] (Enc.cells v) := ⟨ty_laws_EntryS _, ty_laws_PartS _, ty_strS _, ty_strS _, ty_laws_EventS _, trivial⟩
theorem tab_laws_Host : tbl.tab 27 = [.sl 85, .sl 92, .sl 9, .sl 9, .sl 96] := by kernel_rfl
theorem ty_laws_HostS (l : List Host) : HasTy tbl.tab (.sl 27) (encS l) := by
  show RowsTy _ (tbl.tab _) _
  rw [tab_laws_Host]; exact rowsTy_map ty_laws_Host l
theorem dec_laws_Host (row : List D) (h : RowTy tbl.tab [.sl 85, .sl 92, .sl 9, .sl 9, .sl 96] row) : ∃ x : Host, row = Enc.cells x := by
  match row, h with
  | [a0, a1, a2, a3, a4], h =>
    obtain ⟨b0, rfl⟩ := decS_laws_Entry (h.1)
    obtain ⟨b1, rfl⟩ := decS_laws_Part (h.2.1)
    obtain ⟨b2, rfl⟩ := decS_str (h.2.2.1)
    obtain ⟨b3, rfl⟩ := decS_str (h.2.2.2.1)
    obtain ⟨b4, rfl⟩ := decS_laws_Event (h.2.2.2.2.1)
    exact ⟨⟨b0, b1, b2, b3, b4⟩, rfl⟩
theorem decS_laws_Host {d : D} (h : HasTy tbl.tab (.sl 27) d) : ∃ l : List Host, d = encS l := by
  obtain ⟨rows, rfl, hr⟩ := hasTy_sl h
  rw [tab_laws_Host] at hr
  obtain ⟨l, rfl⟩ := decR dec_laws_Host hr
  exact ⟨l, rfl⟩
theorem decV_laws_Host {d : D} (h : HasVT tbl.tab (.one (.agg [.sl 85, .sl 92, .sl 9, .sl 9, .sl 96])) d) : ∃ x : Host, d = enc x := by
  obtain ⟨l, rfl, hl⟩ := hasV1_agg h
  obtain ⟨x, rfl⟩ := dec_laws_Host l hl
  exact ⟨x, rfl⟩
theorem row_laws_Host (l : List Host) (k : Nat) : D.agg (((l.map Enc.cells)[k]?).getD [zeroD (CT.sl 85), zeroD (CT.sl 92), zeroD (CT.sl 9), zeroD (CT.sl 9), zeroD (CT.sl 96)]) = enc (nth l k) := row_enc l k rfl
theorem nth_mem {α : Type} [Inhabited α] {l : List α} {k : Nat} (h : k < l.length) : nth l k ∈ l := by
  simp [nth, List.getD, List.getElem?_eq_getElem h]
theorem mem_nth {α : Type} [Inhabited α] {l : List α} {x : α} (h : x ∈ l) : ∃ k, k < l.length ∧ nth l k = x := by
  obtain ⟨k, hk, e⟩ := List.getElem_of_mem h
  exact ⟨k, hk, by simp [nth, List.getD, List.getElem?_eq_getElem hk, e]⟩
theorem ext_nth {α : Type} [Inhabited α] {l l' : List α} (hl : l.length = l'.length) (h : ∀ i, i < l.length → nth l i = nth l' i) : l = l' := by
  refine List.ext_getElem hl fun i h1 h2 => ?_
  have := h i h1
  simpa [nth, List.getD, List.getElem?_eq_getElem h1, List.getElem?_eq_getElem h2] using this
theorem fits_nth {α : Type} [Enc α] {l : List α} (h : Fits (encS l)) {k : Nat} (hk : k < l.length) : FitsL (Enc.cells (nth l k)) := by
  unfold encS Fits at h
  have : ∀ (rows : List (List D)), FitsR rows → ∀ r ∈ rows, FitsL r := by
    intro rows
    induction rows with
    | nil => intro _ r hr; cases hr
    | cons a t ih => intro h r hr; rcases List.mem_cons.1 hr with rfl | hr; exact h.1; exact ih h.2 r hr
  exact this _ h.2 _ (List.mem_map.2 ⟨_, nth_mem hk, rfl⟩)
/-- All of the first n places. -/
def allTo (p : Nat → Bool) : Nat → Bool
  | 0 => true
  | n + 1 => allTo p n && p n
theorem allTo_iff {p : Nat → Bool} : ∀ {n : Nat}, allTo p n = true ↔ ∀ i, i < n → p i = true
  | 0 => by simp [allTo]
  | n + 1 => by
    simp only [allTo, Bool.and_eq_true, allTo_iff]
    exact ⟨fun ⟨h1, h2⟩ i hi => by
      by_cases e : i = n
      · subst e; exact h2
      · exact h1 i (by omega), fun h => ⟨fun i hi => h i (by omega), h n (by omega)⟩⟩
theorem allTo_bad {p : Nat → Bool} {n k : Nat} (hk : k < n) (h : p k = false) : allTo p n = false := by
  rcases hb : allTo p n with _ | _
  · rfl
  · have := allTo_iff.1 hb k hk; rw [h] at this; cases this
/-- Some of the first n places. -/
def anyTo (p : Nat → Bool) : Nat → Bool
  | 0 => false
  | n + 1 => anyTo p n || p n
theorem anyTo_iff {p : Nat → Bool} : ∀ {n : Nat}, anyTo p n = true ↔ ∃ i, i < n ∧ p i = true
  | 0 => by simp [anyTo]
  | n + 1 => by
    simp only [anyTo, Bool.or_eq_true, anyTo_iff]
    exact ⟨fun h => by
      rcases h with ⟨i, h1, h2⟩ | h
      · exact ⟨i, by omega, h2⟩
      · exact ⟨n, by omega, h⟩, fun ⟨i, h1, h2⟩ => by
      by_cases e : i = n
      · subst e; exact .inr h2
      · exact .inl ⟨i, by omega, h2⟩⟩
theorem anyTo_none {p : Nat → Bool} {n : Nat} (h : ∀ i, i < n → p i = false) : anyTo p n = false := by
  rcases hb : anyTo p n with _ | _
  · rfl
  · obtain ⟨i, h1, h2⟩ := anyTo_iff.1 hb; rw [h i h1] at h2; cases h2
theorem anyTo_some {p : Nat → Bool} {k n : Nat} (h : p k = true) (hk : k < n) : anyTo p n = true := anyTo_iff.2 ⟨k, hk, h⟩
end Go.Proofs.YtgaeigomhhbkfaaGreat
