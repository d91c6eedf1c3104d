/- What single operations of the machine do, at types of which a table tells enough. No program in sight. -/
import Derived.Test.YtgaeigomhhbkfaaGreatASym
import Derived.Laws.Rows
import Derived.Laws.Cells
namespace Go.Proofs.YtgaeigomhhbkfaaGreat
open Go.RowKit
set_option linter.unusedVariables false
set_option linter.unusedSimpArgs false

theorem tb_get_ok {P : Program} {tb0 : TB} : ∀ {tb : TB}, tbOk P tb0 tb = true → ∀ {T : Nat} {ti : TI}, tb.get T = some ti → tiOk P tb0 T ti = true
  | [], _, T, ti, h => by simp [TB.get] at h
  | (t, i) :: r, hk, T, ti, h => by
    simp [tbOk] at hk
    simp only [TB.get] at h
    cases e : Nat.beq t T with
    | true =>
      rw [e] at h; simp only [cond_true, Option.some.injEq] at h; subst h
      have : t = T := Nat.eq_of_beq_eq_true e
      subst this; exact hk.1
    | false => rw [e] at h; exact tb_get_ok hk.2 h

/-- The description that a cell's type has. -/
def DescC : CT → TypeDesc → Prop
  | .bool, d => d = .bool
  | .int k, d => d = .int k
  | .str, d => d = .string
  | .sl e, d => d = .slice e
  | .mem, _ => False
  | .fn, _ => False
section
variable {P : Program} {tb : TB} (hcx : tbOk P tb tb = true) {T : Nat} {ti : TI} (hg : tb.get T = some ti)
include hcx hg
theorem ty_c {t : CT} (hv : ti.vt = .one (.c t)) : ∃ i d, P.info? T = some i ∧ i.size = 1 ∧ i.bytes = ti.bytes ∧ (∃ z, i.zero = some z ∧ zeroV t z = true) ∧ P.underlying T = some d ∧ DescC t d := by
  have h := tb_get_ok hcx hg
  simp only [tiOk, hv] at h
  split at h
  · simp at h
  · rename_i i hi
    simp only [Bool.and_eq_true, beq_iff_eq] at h
    obtain ⟨⟨⟨⟨h1, h2⟩, h3⟩, h4⟩, _⟩ := h
    cases hu : P.underlying T with
    | none => rw [hu] at h4; cases t <;> simp [descOk] at h4
    | some d =>
      rw [hu] at h4
      refine ⟨i, d, hi, h1, h2, ?_, rfl, ?_⟩
      · cases hz : i.zero with
        | none => rw [hz] at h3; simp [zeroOk] at h3
        | some z => rw [hz] at h3; exact ⟨z, rfl, h3⟩
      · cases t <;> cases d <;> simp [descOk] at h4 <;> simp [DescC, h4]
theorem ty_agg {ts : List CT} (hv : ti.vt = .one (.agg ts)) : ∃ i fields cs, P.info? T = some i ∧ i.size = ts.length ∧ i.bytes = ti.bytes ∧ i.zero = some (.agg cs) ∧ zerosV ts cs.toList = true ∧ P.underlying T = some (.struct fields) ∧ fieldsOk tb ti.fs fields.toList = true := by
  have h := tb_get_ok hcx hg
  simp only [tiOk, hv] at h
  split at h
  · simp at h
  · rename_i i hi
    simp only [Bool.and_eq_true, beq_iff_eq] at h
    obtain ⟨⟨⟨⟨h1, h2⟩, h3⟩, h4⟩, _⟩ := h
    cases hu : P.underlying T with
    | none => rw [hu] at h4; simp [descOk] at h4
    | some d =>
      rw [hu] at h4
      cases d <;> simp [descOk] at h4
      rename_i fields
      cases hz : i.zero with
      | none => rw [hz] at h3; simp [zeroOk] at h3
      | some z =>
        rw [hz] at h3
        cases z <;> simp [zeroOk] at h3
        rename_i cs
        exact ⟨i, fields, cs, hi, h1, h2, hz, h3, rfl, h4⟩
theorem ty_arr {n : Nat} {t : CT} (ha : arrOf tb ti = some (n, t)) : ∃ e ei i, P.underlying T = some (.array n e) ∧ tb.get e = some ei ∧ ei.vt = .one (.c t) ∧ P.info? T = some i ∧ i.size = n := by
  have h := tb_get_ok hcx hg
  unfold arrOf at ha
  split at ha
  · rename_i vs n' e hv hfs
    split at ha
    · rename_i ei hei
      split at ha
      · rename_i t' hvt
        simp at ha
        obtain ⟨rfl, rfl⟩ := ha
        simp only [tiOk, hv, hfs, Bool.and_eq_true] at h
        obtain ⟨h1, h2⟩ := h
        split at h1
        · rename_i n2 e2 hu
          simp only [Bool.and_eq_true] at h1
          have q1 := Nat.eq_of_beq_eq_true h1.1
          have q2 := Nat.eq_of_beq_eq_true h1.2
          subst q1 q2
          split at h2
          · rename_i i hi
            exact ⟨_, ei, i, hu, hei, hvt, hi, Nat.eq_of_beq_eq_true h2⟩
          · simp at h2
        · simp at h1
      · simp at ha
    · simp at ha
  · simp at ha
theorem ty_one {v : V1} (hv : ti.vt = .one v) : ∃ i, P.info? T = some i ∧ i.size = v.cells.length ∧ i.bytes = ti.bytes := by
  cases v with
  | c t => obtain ⟨i, d, h1, h2, h3, _⟩ := ty_c hcx hg hv; exact ⟨i, h1, h2, h3⟩
  | agg ts => obtain ⟨i, f, c, h1, h2, h3, _⟩ := ty_agg hcx hg hv; exact ⟨i, h1, h2, h3⟩
end
section
variable {P : Program} {w : World}
theorem run_typeInfo {T : Nat} {i : TypeInfo} (h : P.info? T = some i) : (typeInfo T).run P w = .ok i w := by simp [typeInfo, h]
theorem run_sizeOf {T : Nat} {i : TypeInfo} (h : P.info? T = some i) : (sizeOf T).run P w = .ok i.size w := by simp [sizeOf, run_typeInfo h]
theorem run_underlying {T : Nat} {d : TypeDesc} (h : P.underlying T = some d) : (underlying T).run P w = .ok d w := by simp [underlying, h]
theorem run_isAgg_c {T : Nat} {d : TypeDesc} {t : CT} (h : P.underlying T = some d) (hd : DescC t d) : (isAgg T).run P w = .ok false w := by
  cases t <;> simp [DescC] at hd <;> subst hd <;> simp [isAgg, run_underlying h]
theorem run_isAgg_s {T : Nat} {f : Array Field} (h : P.underlying T = some (.struct f)) : (isAgg T).run P w = .ok true w := by simp [isAgg, run_underlying h]
theorem run_load_at {a : Addr} {v : Value} (h : w.cell? a = some v) : (load a).run P w = .ok v w := by simp [h]
theorem run_loadVar_c {T : Nat} {d : TypeDesc} {t : CT} (h : P.underlying T = some d) (hd : DescC t d) {a : Addr} {v : Value} (hc : w.cell? a = some v) : (loadVar T a).run P w = .ok v w := by
  simp [loadVar, run_isAgg_c h hd, hc]
theorem addr_add (b o j : Nat) : (⟨b, o, none⟩ : Addr).add j = ⟨b, o + j, none⟩ := by unfold Addr.add; by_cases h : j = 0 <;> simp [h]
theorem run_loadVar_s {T : Nat} {f : Array Field} (h : P.underlying T = some (.struct f)) {i : TypeInfo} (hi : P.info? T = some i) {b o : Nat} {vs : List Value} (hl : vs.length = i.size)
    (hc : ∀ j u, vs[j]? = some u → w.cell? ⟨b, o + j, none⟩ = some u) : (loadVar T ⟨b, o, none⟩).run P w = .ok (.agg vs.toArray) w := by
  have h1 := run_loadCells_list (P := P) (w := w) ⟨b, o, none⟩ vs (fun j u hu => by rw [addr_add]; exact hc j u hu)
  rw [hl] at h1
  simp [loadVar, run_isAgg_s h, run_sizeOf hi, h1]

theorem run_isAgg_a {T n e : Nat} (h : P.underlying T = some (.array n e)) : (isAgg T).run P w = .ok true w := by simp [isAgg, run_underlying h]
theorem run_loadVar_a {T n e : Nat} (h : P.underlying T = some (.array n e)) {i : TypeInfo} (hi : P.info? T = some i) {b o : Nat} {vs : List Value} (hl : vs.length = i.size)
    (hc : ∀ j u, vs[j]? = some u → w.cell? ⟨b, o + j, none⟩ = some u) : (loadVar T ⟨b, o, none⟩).run P w = .ok (.agg vs.toArray) w := by
  have h1 := run_loadCells_list (P := P) (w := w) ⟨b, o, none⟩ vs (fun j u hu => by rw [addr_add]; exact hc j u hu)
  rw [hl] at h1
  simp [loadVar, run_isAgg_a h, run_sizeOf hi, h1]
/-- The array after a row of stores. -/
def setAllA (cs : Array Value) (off : Nat) : List Value → Array Value
  | [] => cs
  | x :: r => setAllA (cs.setIfInBounds off x) (off + 1) r
theorem setAllA_toList : ∀ (l : List Value) (cs : Array Value) (off : Nat), (setAllA cs off l).toList = setAll cs.toList off l
  | [], _, _ => rfl
  | x :: r, cs, off => by simp [setAllA, setAll, setAllA_toList r]
theorem size_setAllA : ∀ (l : List Value) (cs : Array Value) (off : Nat), (setAllA cs off l).size = cs.size
  | [], _, _ => rfl
  | x :: r, cs, off => by simp [setAllA, size_setAllA r]
/-- Only one block has turned. -/
structure OneBlock (w w' : World) (g : Nat) : Prop where
  os : w'.os = w.os
  tape : w'.tape = w.tape
  output : w'.output = w.output
  size : w'.heap.size = w.heap.size
  block : ∀ k, k ≠ g → w'.heap[k]? = w.heap[k]?
theorem OneBlock.refl (w : World) (g : Nat) : OneBlock w w g := ⟨rfl, rfl, rfl, rfl, fun _ _ => rfl⟩
theorem OneBlock.set {w w' : World} {g : Nat} (h : OneBlock w w' g) (o : Nat) (v : Value) : OneBlock w (w'.setCell ⟨g, o, none⟩ v) g :=
  ⟨h.os, h.tape, h.output, by simpa using h.size, fun k hk => (heap_setCell_other w' ⟨g, o, none⟩ k v hk).trans (h.block k hk)⟩
theorem run_storeCells (g : Nat) (T : TypeId) : ∀ (vs : List Value) (w : World) (C : Array Value) (o i : Nat), w.heap[g]? = some (.cells C T (0, 0)) → (∀ v ∈ vs, v.oneCell' = true) → o + i + vs.length ≤ C.size →
    ∃ w', (storeCells ⟨g, o, none⟩ vs i).run P w = .ok () w' ∧ w'.heap[g]? = some (.cells (setAllA C (o + i) vs) T (0, 0)) ∧ OneBlock w w' g
  | [], w, C, o, i, hg, _, _ => ⟨w, by simp [storeCells], hg, OneBlock.refl _ _⟩
  | v :: r, w, C, o, i, hg, hv, hl => by
    simp only [List.length_cons] at hl
    have hlt : o + i < C.size := by omega
    have hcell : w.cell? ⟨g, o + i, none⟩ = some C[o + i] := by rw [cell_of_row w g (o + i) C T (0, 0) hg]; exact Array.getElem?_eq_getElem hlt
    have hfz := frozen_of_row w g (o + i) C T hg
    have hset := heap_setCell_same w g (o + i) C T v hg
    obtain ⟨w', h1, h2, h3⟩ := run_storeCells g T r (w.setCell ⟨g, o + i, none⟩ v) (C.setIfInBounds (o + i) v) o (i + 1) hset (fun x hx => hv x (by simp [hx])) (by simp; omega)
    refine ⟨w', ?_, ?_, ?_⟩
    · simp only [storeCells, Sem.run_bind, addr_add, run_store P w _ v .plain (hv v (by simp)), hcell, hfz]
      simpa using h1
    · simpa [setAllA, Nat.add_assoc] using h2
    · exact ⟨h3.os, h3.tape, h3.output, by simpa using h3.size, fun k hk => (h3.block k hk).trans (heap_setCell_other w ⟨g, o + i, none⟩ k v hk)⟩
end
end Go.Proofs.YtgaeigomhhbkfaaGreat
