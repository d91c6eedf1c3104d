/- What single operations of the machine do, at types of which a table tells enough. No program in sight. -/
import Derived.Test.YtimickglpboilaaGreatN0
import Derived.Laws.Rows
import Derived.Laws.Cells
set_option linter.unusedVariables false
set_option linter.unusedSimpArgs false
set_option linter.unusedSectionVars false
namespace Go.Proofs.YtimickglpboilaaGreat
open Go.RowKit
theorem tb_get_ok {P : Program} {tb0 : TB} : ∀ {tb : TB}, tbOk P tb0 tb = true → ∀ {T : Nat} {ti : TI}, tb.get T = some ti → tiOk P tb0 T ti = true
 | [], _, T, ti, h => by simp [TB.get] at h
 | (t, i) :: r, hk, T, ti, h => by
  simp [tbOk] at hk
  simp only [TB.get] at h
  cases e : Nat.beq t T with
  | true =>
   rw [e] at h; simp only [cond_true, Option.some.injEq] at h; subst h
   have : t = T := Nat.eq_of_beq_eq_true e
   subst this; exact hk.1
  | false => rw [e] at h; exact tb_get_ok hk.2 h
def DescC : CT → TypeDesc → Prop
 | .bool, d => d = .bool
 | .int k, d => d = .int k
 | .str, d => d = .string
 | .sl e, d => d = .slice e
 | .mem, _ => False
 | .fn, _ => False
section
variable {P : Program} {tb : TB} (hcx : tbOk P tb tb = true) {T : Nat} {ti : TI} (hg : tb.get T = some ti)
include hcx hg
theorem ty_c {t : CT} (hv : ti.vt = .one (.c t)) : ∃ i d, P.info? T = some i ∧ i.size = 1 ∧ i.bytes = ti.bytes ∧ (∃ z, i.zero = some z ∧ zeroV t z = true) ∧ P.underlying T = some d ∧ DescC t d := by
 have h := tb_get_ok hcx hg
 simp only [tiOk, hv] at h
 split at h
 ·simp at h
 ·rename_i i hi
  simp only [Bool.and_eq_true, beq_iff_eq] at h
  obtain ⟨⟨⟨⟨h1, h2⟩, h3⟩, h4⟩, _⟩ := h
  cases hu : P.underlying T with
  | none => rw [hu] at h4; cases t <;> simp [descOk] at h4
  | some d =>
   rw [hu] at h4
   refine ⟨i, d, hi, h1, h2, ?_, rfl, ?_⟩
   ·cases hz : i.zero with
    | none => rw [hz] at h3; simp [zeroOk] at h3
    | some z => rw [hz] at h3; exact ⟨z, rfl, h3⟩
   ·cases t <;> cases d <;> simp [descOk] at h4 <;> simp [DescC, h4]
theorem ty_agg {ts : List CT} (hv : ti.vt = .one (.agg ts)) : ∃ i fields cs, P.info? T = some i ∧ i.size = ts.length ∧ i.bytes = ti.bytes ∧ i.zero = some (.agg cs) ∧ zerosV ts cs.toList = true ∧ P.underlying T = some (.struct fields) ∧ fieldsOk tb ti.fs fields.toList = true := by
 have h := tb_get_ok hcx hg
 simp only [tiOk, hv] at h
 split at h
 ·simp at h
 ·rename_i i hi
  simp only [Bool.and_eq_true, beq_iff_eq] at h
  obtain ⟨⟨⟨⟨h1, h2⟩, h3⟩, h4⟩, _⟩ := h
  cases hu : P.underlying T with
  | none => rw [hu] at h4; simp [descOk] at h4
  | some d =>
   rw [hu] at h4
   cases d <;> simp [descOk] at h4
   rename_i fields
   cases hz : i.zero with
   | none => rw [hz] at h3; simp [zeroOk] at h3
   | some z =>
    rw [hz] at h3
    cases z <;> simp [zeroOk] at h3
    rename_i cs
    exact ⟨i, fields, cs, hi, h1, h2, hz, h3, rfl, h4⟩
theorem ty_arr {n : Nat} {t : CT} (ha : arrOf tb ti = some (n, t)) : ∃ e ei i, P.underlying T = some (.array n e) ∧ tb.get e = some ei ∧ ei.vt = .one (.c t) ∧ P.info? T = some i ∧ i.size = n := by
 have h := tb_get_ok hcx hg
 unfold arrOf at ha
 split at ha
 ·rename_i vs n' e hv hfs
  split at ha
  ·rename_i ei hei
   split at ha
   ·rename_i t' hvt
    simp at ha
    obtain ⟨rfl, rfl⟩ := ha
    simp only [tiOk, hv, hfs, Bool.and_eq_true] at h
    obtain ⟨h1, h2⟩ := h
    split at h1
    ·rename_i n2 e2 hu
     simp only [Bool.and_eq_true] at h1
     have q1 := Nat.eq_of_beq_eq_true h1.1
     have q2 := Nat.eq_of_beq_eq_true h1.2
     subst q1 q2
     split at h2
     ·rename_i i hi
      exact ⟨_, ei, i, hu, hei, hvt, hi, Nat.eq_of_beq_eq_true h2⟩
     ·simp at h2
    ·simp at h1
   ·simp at ha
  ·simp at ha
 ·simp at ha
theorem ty_one {v : V1} (hv : ti.vt = .one v) : ∃ i, P.info? T = some i ∧ i.size = v.cells.length ∧ i.bytes = ti.bytes := by
 cases v with
 | c t => obtain ⟨i, d, h1, h2, h3, _⟩ := ty_c hcx hg hv; exact ⟨i, h1, h2, h3⟩
 | agg ts => obtain ⟨i, f, c, h1, h2, h3, _⟩ := ty_agg hcx hg hv; exact ⟨i, h1, h2, h3⟩
end
section
variable {P : Program} {w : World}
theorem run_typeInfo {T : Nat} {i : TypeInfo} (h : P.info? T = some i) : (typeInfo T).run P w = .ok i w := by simp [typeInfo, h]
theorem run_sizeOf {T : Nat} {i : TypeInfo} (h : P.info? T = some i) : (sizeOf T).run P w = .ok i.size w := by simp [sizeOf, run_typeInfo h]
theorem run_underlying {T : Nat} {d : TypeDesc} (h : P.underlying T = some d) : (underlying T).run P w = .ok d w := by simp [underlying, h]
theorem run_isAgg_c {T : Nat} {d : TypeDesc} {t : CT} (h : P.underlying T = some d) (hd : DescC t d) : (isAgg T).run P w = .ok false w := by
 cases t <;> simp [DescC] at hd <;> subst hd <;> simp [isAgg, run_underlying h]
theorem run_isAgg_s {T : Nat} {f : Array Field} (h : P.underlying T = some (.struct f)) : (isAgg T).run P w = .ok true w := by simp [isAgg, run_underlying h]
theorem run_loadVar_c {T : Nat} {d : TypeDesc} {t : CT} (h : P.underlying T = some d) (hd : DescC t d) {a : Addr} {v : Value} (hc : w.cell? a = some v) : (loadVar T a).run P w = .ok v w := by
 simp [loadVar, run_isAgg_c h hd, hc]
theorem addr_add (b o j : Nat) : (⟨b, o, none⟩ : Addr).add j = ⟨b, o + j, none⟩ := by unfold Addr.add; by_cases h : j = 0 <;> simp [h]
theorem run_loadVar_s {T : Nat} {f : Array Field} (h : P.underlying T = some (.struct f)) {i : TypeInfo} (hi : P.info? T = some i) {b o : Nat} {vs : List Value} (hl : vs.length = i.size)
  (hc : ∀ j u, vs[j]? = some u → w.cell? ⟨b, o + j, none⟩ = some u) : (loadVar T ⟨b, o, none⟩).run P w = .ok (.agg vs.toArray) w := by
 have h1 := run_loadCells_list (P := P) (w := w) ⟨b, o, none⟩ vs (fun j u hu => by rw [addr_add]; exact hc j u hu)
 rw [hl] at h1
 simp [loadVar, run_isAgg_s h, run_sizeOf hi, h1]
theorem run_isAgg_a {T n e : Nat} (h : P.underlying T = some (.array n e)) : (isAgg T).run P w = .ok true w := by simp [isAgg, run_underlying h]
theorem run_loadVar_a {T n e : Nat} (h : P.underlying T = some (.array n e)) {i : TypeInfo} (hi : P.info? T = some i) {b o : Nat} {vs : List Value} (hl : vs.length = i.size)
  (hc : ∀ j u, vs[j]? = some u → w.cell? ⟨b, o + j, none⟩ = some u) : (loadVar T ⟨b, o, none⟩).run P w = .ok (.agg vs.toArray) w := by
 have h1 := run_loadCells_list (P := P) (w := w) ⟨b, o, none⟩ vs (fun j u hu => by rw [addr_add]; exact hc j u hu)
 rw [hl] at h1
 simp [loadVar, run_isAgg_a h, run_sizeOf hi, h1]
def setAllA (cs : Array Value) (off : Nat) : List Value → Array Value
 | [] => cs
 | x :: r => setAllA (cs.setIfInBounds off x) (off + 1) r
theorem setAllA_toList : ∀ (l : List Value) (cs : Array Value) (off : Nat), (setAllA cs off l).toList = setAll cs.toList off l
 | [], _, _ => rfl
 | x :: r, cs, off => by simp [setAllA, setAll, setAllA_toList r]
theorem size_setAllA : ∀ (l : List Value) (cs : Array Value) (off : Nat), (setAllA cs off l).size = cs.size
 | [], _, _ => rfl
 | x :: r, cs, off => by simp [setAllA, size_setAllA r]
structure OneBlock (w w' : World) (g : Nat) : Prop where
 os : w'.os = w.os
 tape : w'.tape = w.tape
 output : w'.output = w.output
 size : w'.heap.size = w.heap.size
 block : ∀ k, k ≠ g → w'.heap[k]? = w.heap[k]?
theorem OneBlock.refl (w : World) (g : Nat) : OneBlock w w g := ⟨rfl, rfl, rfl, rfl, fun _ _ => rfl⟩
theorem run_storeCells (g : Nat) (T : TypeId) : ∀ (vs : List Value) (w : World) (C : Array Value) (o i : Nat), w.heap[g]? = some (.cells C T (0, 0)) → (∀ v ∈ vs, v.oneCell' = true) → o + i + vs.length ≤ C.size →
  ∃ w', (storeCells ⟨g, o, none⟩ vs i).run P w = .ok () w' ∧ w'.heap[g]? = some (.cells (setAllA C (o + i) vs) T (0, 0)) ∧ OneBlock w w' g
 | [], w, C, o, i, hg, _, _ => ⟨w, by simp [storeCells], hg, OneBlock.refl _ _⟩
 | v :: r, w, C, o, i, hg, hv, hl => by
  simp only [List.length_cons] at hl
  have hlt : o + i < C.size := by omega
  have hcell : w.cell? ⟨g, o + i, none⟩ = some C[o + i] := by rw [cell_of_row w g (o + i) C T (0, 0) hg]; exact Array.getElem?_eq_getElem hlt
  have hfz := frozen_of_row w g (o + i) C T hg
  have hset := heap_setCell_same w g (o + i) C T v hg
  obtain ⟨w', h1, h2, h3⟩ := run_storeCells g T r (w.setCell ⟨g, o + i, none⟩ v) (C.setIfInBounds (o + i) v) o (i + 1) hset (fun x hx => hv x (by simp [hx])) (by simp; omega)
  refine ⟨w', ?_, ?_, ?_⟩
  ·simp only [storeCells, Sem.run_bind, addr_add, run_store P w _ v .plain (hv v (by simp)), hcell, hfz]
   simpa using h1
  ·simpa [setAllA, Nat.add_assoc] using h2
  ·exact ⟨h3.os, h3.tape, h3.output, by simpa using h3.size, fun k hk => (h3.block k hk).trans (heap_setCell_other w ⟨g, o + i, none⟩ k v hk)⟩
end
end Go.Proofs.YtimickglpboilaaGreat
/- When a state of expressions tells the truth of a frame and a world; and how single steps keep that. No program in sight. -/
namespace Go.Proofs.YtimickglpboilaaGreat
open Go.RowKit
variable [GC]
def upd {α : Type} (σ : Nat → α) (l : Nat) (s : α) : Nat → α := fun x => if x = l then s else σ x
theorem upd_same {α : Type} (σ : Nat → α) (l : Nat) (s : α) : upd σ l s l = s := by simp [upd]
theorem upd_ne {α : Type} (σ : Nat → α) {l x : Nat} (s : α) (h : x ≠ l) : upd σ l s x = σ x := by simp [upd, h]
def updL (σ : Nat → ST) : List (Nat × ST) → Nat → ST
  | [] => σ
  | (l, s) :: r => updL (upd σ l s) r
theorem Sg.get_cons (l : Nat) (s : ST) (q : Sg) : Sg.get ((l, s) :: q) = upd (Sg.get q) l s := by
  funext x
  simp only [Sg.get, upd]
  cases e : Nat.beq l x with
  | true => simp [Nat.eq_of_beq_eq_true e]
  | false =>
    have : x ≠ l := fun h => by rw [h] at e; simp at e
    simp [this]
theorem Sg.get_rev : ∀ (wr : List (Nat × ST)) (q : Sg), Sg.get (wr.reverse ++ q) = updL (Sg.get q) wr
  | [], q => rfl
  | (l, s) :: r, q => by
    rw [List.reverse_cons, List.append_assoc, List.singleton_append, Sg.get_rev r, Sg.get_cons]; rfl
structure Fr (B : Nat) (X : Option Nat) (w w' : World) : Prop where
  os : w'.os = w.os
  tape : w'.tape = w.tape
  output : w'.output = w.output
  size : w.heap.size ≤ w'.heap.size
  block : ∀ k, k < B → some k ≠ X → w'.heap[k]? = w.heap[k]?
theorem Fr.refl (B : Nat) (X : Option Nat) (w : World) : Fr B X w w := ⟨rfl, rfl, rfl, Nat.le_refl _, fun _ _ _ => rfl⟩
theorem Fr.trans {B : Nat} {X : Option Nat} {a b c : World} (h : Fr B X a b) (k : Fr B X b c) : Fr B X a c :=
  ⟨k.os.trans h.os, k.tape.trans h.tape, k.output.trans h.output, Nat.le_trans h.size k.size, fun i hi hx => (k.block i hi hx).trans (h.block i hi hx)⟩
theorem Fr.of_below {B B' : Nat} {X : Option Nat} {a b : World} (h : Below B' a b) (hB : B ≤ B') : Fr B X a b := ⟨h.os, h.tape, h.output, h.size, fun k hk _ => h.block k (by omega)⟩
theorem Fr.of_one {B : Nat} {X : Option Nat} {a b : World} {g : Nat} (h : OneBlock a b g) (hg : B ≤ g ∨ X = some g) : Fr B X a b :=
  ⟨h.os, h.tape, h.output, Nat.le_of_eq h.size.symm, fun k hk hx => h.block k (by rintro rfl; rcases hg with hg | hg; omega; exact hx hg.symm)⟩
theorem Fr.to_below {B : Nat} {a b : World} (h : Fr B none a b) : Below B a b := ⟨h.os, h.tape, h.output, h.size, fun k hk => h.block k hk (by simp)⟩
def gsH (env : List D) (gs : Gd) : Prop := ∀ x ∈ gs, x.1.den env = .bool x.2
theorem gsH_nil (env : List D) : gsH env [] := by simp [gsH]
theorem gsH_sub {env : List D} {g gs : Gd} (h : gdIn g gs = true) (hh : gsH env gs) : gsH env g := by
  intro x hx
  have := List.all_eq_true.1 h x hx
  exact hh x (by simpa using this)
theorem gsH_snoc {env : List D} {gs : Gd} {c : E} {b : Bool} : gsH env (gs ++ [(c, b)]) ↔ gsH env gs ∧ c.den env = .bool b := by
  unfold gsH
  constructor
  · intro h; exact ⟨fun x hx => h x (by simp [hx]), h (c, b) (by simp)⟩
  · rintro ⟨h1, h2⟩ x hx
    rcases List.mem_append.1 hx with h | h
    · exact h1 x h
    · simp at h; subst h; exact h2
def spareIn (v : Value) (n : Nat) (p : Addr) : Prop := ∃ b o s len cap, v = .slice (some ⟨b, o, s⟩) len cap ∧ p.block = b ∧ o + len * n ≤ p.off ∧ p.off < o + cap * n
def ownIn (v : Value) (n : LV) (p : Addr) : Prop := ∃ b o s len cap, v = .slice (some ⟨b, o, s⟩) len cap ∧ p.block = b ∧ 0 < cap ∧ (n.body = none → o + len * n.n ≤ p.off ∧ p.off < o + cap * n.n)
theorem spare_lt {v : Value} {n : Nat} {p : Addr} (h : spareIn v n p) : ∃ o s len cap, v = .slice (some ⟨p.block, o, s⟩) len cap ∧ 0 < cap := by
  obtain ⟨b, o, s, len, cap, h1, h2, h3, h4⟩ := h
  refine ⟨o, s, len, cap, by rw [h2]; exact h1, ?_⟩
  rcases Nat.lt_or_ge 0 cap with h | h
  · exact h
  · have e : cap = 0 := by omega
    subst e; omega
def OutB (v : Value) (b : Nat) : Prop := ∃ o s len cap, v = .slice (some ⟨b, o, s⟩) len cap ∧ 0 < cap
def ownA (tm : Nat → Value) (g : Nat) (n : LV) (p : Addr) : Prop := ownIn (tm g) n p ∨ ∃ e gv ms cells u, n.body = some (e, some (gv, ms)) ∧ tm gv = .tuple cells ∧ u ∈ cells.toList ∧ OutB u p.block
def Blk (tm : Nat → Value) (g : Nat) (n : LV) (b : Nat) : Prop := OutB (tm g) b ∨ ∃ e gv ms cells u, n.body = some (e, some (gv, ms)) ∧ tm gv = .tuple cells ∧ u ∈ cells.toList ∧ OutB u b
theorem ownA_of {tm : Nat → Value} {g : Nat} {n : LV} {p : Addr} (h : spareIn (tm g) n.n p) : ownA tm g n p := by
  obtain ⟨o', s', len', cap', e, hc⟩ := spare_lt h
  obtain ⟨b, o, s, len, cap, h1, h2, h3, h4⟩ := h
  rw [h1] at e
  simp only [Value.slice.injEq] at e
  exact .inl ⟨b, o, s, len, cap, h1, h2, by omega, fun _ => ⟨h3, h4⟩⟩
theorem ownA_none {tm : Nat → Value} {g n : Nat} {p : Addr} (h : ownA tm g ⟨n, none⟩ p) : spareIn (tm g) n p := by
  rcases h with ⟨b, o, s, len, cap, h1, h2, h3, h4⟩ | ⟨e, gv, ms, cells, u, h, _⟩
  · exact ⟨b, o, s, len, cap, h1, h2, (h4 rfl).1, (h4 rfl).2⟩
  · cases h
theorem ownA_blk {tm : Nat → Value} {g : Nat} {n : LV} {p : Addr} (h : ownA tm g n p) : Blk tm g n p.block := by
  rcases h with ⟨b, o, s, len, cap, h1, h2, h3, h4⟩ | h
  · subst h2; exact .inl ⟨o, s, len, cap, h1, h3⟩
  · exact .inr h
theorem ownA_body {tm : Nat → Value} {g : Nat} {n : LV} {p : Addr} (hb : n.body ≠ none) (h : Blk tm g n p.block) : ownA tm g n p := by
  rcases h with ⟨o, s, len, cap, h1, h3⟩ | h
  · exact .inl ⟨_, o, s, len, cap, h1, rfl, h3, fun h => absurd h hb⟩
  · exact .inr h
theorem Blk_none {tm : Nat → Value} {g n b : Nat} (h : Blk tm g ⟨n, none⟩ b) : OutB (tm g) b := by
  rcases h with h | ⟨e, gv, ms, cells, u, h, _⟩
  · exact h
  · cases h
def MM (M0 : Addr → Prop) (bm : Nat → Nat) (tm : Nat → Value) (σ : Nat → ST) : Addr → Prop :=
  fun p => M0 p ∨ (∃ id cs, σ (3 * id + 1) = .box cs ∧ p.block = bm id) ∨ (∃ g n, σ (3 * g + 2) = .live n ∧ ownA tm g n p)
def flat1 : Value → List Value
  | .agg cs => cs.toList
  | v => [v]
def flatV : Value → List Value
  | .tuple vs => vs.toList.flatMap flat1
  | v => flat1 v
def kkOk (tm : Nat → Value) : KK → Value → Prop
  | .d, _ => True
  | .own g, u => u = tm g
  | .full, u => ∃ a, u = .slice a 0 0
def K.has : K → Nat → Prop
  | .own g, x => x = g
  | .ag ks, x => KK.own x ∈ ks
  | _, _ => False
def relK (w : World) (M : Addr → Prop) (tm : Nat → Value) (env : List D) : K → E → Value → Prop
  | .d, e, v => R w M (e.den env) v
  | .own g, e, v => R w M (e.den env) v ∧ v = tm g
  | .full, e, v => R w M (e.den env) v ∧ ∃ a, v = .slice a 0 0
  | .ag ks, e, v => R w M (e.den env) v ∧ ∀ (j : Nat) (kk : KK) (u : Value), ks[j]? = some kk → (flatV v)[j]? = some u → kkOk tm kk u
theorem relK.rd {w : World} {M : Addr → Prop} {tm : Nat → Value} {env : List D} {k : K} {e : E} {v : Value} (h : relK w M tm env k e v) : R w M (e.den env) v := by
  cases k <;> simp only [relK] at h <;> first | exact h | exact h.1
def GlobIs (g : Nat) (d : D) : Prop := ∀ w, GInv w → ∃ cs t f, w.heap[g]? = some (.cells cs t f) ∧ ∀ (w' : World) (M : Addr → Prop), Rs w' M d.toA cs.toList
def IxOk (env : List D) : Option (Gd × E × Nat) → Prop
  | none => True
  | some (gs, e, n) => gsH env gs → 0 ≤ (e.den env).toI ∧ (e.den env).toI < n
def relT (w : World) (M : Addr → Prop) (bm : Nat → Nat) (tm : Nat → Value) (env : List D) : ST → Value → Prop
  | .v gs k e, v => (gsH env gs → relK w M tm env k e v) ∧ (¬ gsH env gs → v = undef)
  | .ptr gs id off, v => (gsH env gs → v = .pointer (some ⟨bm id, off, none⟩)) ∧ (¬ gsH env gs → v = undef)
  | .ro gs e off, v => (gsH env gs → ∃ b o, v = .pointer (some ⟨b, o, none⟩) ∧ Rw w M ((e.den env).toA.drop off) b o) ∧ (¬ gsH env gs → v = undef)
  | .mp gs g n i off, v => (gsH env gs → ∃ b o len cap, tm g = .slice (some ⟨b, o, none⟩) len cap ∧ 0 ≤ (i.den env).toI ∧ (i.den env).toI.toNat < len ∧ v = .pointer (some ⟨b, o + (i.den env).toI.toNat * n + off, none⟩)) ∧ (¬ gsH env gs → v = undef)
  | .iv gs g gv n i off l, v => (gsH env gs → (∃ a L cap, tm g = .slice a L cap ∧ 0 ≤ (i.den env).toI ∧ (i.den env).toI.toNat < L) ∧ (∃ cells, tm gv = .tuple cells ∧ cells[(i.den env).toI.toNat * n + off]? = some v) ∧ R w M (.mem (l.den env).toI.toNat) v) ∧ (¬ gsH env gs → v = undef)
  | .ip gs g gv n i off j m o2, v => (gsH env gs → (∃ a L cap, tm g = .slice a L cap ∧ 0 ≤ (i.den env).toI ∧ (i.den env).toI.toNat < L) ∧ ∃ cells b o len cap, tm gv = .tuple cells ∧ cells[(i.den env).toI.toNat * n + off]? = some (.slice (some ⟨b, o, none⟩) len cap) ∧ 0 ≤ (j.den env).toI ∧ (j.den env).toI.toNat < len ∧ len ≤ cap ∧ v = .pointer (some ⟨b, o + (j.den env).toI.toNat * m + o2, none⟩)) ∧ (¬ gsH env gs → v = undef)
  | .gp gs g x i, v => (gsH env gs → v = .pointer (some ⟨g, (i.den env).toI.toNat, none⟩) ∧ GlobIs g (x.den env) ∧ (i.den env).toI.toNat < (x.den env).toA.length) ∧ (¬ gsH env gs → v = undef)
  | _, _ => True
def relCs (w : World) (M : Addr → Prop) (tm : Nat → Value) (env : List D) : List (K × E) → List Value → Prop
  | [], vs => vs = []
  | c :: r, vs => ∃ v q, vs = v :: q ∧ relK w M tm env c.1 c.2 v ∧ relCs w M tm env r q
def men : ST → Nat → Prop
  | .v _ k _, x => k.has x
  | .ptr _ id _, x => x = id
  | .mp _ g _ _ _, x => x = g
  | .iv _ g gv _ _ _ _, x => x = g ∨ x = gv
  | .ip _ g gv _ _ _ _ _ _, x => x = g ∨ x = gv
  | .live n, x => ∃ e ms, n.body = some (e, some (x, ms))
  | .box cs, x => ∃ c ∈ cs, c.1.has x
  | _, _ => False
section
variable {w w' : World} {M M' : Addr → Prop} {bm bm' : Nat → Nat} {tm tm' : Nat → Value} {env : List D}
theorem kkOk.keep {kk : KK} {u : Value} (hm : ∀ g, kk = .own g → tm' g = tm g) (h : kkOk tm kk u) : kkOk tm' kk u := by
  cases kk with
  | d => trivial
  | own g => simp only [kkOk] at *; rw [hm g rfl]; exact h
  | full => exact h
theorem relK.keep (hk : Keeps w M w' M') {k : K} {e : E} {v : Value} (hm : ∀ g, k.has g → tm' g = tm g) (h : relK w M tm env k e v) : relK w' M' tm' env k e v := by
  cases k with
  | d => exact R.keep hk _ _ h
  | own g => exact ⟨R.keep hk _ _ h.1, by rw [hm g rfl]; exact h.2⟩
  | full => exact ⟨R.keep hk _ _ h.1, h.2⟩
  | ag ks => exact ⟨R.keep hk _ _ h.1, fun j kk u h1 h2 => (h.2 j kk u h1 h2).keep fun g hg => hm g (by subst hg; exact List.mem_of_getElem? h1)⟩
theorem K.kk_k (kk : KK) : kk.k.kk = kk := by cases kk <;> rfl
theorem K.has_kk {k : K} {x : Nat} (h : k.kk = .own x) : k.has x := by
  cases k <;> simp [K.kk] at h
  subst h; rfl
theorem K.has_k {kk : KK} {x : Nat} (h : kk.k.has x) : kk = .own x := by
  cases kk with
  | own g => simp only [KK.k, K.has] at h; subst h; rfl
  | _ => exact h.elim
theorem K.has_nth {k : K} {j x : Nat} (h : (k.nth j).has x) : k.has x := by
  cases k with
  | ag ks =>
    simp only [K.nth, List.getD] at h
    have := K.has_k h
    cases hj : ks[j]? with
    | none => rw [hj] at this; simp at this
    | some kk => rw [hj] at this; simp at this; subst this; exact List.mem_of_getElem? hj
  | _ => exact h.elim
theorem K.has_pack {ks : List K} {x : Nat} (h : (packK ks).has x) : ∃ k ∈ ks, k.has x := by
  unfold packK at h
  cases hc : ks.all (fun k => decide (k.kk = .d)) with
  | true => rw [hc] at h; exact h.elim
  | false =>
    rw [hc] at h
    obtain ⟨k, hk, hx⟩ := List.mem_map.1 (show KK.own x ∈ ks.map K.kk from h)
    exact ⟨k, hk, K.has_kk hx⟩
theorem K.has_sub {k : K} {off x : Nat} {v : Option V1} (h : (subK k off v).has x) : k.has x := by
  rcases v with _ | t | ts
  · exact h.elim
  · exact K.has_nth h
  · obtain ⟨q, hq, hx⟩ := K.has_pack h
    obtain ⟨j, _, rfl⟩ := List.mem_map.1 hq
    exact K.has_nth hx
theorem relK.kk {k : K} {e : E} {v : Value} (h : relK w M tm env k e v) : kkOk tm k.kk v := by
  cases k with
  | d => trivial
  | own g => exact h.2
  | full => exact h.2
  | ag ks => trivial
theorem relK.nth {k : K} {e : E} {v u : Value} {j : Nat} (h : relK w M tm env k e v) (hu : (flatV v)[j]? = some u) : kkOk tm (k.nth j).kk u := by
  cases k with
  | ag ks =>
    simp only [K.nth, K.kk_k, List.getD]
    cases hj : ks[j]? with
    | none => trivial
    | some kk => exact h.2 j kk u hj hu
  | _ => trivial
theorem relK.of {kk : KK} {e : E} {v : Value} (hr : R w M (e.den env) v) (h : kkOk tm kk v) : relK w M tm env kk.k e v := by
  cases kk with
  | d => exact hr
  | own g => exact ⟨hr, h⟩
  | full => exact ⟨hr, h⟩
theorem K.nth_k (k : K) (j : Nat) : ∃ kk : KK, k.nth j = kk.k := by
  cases k with
  | ag ks => exact ⟨_, rfl⟩
  | _ => exact ⟨.d, rfl⟩
theorem relK.ofn {k : K} {j : Nat} {e : E} {v : Value} (hr : R w M (e.den env) v) (h : kkOk tm (k.nth j).kk v) : relK w M tm env (k.nth j) e v := by
  obtain ⟨kk, hk⟩ := K.nth_k k j
  rw [hk, K.kk_k] at h
  rw [hk]; exact relK.of hr h
theorem relK.pack {ks : List K} {e : E} {vs : List Value} (hr : R w M (e.den env) (.agg vs.toArray)) (h : ∀ (j : Nat) (k : K) (u : Value), ks[j]? = some k → vs[j]? = some u → kkOk tm k.kk u) : relK w M tm env (packK ks) e (.agg vs.toArray) := by
  unfold packK
  cases ks.all (fun k => decide (k.kk = .d)) with
  | true => exact hr
  | false =>
    refine ⟨hr, fun j kk u h1 h2 => ?_⟩
    simp only [List.getElem?_map, Option.map_eq_some_iff] at h1
    obtain ⟨k, h1, rfl⟩ := h1
    exact h j k u h1 (by simpa [flatV, flat1] using h2)
theorem relT.keep (hk : Keeps w M w' M') {st : ST} {v : Value} (hm : ∀ g, men st g → bm' g = bm g ∧ tm' g = tm g) (h : relT w M bm tm env st v) : relT w' M' bm' tm' env st v := by
  cases st with
  | un => trivial
  | v gs k e => exact ⟨fun hg => (h.1 hg).keep hk (fun g hkg => (hm g hkg).2), h.2⟩
  | ptr gs id off => exact ⟨fun hg => by rw [(hm id (by simp [men])).1]; exact h.1 hg, h.2⟩
  | ro gs e off =>
    refine ⟨fun hg => ?_, h.2⟩
    obtain ⟨b, o, h1, h2⟩ := h.1 hg
    exact ⟨b, o, h1, Rw.keep hk _ _ _ h2⟩
  | box cs => trivial
  | live n => trivial
  | gp gs g x i => exact h
  | mp gs g n i off => exact ⟨fun hg => by rw [(hm g (by simp [men])).2]; exact h.1 hg, h.2⟩
  | iv gs g gv n i off l => exact ⟨fun hg => by rw [(hm g (.inl rfl)).2, (hm gv (.inr rfl)).2]; exact h.1 hg, h.2⟩
  | ip gs g gv n i off j m o2 => exact ⟨fun hg => by rw [(hm g (.inl rfl)).2, (hm gv (.inr rfl)).2]; exact h.1 hg, h.2⟩
theorem relCs.keep (hk : Keeps w M w' M') : ∀ {cs : List (K × E)} {vs : List Value}, (∀ g, (∃ c ∈ cs, c.1.has g) → tm' g = tm g) → relCs w M tm env cs vs → relCs w' M' tm' env cs vs
  | [], _, _, h => h
  | c :: r, vs, hm, ⟨v, q, e, h1, h2⟩ => ⟨v, q, e, h1.keep hk (fun g hg => hm g ⟨c, by simp, hg⟩), relCs.keep hk (fun g ⟨x, hx, hg⟩ => hm g ⟨x, by simp [hx], hg⟩) h2⟩
theorem relCs.length : ∀ {cs : List (K × E)} {vs : List Value}, relCs w M tm env cs vs → vs.length = cs.length
  | [], _, h => by subst h; rfl
  | c :: r, vs, ⟨v, q, e, h1, h2⟩ => by subst e; simp [relCs.length h2]
theorem relCs.get : ∀ {cs : List (K × E)} {vs : List Value}, relCs w M tm env cs vs → ∀ {i : Nat} {c : K × E}, cs[i]? = some c → ∃ v, vs[i]? = some v ∧ relK w M tm env c.1 c.2 v
  | [], _, _, i, c, hc => by simp at hc
  | c :: r, vs, ⟨v, q, e, h1, h2⟩, 0, c', hc => by subst e; simp at hc; subst hc; exact ⟨v, rfl, h1⟩
  | c :: r, vs, ⟨v, q, e, h1, h2⟩, i + 1, c', hc => by subst e; simp at hc; obtain ⟨u, hu, hr⟩ := relCs.get h2 hc; exact ⟨u, by simpa using hu, hr⟩
theorem relCs.set : ∀ {cs : List (K × E)} {vs : List Value}, relCs w M tm env cs vs → ∀ (i : Nat) {c : K × E} {v : Value}, relK w M tm env c.1 c.2 v → relCs w M tm env (cs.set i c) (vs.set i v)
  | [], _, h, i, c, v, hc => by subst h; simp [relCs]
  | c :: r, vs, ⟨v, q, e, h1, h2⟩, 0, c', v', hc => by subst e; exact ⟨v', q, rfl, hc, h2⟩
  | c :: r, vs, ⟨v, q, e, h1, h2⟩, i + 1, c', v', hc => by subst e; exact ⟨v, q.set i v', rfl, h1, relCs.set h2 i hc⟩
theorem relCs.setAll : ∀ {ds : List (K × E)} {us : List Value}, relCs w M tm env ds us → ∀ {cs : List (K × E)} {vs : List Value} (i : Nat), relCs w M tm env cs vs → relCs w M tm env (setAll cs i ds) (setAll vs i us)
  | [], _, hd, cs, vs, i, h => by subst hd; exact h
  | d :: r, us, ⟨u, q, e, h1, h2⟩, cs, vs, i, h => by subst e; simp only [Go.Proofs.YtimickglpboilaaGreat.setAll]; exact relCs.setAll h2 (i + 1) (h.set i h1)
theorem relCs.drop : ∀ {cs : List (K × E)} {vs : List Value}, relCs w M tm env cs vs → ∀ n, relCs w M tm env (cs.drop n) (vs.drop n)
  | _, _, h, 0 => by simpa using h
  | [], _, h, n + 1 => by subst h; simp [relCs]
  | c :: r, vs, ⟨v, q, e, h1, h2⟩, n + 1 => by subst e; simpa using relCs.drop h2 n
theorem relCs.take : ∀ {cs : List (K × E)} {vs : List Value}, relCs w M tm env cs vs → ∀ n, relCs w M tm env (cs.take n) (vs.take n)
  | _, _, h, 0 => by simp [relCs]
  | [], _, h, n + 1 => by subst h; simp [relCs]
  | c :: r, vs, ⟨v, q, e, h1, h2⟩, n + 1 => by subst e; exact ⟨v, q.take n, by simp, h1, relCs.take h2 n⟩
theorem relCs.rs : ∀ {cs : List (K × E)} {vs : List Value}, relCs w M tm env cs vs → Rs w M ((cs.map (·.2)).map (·.den env)) vs
  | [], _, h => h
  | c :: r, vs, ⟨v, q, e, h1, h2⟩ => ⟨v, q, e, h1.rd, relCs.rs h2⟩
end
structure SC where
  w0 : World
  B : Nat
  X : Option Nat
  M0 : Addr → Prop
  nt : Nat
  env : List D
def GOk (c : SC) : Prop := GInv c.w0 ∧ NG ≤ c.B ∧ ∀ g, c.X = some g → NG ≤ g
def BoxOk (c : SC) (w : World) (M : Addr → Prop) (bm : Nat → Nat) (tm : Nat → Value) (id : Nat) (cs : List (K × E)) : Prop :=
  ∃ vs T, w.heap[bm id]? = some (.cells vs.toArray T (0, 0)) ∧ relCs w M tm c.env cs vs ∧ (c.B ≤ bm id ∨ (id = 0 ∧ c.X = some (bm id)))
def Leaf (d : D) (v : Value) : Prop := ∀ (w : World) (M : Addr → Prop), R w M d v
def RowsOk (w : World) (v : Value) (n : Nat) (Q : Nat → Nat → D → Value → Prop) (d : D) : Prop :=
  ∃ a len cap rows, v = .slice a len cap ∧ d = .sl rows ∧ len = rows.length ∧ len ≤ cap ∧ cap ≤ maxLen ∧ (a = none → cap = 0) ∧ (∀ r ∈ rows, r.length = n) ∧
    ∀ b o s, a = some ⟨b, o, s⟩ → (0 < len → s = none) ∧ ∀ i r, rows[i]? = some r → ∀ j d, r[j]? = some d → ∃ u, w.cell? ⟨b, o + i * n + j, none⟩ = some u ∧ Q i j d u
def SpOk (B : Nat) (w : World) (v : Value) (n : Nat) : Prop :=
  ∀ b o s len cap, v = .slice (some ⟨b, o, s⟩) len cap → 0 < cap → s = none ∧ B ≤ b ∧ ∃ cells T, w.heap[b]? = some (.cells cells T (0, 0)) ∧ o + cap * n ≤ cells.size
def LvQ (B : Nat) (w : World) (tm : Nat → Value) (n : Nat) : Option (Nat × List Nat) → Nat → Nat → D → Value → Prop
  | none => fun _ _ d u => Leaf d u
  | some (gv, ms) => fun i j d u => (ms.getD j 0 = 0 → Leaf d u) ∧ (ms.getD j 0 ≠ 0 → (∃ cells, tm gv = .tuple cells ∧ cells[i * n + j]? = some u) ∧ SpOk B w u (ms.getD j 0) ∧ RowsOk w u (ms.getD j 0) (fun _ _ d u => Leaf d u) d)
structure LiveOk (c : SC) (w : World) (tm : Nat → Value) (g : Nat) (n : LV) : Prop where
  sp : SpOk c.B w (tm g) n.n
  bd : ∀ e dp, n.body = some (e, dp) → RowsOk w (tm g) n.n (LvQ c.B w tm n.n dp) (e.den c.env)
  dp : ∀ e gv ms, n.body = some (e, some (gv, ms)) → ∃ cells, tm gv = .tuple cells ∧ (∀ u ∈ cells.toList, ∃ m, SpOk c.B w u m) ∧
    (∀ (k k' : Nat) (u u' : Value) (b : Nat), cells[k]? = some u → cells[k']? = some u' → k ≠ k' → OutB u b → ¬ OutB u' b) ∧ ∀ u ∈ cells.toList, ∀ b, OutB u b → ¬ OutB (tm g) b
theorem SpOk.keep {B : Nat} {w w' : World} {v : Value} {n : Nat} (h : SpOk B w v n) (hw : ∀ b, OutB v b → w'.heap[b]? = w.heap[b]?) : SpOk B w' v n := fun b o s len cap he hl => by
  obtain ⟨h1, h2, cells, T, h3, h4⟩ := h b o s len cap he hl
  exact ⟨h1, h2, cells, T, by rw [hw b ⟨o, s, len, cap, he, hl⟩]; exact h3, h4⟩
theorem RowsOk.keep {w w' : World} {v : Value} {n : Nat} {Q Q' : Nat → Nat → D → Value → Prop} {d : D} (h : RowsOk w v n Q d) (hw : ∀ b, OutB v b → w'.heap[b]? = w.heap[b]?) (hQ : ∀ i j d u, Q i j d u → Q' i j d u) : RowsOk w' v n Q' d := by
  obtain ⟨a, len, cap, rows, h1, h2, h3, h4, h5, h6, h7, h8⟩ := h
  refine ⟨a, len, cap, rows, h1, h2, h3, h4, h5, h6, h7, fun b o s ha => ⟨(h8 b o s ha).1, fun i r hi j d hj => ?_⟩⟩
  obtain ⟨u, hu, hl⟩ := (h8 b o s ha).2 i r hi j d hj
  refine ⟨u, ?_, hQ _ _ _ _ hl⟩
  have hlt := (List.getElem?_eq_some_iff.1 hi).1
  rw [← hu]
  exact World.cell?_of_block (hw b ⟨o, s, len, cap, by rw [h1, ha], by omega⟩)
theorem LvQ.keep {B : Nat} {w w' : World} {tm tm' : Nat → Value} {n : Nat} {dp : Option (Nat × List Nat)} (hv : ∀ gv ms, dp = some (gv, ms) → tm' gv = tm gv) (hw : ∀ gv ms cells u b, dp = some (gv, ms) → tm gv = .tuple cells → u ∈ cells.toList → OutB u b → w'.heap[b]? = w.heap[b]?) {i j : Nat} {d : D} {u : Value}
    (h : LvQ B w tm n dp i j d u) : LvQ B w' tm' n dp i j d u := by
  rcases dp with _ | ⟨gv, ms⟩
  · exact h
  · refine ⟨h.1, fun hm => ?_⟩
    obtain ⟨⟨cells, h1, h2⟩, h3, h4⟩ := h.2 hm
    have hb : ∀ b, OutB u b → w'.heap[b]? = w.heap[b]? := fun b => hw gv ms cells u b rfl h1 (by
      rw [← Array.getElem?_toList] at h2
      exact List.mem_of_getElem? h2)
    exact ⟨⟨cells, by rw [hv gv ms rfl]; exact h1, h2⟩, h3.keep hb, h4.keep hb fun _ _ _ _ h => h⟩
structure Sim (c : SC) (F : Nat → Prop) (σ : Nat → ST) (bm : Nat → Nat) (tm : Nat → Value) (a : Act) (w : World) : Prop where
  fr : Fr c.B c.X c.w0 w
  hB : c.B ≤ w.heap.size
  m0 : (∀ p, c.M0 p → p.block < c.B) ∧ GOk c
  tmps : ∀ t, relT w (MM c.M0 bm tm σ) bm tm c.env (σ (3 * t)) (a.tmps.getD t undef)
  box : ∀ id cs, σ (3 * id + 1) = .box cs → BoxOk c w (MM c.M0 bm tm σ) bm tm id cs
  live : ∀ g n, σ (3 * g + 2) = .live n → LiveOk c w tm g n
  dbb : ∀ id id' cs cs', σ (3 * id + 1) = .box cs → σ (3 * id' + 1) = .box cs' → id ≠ id' → bm id ≠ bm id'
  dbl : ∀ id cs g n b, σ (3 * id + 1) = .box cs → σ (3 * g + 2) = .live n → Blk tm g n b → bm id ≠ b
  dll : ∀ g n g' n' b b', σ (3 * g + 2) = .live n → σ (3 * g' + 2) = .live n' → g ≠ g' → Blk tm g n b → Blk tm g' n' b' → b ≠ b'
  f1 : ∀ l g, men (σ l) g → F g
  f2 : ∀ id cs, σ (3 * id + 1) = .box cs → F id
  f3 : ∀ g n, σ (3 * g + 2) = .live n → F g
  size : a.tmps.size = c.nt
  defers : a.defers = []
  x0 : ∀ g, c.X = some g → bm 0 = g ∧ F 0
section
variable {c : SC} {F F' : Nat → Prop} {σ σ' : Nat → ST} {bm bm' : Nat → Nat} {tm tm' : Nat → Value} {a : Act} {w w' : World}
theorem Sim.mono (hs : Sim c F σ bm tm a w) (h : ∀ g, F g → F' g) : Sim c F' σ bm tm a w :=
  { hs with f1 := fun l g hg => h g (hs.f1 l g hg), f2 := fun id cs hc => h id (hs.f2 id cs hc), f3 := fun g n hn => h g (hs.f3 g n hn), x0 := fun g hg => ⟨(hs.x0 g hg).1, h 0 (hs.x0 g hg).2⟩ }
theorem MM_congr {M0 : Addr → Prop} (h1 : ∀ id, σ' (3 * id + 1) = σ (3 * id + 1)) (h2 : ∀ g, σ' (3 * g + 2) = σ (3 * g + 2)) : MM M0 bm tm σ' = MM M0 bm tm σ := by
  funext p; simp only [MM, h1, h2]
theorem upd_t_box (d id : Nat) (s : ST) : upd σ (3 * d) s (3 * id + 1) = σ (3 * id + 1) := upd_ne _ _ (by omega)
theorem upd_t_live (d g : Nat) (s : ST) : upd σ (3 * d) s (3 * g + 2) = σ (3 * g + 2) := upd_ne _ _ (by omega)
theorem Act.put_getD {d : Nat} {v : Value} (hd : d < a.tmps.size) (t : Nat) : (a.put (some d) v).tmps.getD t undef = if t = d then v else a.tmps.getD t undef := by
  simp only [Act.put, Array.getD_eq_getD_getElem?, Array.getElem?_setIfInBounds]
  by_cases h : t = d
  · subst h; simp [hd]
  · simp [h, Ne.symm h]
theorem Sim.put (hs : Sim c F σ bm tm a w) {d : Nat} {st : ST} {v : Value} (hd : d < c.nt) (hr : relT w (MM c.M0 bm tm σ) bm tm c.env st v) (hm : ∀ g, men st g → F g) :
    Sim c F (upd σ (3 * d) st) bm tm (a.put (some d) v) w := by
  have hM : MM c.M0 bm tm (upd σ (3 * d) st) = MM c.M0 bm tm σ := MM_congr (fun id => upd_t_box _ _ _) (fun g => upd_t_live _ _ _)
  refine ⟨hs.fr, hs.hB, hs.m0, fun t => ?_, fun id cs h => ?_, fun g n h => ?_, ?_, ?_, ?_, fun l g h => ?_, fun id cs h => ?_, fun g n h => ?_, ?_, hs.defers, hs.x0⟩
  · rw [hM, Act.put_getD (by rw [hs.size]; exact hd)]
    by_cases e : t = d
    · subst e; rw [upd_same]; simpa using hr
    · rw [upd_ne _ _ (by omega)]; simpa [e] using hs.tmps t
  · rw [upd_t_box] at h; rw [hM]; exact hs.box id cs h
  · rw [upd_t_live] at h; exact hs.live g n h
  · simp only [upd_t_box]; exact hs.dbb
  · simp only [upd_t_box, upd_t_live]; exact hs.dbl
  · simp only [upd_t_live]; exact hs.dll
  · by_cases e : l = 3 * d
    · subst e; rw [upd_same] at h; exact hm g h
    · rw [upd_ne _ _ e] at h; exact hs.f1 l g h
  · rw [upd_t_box] at h; exact hs.f2 id cs h
  · rw [upd_t_live] at h; exact hs.f3 g n h
  · simp [Act.put, hs.size]
theorem Sim.putO (hs : Sim c F σ bm tm a w) {dst : Option Nat} {st : ST} {v : Value} (hd : ∀ d, dst = some d → d < c.nt) (hr : relT w (MM c.M0 bm tm σ) bm tm c.env st v) (hm : ∀ g, men st g → F g) :
    Sim c F (updL σ (wv dst st)) bm tm (a.put dst v) w := by
  cases dst with
  | none => exact hs
  | some d => exact hs.put (hd d rfl) hr hm
theorem Sim.turn (hs : Sim c F σ bm tm a w) (ht : ∀ t, σ' (3 * t) = σ (3 * t)) (hag : ∀ g, F g → bm' g = bm g ∧ tm' g = tm g) (hF : ∀ g, F g → F' g) (hfr : Fr c.B c.X w w')
    (hk : Keeps w (MM c.M0 bm tm σ) w' (MM c.M0 bm' tm' σ'))
    (hbox : ∀ id cs, σ' (3 * id + 1) = .box cs → BoxOk c w' (MM c.M0 bm' tm' σ') bm' tm' id cs)
    (hlive : ∀ g n, σ' (3 * g + 2) = .live n → LiveOk c w' tm' g n)
    (dbb : ∀ id id' cs cs', σ' (3 * id + 1) = .box cs → σ' (3 * id' + 1) = .box cs' → id ≠ id' → bm' id ≠ bm' id')
    (dbl : ∀ id cs g n b, σ' (3 * id + 1) = .box cs → σ' (3 * g + 2) = .live n → Blk tm' g n b → bm' id ≠ b)
    (dll : ∀ g n g' n' b b', σ' (3 * g + 2) = .live n → σ' (3 * g' + 2) = .live n' → g ≠ g' → Blk tm' g n b → Blk tm' g' n' b' → b ≠ b')
    (f1 : ∀ l g, men (σ' l) g → F' g) (f2 : ∀ id cs, σ' (3 * id + 1) = .box cs → F' id) (f3 : ∀ g n, σ' (3 * g + 2) = .live n → F' g) : Sim c F' σ' bm' tm' a w' :=
  ⟨hs.fr.trans hfr, Nat.le_trans hs.hB hfr.size, hs.m0,
   fun t => by rw [ht]; exact (hs.tmps t).keep hk fun g hg => hag g (hs.f1 _ _ hg), hbox, hlive, dbb, dbl, dll, f1, f2, f3, hs.size, hs.defers, fun g hg => ⟨((hag 0 (hs.x0 g hg).2).1).trans (hs.x0 g hg).1, hF 0 (hs.x0 g hg).2⟩⟩
theorem BoxOk.keep {M M' : Addr → Prop} {id : Nat} {cs : List (K × E)} (h : BoxOk c w M bm tm id cs) (hk : Keeps w M w' M') (hb : bm' id = bm id) (hw : w'.heap[bm id]? = w.heap[bm id]?) (hm : ∀ g, (∃ x ∈ cs, x.1.has g) → tm' g = tm g) : BoxOk c w' M' bm' tm' id cs := by
  obtain ⟨vs, T, h1, h2, h3⟩ := h
  exact ⟨vs, T, by rw [hb, hw]; exact h1, h2.keep hk hm, by rw [hb]; exact h3⟩
theorem BoxOk.lt {M : Addr → Prop} {id : Nat} {cs : List (K × E)} (h : BoxOk c w M bm tm id cs) : bm id < w.heap.size := by
  obtain ⟨vs, T, h1, _⟩ := h
  rcases Nat.lt_or_ge (bm id) w.heap.size with h | h
  · exact h
  · rw [Array.getElem?_eq_none h] at h1; cases h1
theorem Blk.congr {g : Nat} {n : LV} {b : Nat} (ht : tm' g = tm g) (hv : ∀ x, men (.live n) x → tm' x = tm x) : Blk tm' g n b ↔ Blk tm g n b := by
  unfold Blk
  rw [ht]
  constructor
  · rintro (h | ⟨e, gv, ms, cells, u, h1, h2, h3⟩)
    · exact .inl h
    · exact .inr ⟨e, gv, ms, cells, u, h1, by rw [← hv gv ⟨e, ms, h1⟩]; exact h2, h3⟩
  · rintro (h | ⟨e, gv, ms, cells, u, h1, h2, h3⟩)
    · exact .inl h
    · exact .inr ⟨e, gv, ms, cells, u, h1, by rw [hv gv ⟨e, ms, h1⟩]; exact h2, h3⟩
theorem LiveOk.keep {g : Nat} {n : LV} (h : LiveOk c w tm g n) (hw : ∀ b, Blk tm g n b → w'.heap[b]? = w.heap[b]?) (ht : tm' g = tm g) (hv : ∀ x, men (.live n) x → tm' x = tm x) : LiveOk c w' tm' g n := by
  refine ⟨?_, fun e dp he => ?_, fun e gv ms he => ?_⟩
  · rw [ht]; exact h.sp.keep fun b hb => hw b (.inl hb)
  · rw [ht]
    refine (h.bd e dp he).keep (fun b hb => hw b (.inl hb)) fun i j d u hq => hq.keep (fun gv ms hd => hv gv ⟨e, ms, by rw [he, hd]⟩) fun gv ms cells u b hd h1 h2 h3 => hw b (.inr ⟨e, gv, ms, cells, u, by rw [he, hd], h1, h2, h3⟩)
  · obtain ⟨cells, h1, h2, h3, h4⟩ := h.dp e gv ms he
    refine ⟨cells, by rw [hv gv ⟨e, ms, he⟩]; exact h1, fun u hu => ?_, h3, by rw [ht]; exact h4⟩
    obtain ⟨m, hm⟩ := h2 u hu
    exact ⟨m, hm.keep fun b hb => hw b (.inr ⟨e, gv, ms, cells, u, he, h1, hu, hb⟩)⟩
theorem SpOk.lt {B n b : Nat} {v : Value} (h : SpOk B w v n) (hb : OutB v b) : b < w.heap.size ∧ B ≤ b := by
  obtain ⟨o, s, len, cap, he, hl⟩ := hb
  obtain ⟨_, h1, cells, T, h3, _⟩ := h b o s len cap he hl
  refine ⟨?_, h1⟩
  rcases Nat.lt_or_ge b w.heap.size with h | h
  · exact h
  · rw [Array.getElem?_eq_none h] at h3; cases h3
theorem LiveOk.ltB {g b : Nat} {n : LV} (h : LiveOk c w tm g n) (hb : Blk tm g n b) : b < w.heap.size ∧ c.B ≤ b := by
  rcases hb with hb | ⟨e, gv, ms, cells, u, h1, h2, h3, h4⟩
  · exact h.sp.lt hb
  · obtain ⟨cells', q1, q2, _⟩ := h.dp e gv ms h1
    rw [h2] at q1; cases q1
    obtain ⟨m, hm⟩ := q2 u h3
    exact hm.lt h4
theorem LiveOk.lt {g b : Nat} {n : LV} (h : LiveOk c w tm g n) (hb : Blk tm g n b) : b < w.heap.size := (h.ltB hb).1
theorem Sim.grow (hs : Sim c F σ bm tm a w) (hb : Below w.heap.size w w') : Sim c F σ bm tm a w' := by
  have hk : Keeps w (MM c.M0 bm tm σ) w' (MM c.M0 bm tm σ) := Keeps.below hb fun _ _ h => h
  exact hs.turn (fun _ => rfl) (fun _ _ => ⟨rfl, rfl⟩) (fun _ h => h) (Fr.of_below hb hs.hB) hk
    (fun id cs h => (hs.box id cs h).keep hk rfl (hb.block _ (hs.box id cs h).lt) fun _ _ => rfl)
    (fun g n h => (hs.live g n h).keep (fun b hb' => hb.block _ ((hs.live g n h).lt hb')) rfl fun _ _ => rfl) hs.dbb hs.dbl hs.dll hs.f1 hs.f2 hs.f3
theorem upd_b_t (id t : Nat) (s : ST) : upd σ (3 * id + 1) s (3 * t) = σ (3 * t) := upd_ne _ _ (by omega)
theorem upd_b_live (id g : Nat) (s : ST) : upd σ (3 * id + 1) s (3 * g + 2) = σ (3 * g + 2) := upd_ne _ _ (by omega)
theorem upd_b_box {id id' : Nat} (s : ST) (h : id' ≠ id) : upd σ (3 * id + 1) s (3 * id' + 1) = σ (3 * id' + 1) := upd_ne _ _ (by omega)
theorem upd_r_t (g t : Nat) (s : ST) : upd σ (3 * g + 2) s (3 * t) = σ (3 * t) := upd_ne _ _ (by omega)
theorem upd_r_box (g id : Nat) (s : ST) : upd σ (3 * g + 2) s (3 * id + 1) = σ (3 * id + 1) := upd_ne _ _ (by omega)
theorem upd_r_live {g g' : Nat} (s : ST) (h : g' ≠ g) : upd σ (3 * g + 2) s (3 * g' + 2) = σ (3 * g' + 2) := upd_ne _ _ (by omega)
theorem Sim.setBox (hs : Sim c F σ bm tm a w) {id : Nat} {cs cs' : List (K × E)} (hid : σ (3 * id + 1) = .box cs)
    (hfr : Fr c.B c.X w w') (hob : ∀ k, k < w.heap.size → k ≠ bm id → w'.heap[k]? = w.heap[k]?)
    (hbox : ∀ M', M' = MM c.M0 bm tm σ → Keeps w (MM c.M0 bm tm σ) w' M' → BoxOk c w' M' bm tm id cs') (hm : ∀ g, (∃ x ∈ cs', x.1.has g) → F g) :
    Sim c F (upd σ (3 * id + 1) (.box cs')) bm tm a w' := by
  have hM : MM c.M0 bm tm (upd σ (3 * id + 1) (.box cs')) = MM c.M0 bm tm σ := by
    funext p
    simp only [MM, upd_b_live]
    apply propext
    constructor
    · rintro (h | ⟨i, q, h1, h2⟩ | h)
      · exact .inl h
      · by_cases e : i = id
        · subst e; exact .inr (.inl ⟨i, cs, hid, h2⟩)
        · rw [upd_b_box _ e] at h1; exact .inr (.inl ⟨i, q, h1, h2⟩)
      · exact .inr (.inr h)
    · rintro (h | ⟨i, q, h1, h2⟩ | h)
      · exact .inl h
      · by_cases e : i = id
        · subst e; exact .inr (.inl ⟨i, cs', upd_same _ _ _, h2⟩)
        · exact .inr (.inl ⟨i, q, by rw [upd_b_box _ e]; exact h1, h2⟩)
      · exact .inr (.inr h)
  have hk : Keeps w (MM c.M0 bm tm σ) w' (MM c.M0 bm tm σ) := fun p v hp hn => by
    refine ⟨?_, hn⟩
    have hne : p.block ≠ bm id := fun e => hn (.inr (.inl ⟨id, cs, hid, e⟩))
    rw [← hp]; exact World.cell?_of_block (hob _ (block_lt_of_cell hp) hne)
  refine hs.turn (fun t => upd_b_t _ _ _) (fun _ _ => ⟨rfl, rfl⟩) (fun _ h => h) hfr (by rw [hM]; exact hk) ?_ ?_ ?_ ?_ ?_ ?_ ?_ ?_
  · intro i q h
    rw [hM]
    by_cases e : i = id
    · subst e; rw [upd_same] at h; simp at h; subst h; exact hbox _ rfl hk
    · rw [upd_b_box _ e] at h
      exact (hs.box i q h).keep hk rfl (hob _ (hs.box i q h).lt (hs.dbb _ _ _ _ h hid e)) fun _ _ => rfl
  · intro g n h
    rw [upd_b_live] at h
    exact (hs.live g n h).keep (fun b hb => hob _ ((hs.live g n h).lt hb) (Ne.symm (hs.dbl id cs g n b hid h hb))) rfl fun _ _ => rfl
  · intro i i' q q' h h' hne
    by_cases e : i = id <;> by_cases e' : i' = id
    · exact absurd (e.trans e'.symm) hne
    · subst e; rw [upd_b_box _ e'] at h'; exact hs.dbb _ _ _ _ hid h' hne
    · subst e'; rw [upd_b_box _ e] at h; exact hs.dbb _ _ _ _ h hid hne
    · rw [upd_b_box _ e] at h; rw [upd_b_box _ e'] at h'; exact hs.dbb _ _ _ _ h h' hne
  · intro i q g n b h hg hb
    rw [upd_b_live] at hg
    by_cases e : i = id
    · subst e; exact hs.dbl _ _ _ _ _ hid hg hb
    · rw [upd_b_box _ e] at h; exact hs.dbl _ _ _ _ _ h hg hb
  · simp only [upd_b_live]; exact hs.dll
  · intro l g h
    by_cases e : l = 3 * id + 1
    · subst e; rw [upd_same] at h; exact hm g h
    · rw [upd_ne _ _ e] at h; exact hs.f1 l g h
  · intro i q h
    by_cases e : i = id
    · subst e; exact hs.f2 _ _ hid
    · rw [upd_b_box _ e] at h; exact hs.f2 _ _ h
  · intro g n h; rw [upd_b_live] at h; exact hs.f3 g n h
theorem Sim.newBox (hs : Sim c F σ bm tm a w) {g : Nat} (hg : ¬ F g) {cs : List (K × E)} {vs : List Value} {T : TypeId} (hv : relCs w (MM c.M0 bm tm σ) tm c.env cs vs) (hm : ∀ x, (∃ y ∈ cs, y.1.has x) → F x) :
    Sim c (fun x => F x ∨ x = g) (upd σ (3 * g + 1) (.box cs)) (upd bm g w.heap.size) tm a (w.alloc (.cells vs.toArray T)) := by
  have hb : Below w.heap.size w (w.alloc (.cells vs.toArray T)) := (Below.refl _ _).alloc (Nat.le_refl _) _
  have hbm : ∀ x, F x → upd bm g w.heap.size x = bm x := fun x hx => upd_ne _ _ (fun e => hg (e ▸ hx))
  have hk : Keeps w (MM c.M0 bm tm σ) (w.alloc (.cells vs.toArray T)) (MM c.M0 (upd bm g w.heap.size) tm (upd σ (3 * g + 1) (.box cs))) := by
    refine Keeps.below hb fun p hp h => ?_
    rcases h with h | ⟨i, q, h1, h2⟩ | ⟨x, n, h1, h2⟩
    · exact .inl h
    · by_cases e : i = g
      · subst e; rw [upd_same] at h2; omega
      · rw [upd_b_box _ e] at h1; rw [upd_ne _ _ e] at h2; exact .inr (.inl ⟨i, q, h1, h2⟩)
    · rw [upd_b_live] at h1; exact .inr (.inr ⟨x, n, h1, h2⟩)
  refine hs.turn (fun t => upd_b_t _ _ _) (fun x hx => ⟨hbm x hx, rfl⟩) (fun _ h => .inl h) (Fr.of_below hb hs.hB) hk ?_ ?_ ?_ ?_ ?_ ?_ ?_ ?_
  · intro i q h
    by_cases e : i = g
    · subst e; rw [upd_same] at h; simp at h; subst h
      refine ⟨vs, T, ?_, hv.keep hk fun _ _ => rfl, .inl ?_⟩
      · rw [upd_same]; exact heap_alloc_new _ _
      · rw [upd_same]; exact hs.hB
    · rw [upd_b_box _ e] at h
      exact (hs.box i q h).keep hk (hbm i (hs.f2 _ _ h)) (Below.heap_alloc _ _ _ (hs.box i q h).lt) fun _ _ => rfl
  · intro x n h
    rw [upd_b_live] at h
    exact (hs.live x n h).keep (fun b hb => Below.heap_alloc _ _ _ ((hs.live x n h).lt hb)) rfl fun _ _ => rfl
  · intro i i' q q' h h' hne
    by_cases e : i = g <;> by_cases e' : i' = g
    · exact absurd (e.trans e'.symm) hne
    · subst e; rw [upd_b_box _ e'] at h'; rw [upd_same, upd_ne _ _ e']; have := (hs.box i' q' h').lt; omega
    · subst e'; rw [upd_b_box _ e] at h; rw [upd_same, upd_ne _ _ e]; have := (hs.box i q h).lt; omega
    · rw [upd_b_box _ e] at h; rw [upd_b_box _ e'] at h'; rw [upd_ne _ _ e, upd_ne _ _ e']; exact hs.dbb _ _ _ _ h h' hne
  · intro i q x n b h hx hb'
    rw [upd_b_live] at hx
    by_cases e : i = g
    · subst e; rw [upd_same]; have := (hs.live x n hx).lt hb'; omega
    · rw [upd_b_box _ e] at h; rw [upd_ne _ _ e]; exact hs.dbl _ _ _ _ _ h hx hb'
  · simp only [upd_b_live]; exact hs.dll
  · intro l x h
    by_cases e : l = 3 * g + 1
    · subst e; rw [upd_same] at h; exact .inl (hm x h)
    · rw [upd_ne _ _ e] at h; exact .inl (hs.f1 l x h)
  · intro i q h
    by_cases e : i = g
    · exact .inr e
    · rw [upd_b_box _ e] at h; exact .inl (hs.f2 _ _ h)
  · intro x n h; rw [upd_b_live] at h; exact .inl (hs.f3 x n h)
theorem Sim.newBoxAt (hs : Sim c F σ bm tm a w) {g g0 : Nat} (hg : ¬ F g) (hb : Below w.heap.size w w') (h0 : w.heap.size ≤ g0) {cs : List (K × E)} {vs : List Value} {T : TypeId} (hblk : w'.heap[g0]? = some (.cells vs.toArray T (0, 0)))
    (hv : relCs w' (fun p => MM c.M0 bm tm σ p ∨ p.block = g0) tm c.env cs vs) (hm : ∀ x, (∃ y ∈ cs, y.1.has x) → F x) :
    Sim c (fun x => F x ∨ x = g) (upd σ (3 * g + 1) (.box cs)) (upd bm g g0) tm a w' := by
  have hbm : ∀ x, F x → upd bm g g0 x = bm x := fun x hx => upd_ne _ _ (fun e => hg (e ▸ hx))
  have hM : ∀ p, MM c.M0 (upd bm g g0) tm (upd σ (3 * g + 1) (.box cs)) p → (MM c.M0 bm tm σ p ∨ p.block = g0) := by
    intro p h
    rcases h with h | ⟨i, q, h1, h2⟩ | ⟨x, n, h1, h2⟩
    · exact .inl (.inl h)
    · by_cases e : i = g
      · subst e; rw [upd_same] at h2; exact .inr h2
      · rw [upd_b_box _ e] at h1; rw [upd_ne _ _ e] at h2; exact .inl (.inr (.inl ⟨i, q, h1, h2⟩))
    · rw [upd_b_live] at h1; exact .inl (.inr (.inr ⟨x, n, h1, h2⟩))
  have hk : Keeps w (MM c.M0 bm tm σ) w' (MM c.M0 (upd bm g g0) tm (upd σ (3 * g + 1) (.box cs))) := by
    refine Keeps.below hb fun p hp h => ?_
    rcases hM p h with h | h
    · exact h
    · omega
  have hk' : Keeps w' (fun p => MM c.M0 bm tm σ p ∨ p.block = g0) w' (MM c.M0 (upd bm g g0) tm (upd σ (3 * g + 1) (.box cs))) := fun p v hp hn => ⟨hp, fun h => hn (hM p h)⟩
  refine hs.turn (fun t => upd_b_t _ _ _) (fun x hx => ⟨hbm x hx, rfl⟩) (fun _ h => .inl h) (Fr.of_below hb hs.hB) hk ?_ ?_ ?_ ?_ ?_ ?_ ?_ ?_
  · intro i q h
    by_cases e : i = g
    · subst e; rw [upd_same] at h; simp at h; subst h
      refine ⟨vs, T, ?_, hv.keep hk' fun _ _ => rfl, .inl ?_⟩
      · rw [upd_same]; exact hblk
      · rw [upd_same]; exact Nat.le_trans hs.hB h0
    · rw [upd_b_box _ e] at h
      exact (hs.box i q h).keep hk (hbm i (hs.f2 _ _ h)) (hb.block _ (hs.box i q h).lt) fun _ _ => rfl
  · intro x n h
    rw [upd_b_live] at h
    exact (hs.live x n h).keep (fun b hb' => hb.block _ ((hs.live x n h).lt hb')) rfl fun _ _ => rfl
  · intro i i' q q' h h' hne
    by_cases e : i = g <;> by_cases e' : i' = g
    · exact absurd (e.trans e'.symm) hne
    · subst e; rw [upd_b_box _ e'] at h'; rw [upd_same, upd_ne _ _ e']; have := (hs.box i' q' h').lt; omega
    · subst e'; rw [upd_b_box _ e] at h; rw [upd_same, upd_ne _ _ e]; have := (hs.box i q h).lt; omega
    · rw [upd_b_box _ e] at h; rw [upd_b_box _ e'] at h'; rw [upd_ne _ _ e, upd_ne _ _ e']; exact hs.dbb _ _ _ _ h h' hne
  · intro i q x n b h hx hb'
    rw [upd_b_live] at hx
    by_cases e : i = g
    · subst e; rw [upd_same]; have := (hs.live x n hx).lt hb'; omega
    · rw [upd_b_box _ e] at h; rw [upd_ne _ _ e]; exact hs.dbl _ _ _ _ _ h hx hb'
  · simp only [upd_b_live]; exact hs.dll
  · intro l x h
    by_cases e : l = 3 * g + 1
    · subst e; rw [upd_same] at h; exact .inl (hm x h)
    · rw [upd_ne _ _ e] at h; exact .inl (hs.f1 l x h)
  · intro i q h
    by_cases e : i = g
    · exact .inr e
    · rw [upd_b_box _ e] at h; exact .inl (hs.f2 _ _ h)
  · intro x n h; rw [upd_b_live] at h; exact .inl (hs.f3 x n h)
end
end Go.Proofs.YtimickglpboilaaGreat
