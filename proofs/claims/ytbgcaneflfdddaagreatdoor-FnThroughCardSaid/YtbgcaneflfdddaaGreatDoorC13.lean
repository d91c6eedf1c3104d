/- What calls keep: a valid part stays valid, its kind and the names of its layers stay; what lies above the layers that a call meets does not matter. -/
import Derived.Test.YtbgcaneflfdddaaGreatDoorC12
import Derived.Test.YtbgcaneflfdddaaGreatDoorC11
set_option linter.unusedVariables false
set_option linter.unusedSimpArgs false
set_option maxRecDepth 100000
set_option linter.unusedSectionVars false
namespace Go.Proofs.YtbgcaneflfdddaaGreatDoor
open Go.RowKit Go
variable [GC]
theorem blA : ∀ {a b : List UInt8}, Op.bytesLess a b = true → Op.bytesLess b a = false
 | [], _ :: _, _ => by simp [Op.bytesLess]
 | [], [], h => by simp [Op.bytesLess] at h
 | _ :: _, [], h => by simp [Op.bytesLess] at h
 | x :: a, y :: b, h => by
  simp only [Op.bytesLess] at h ⊢
  by_cases e : x = y
  ·subst e; simp at h ⊢; exact blA h
  ·have e' : ¬ y = x := fun h => e h.symm
   simp [e, e'] at h ⊢
   exact UInt8.le_of_lt h
theorem blT : ∀ {a b : List UInt8}, a ≠ b → Op.bytesLess a b = false → Op.bytesLess b a = true
 | [], [], h, _ => by simp at h
 | [], _ :: _, _, h => by simp [Op.bytesLess] at h
 | _ :: _, [], _, _ => by simp [Op.bytesLess]
 | x :: a, y :: b, hn, h => by
  simp only [Op.bytesLess] at h ⊢
  by_cases e : x = y
  ·subst e; simp at h hn ⊢; exact blT hn h
  ·have e' : ¬ y = x := fun h => e h.symm
   simp [e, e'] at h ⊢
   exact UInt8.lt_of_le_of_ne h e'
theorem ltA {a b : ByteArray} (h : ltB a b = true) : ltB b a = false := blA h
theorem ltT {a b : ByteArray} (hn : a ≠ b) (h : ltB a b = false) : ltB b a = true :=
 blT (fun e => hn (by have := toList_eqB a b; rw [e] at this; simpa using this.symm)) h
theorem nthC_set {α : Type} [Inhabited α] (l : List α) (k i : Nat) (x : α) (hk : k < l.length) : nth (l.set k x) i = if i = k then x else nth l i := by
 by_cases h : i = k
 ·subst h; simp [nth, hk]
 ·rw [if_neg h]
  have : ¬ k = i := fun e => h e.symm
  simp [nth, List.getD_eq_getElem?_getD, List.getElem?_set, this]
theorem nthC_ins {α : Type} [Inhabited α] (l : List α) (a i : Nat) (x : α) (ha : a ≤ l.length) : nth (l.take a ++ [x] ++ l.drop a) i = if i < a then nth l i else if i = a then x else nth l (i - 1) := by
 have hl : (l.take a).length = a := by simp; omega
 simp only [nth, List.getD_eq_getElem?_getD, List.append_assoc]
 by_cases h1 : i < a
 ·rw [if_pos h1, List.getElem?_append_left (by omega), List.getElem?_take, if_pos h1]
 ·rw [if_neg h1, List.getElem?_append_right (by omega), hl]
  by_cases h2 : i = a
  ·subst h2; simp
  ·rw [if_neg h2]
   obtain ⟨j, rfl⟩ : ∃ j, i = a + 1 + j := ⟨i - a - 1, by omega⟩
   have : a + 1 + j - a = j + 1 := by omega
   rw [this]
   simp [List.getElem?_drop]
theorem isK_iff {l : List Cell} {k : ByteArray} : isK l k = true ↔ atC l k < l.length ∧ (nth l (atC l k)).key = k := by
 unfold isK; simp
theorem putC_len (l : List Cell) (k : ByteArray) (v : Int) : (putC l k v).length = if isK l k = true then l.length else l.length + 1 := by
 unfold putC
 have := atC_le l k
 split
 ·simp
 ·simp; omega
theorem put_cells {l : List Cell} {k : ByteArray} {v : Int} (h : cellsB l = true) (hk : nameB k = true) (hv : numB v = true) (h4 : ¬ (isK l k = false ∧ 4 ≤ l.length)) : cellsB (putC l k v) = true := by
 have hlen := cellsB_len h
 have hle := atC_le l k
 unfold cellsB at h
 simp only [Bool.and_eq_true, allTo_iff] at h
 have hc := fun i hi => h.2 i hi
 unfold cellsB
 simp only [Bool.and_eq_true, decide_eq_true_eq, allTo_iff]
 refine ⟨?_, fun i hi => ?_⟩
 ·rw [putC_len]
  split
  ·exact hlen
  ·rename_i hn; have hn : isK l k = false := by simpa using hn
   have : ¬ 4 ≤ l.length := fun e => h4 ⟨hn, e⟩
   omega
 rw [putC_len] at hi
 unfold cellB
 by_cases hi1 : isK l k = true
 ·rw [if_pos hi1] at hi
  have e : putC l k v = l.set (atC l k) ⟨k, v⟩ := by unfold putC; rw [if_pos hi1]
  obtain ⟨q1, q2⟩ := isK_iff.1 hi1
  have hci := hc i hi
  unfold cellB at hci
  rw [e, nthC_set _ _ _ _ q1, nthC_set _ _ _ _ q1]
  have key : ∀ j, (if j = atC l k then (⟨k, v⟩ : Cell) else nth l j).key = (nth l j).key := fun j => by
   split
   ·rename_i e; rw [e, q2]
   ·rfl
  have val : numB (if i = atC l k then (⟨k, v⟩ : Cell) else nth l i).val = true := by
   split
   ·exact hv
   ·simp only [Bool.and_eq_true] at hci; exact hci.1.2
  rw [key, key, val]
  simp only [Bool.and_eq_true, Bool.or_eq_true] at hci ⊢
  exact ⟨⟨hci.1.1, trivial⟩, hci.2⟩
 ·have hi2 : isK l k = false := by simpa using hi1
  rw [if_neg hi1] at hi
  have e : putC l k v = l.take (atC l k) ++ [⟨k, v⟩] ++ l.drop (atC l k) := by unfold putC; rw [if_neg hi1]
  rw [e, nthC_ins _ _ _ _ hle, nthC_ins _ _ _ _ hle]
  simp only [Bool.and_eq_true, Bool.or_eq_true, beq_iff_eq]
  by_cases c1 : i < atC l k
  ·have := hc i (by omega)
   unfold cellB at this
   simp only [Bool.and_eq_true, Bool.or_eq_true, beq_iff_eq] at this
   rw [if_pos c1, if_pos (by omega)]
   exact this
  rw [if_neg c1]
  by_cases c2 : i = atC l k
  ·rw [if_pos c2]
   refine ⟨⟨hk, hv⟩, ?_⟩
   by_cases c3 : i = 0
   ·exact .inl c3
   ·rw [if_pos (by omega)]
    exact .inr (atC_lt (l := l) (k := k) (i := i - 1) (by omega))
  rw [if_neg c2]
  have := hc (i - 1) (by omega)
  unfold cellB at this
  simp only [Bool.and_eq_true, Bool.or_eq_true, beq_iff_eq] at this
  refine ⟨this.1, .inr ?_⟩
  rw [if_neg (by omega)]
  by_cases c3 : i - 1 = atC l k
  ·rw [if_pos c3, c3]
   have hat : atC l k < l.length := by omega
   refine ltT (fun e => ?_) (atC_at hat)
   have : isK l k = true := isK_iff.2 ⟨hat, e⟩
   rw [hi2] at this; cases this
  ·rw [if_neg c3]
   rcases this.2 with h | h
   ·omega
   ·exact h
theorem coreB_iff {p : Core} : coreB p = true ↔ kindOk p.kind = true ∧ cellsB p.cells = true ∧ (p.cells.length = 0 ∨ (kindN p.kind).testBit 1 = true) ∧ numB p.count = true ∧ ¬ (p.on = true ∧ p.broken = true) ∧ ((kindN p.kind).testBit 0 = true ∨ (p.on = false ∧ p.broken = false)) := by
 unfold coreB; grind
theorem need_bits {k m : ByteArray} (hk : kindOk k = true) (ho : offersB (kindN k) (wantZ m) = true) :
  ((m = mStart ∨ m = mStop ∨ m = mHear) → (kindN k).testBit 0 = true) ∧ ((m = mGet ∨ m = mPut ∨ m = mLoad) → (kindN k).testBit 1 = true) := by
 obtain ⟨i, _, e⟩ := kind_fin hk
 rw [e] at ho ⊢
 have w0 : wantZ mStart = ((2 ^ (0 : Fin 6).val : Nat) : Int) := by decide +kernel
 have w1 : wantZ mStop = ((2 ^ (0 : Fin 6).val : Nat) : Int) := by decide +kernel
 have w2 : wantZ mHear = ((2 ^ (3 : Fin 6).val : Nat) : Int) := by decide +kernel
 have w3 : wantZ mGet = ((2 ^ (1 : Fin 6).val : Nat) : Int) := by decide +kernel
 have w4 : wantZ mPut = ((2 ^ (1 : Fin 6).val : Nat) : Int) := by decide +kernel
 have w5 : wantZ mLoad = ((2 ^ (4 : Fin 6).val : Nat) : Int) := by decide +kernel
 constructor
 ·rintro (rfl | rfl | rfl)
  ·rw [w0] at ho; exact (kind_off i 0 ho).1 (.inl rfl)
  ·rw [w1] at ho; exact (kind_off i 0 ho).1 (.inl rfl)
  ·rw [w2] at ho; exact (kind_off i 3 ho).1 (.inr rfl)
 ·rintro (rfl | rfl | rfl)
  ·rw [w3] at ho; exact (kind_off i 1 ho).2 (.inl rfl)
  ·rw [w4] at ho; exact (kind_off i 1 ho).2 (.inl rfl)
  ·rw [w5] at ho; exact (kind_off i 4 ho).2 (.inr rfl)
theorem isKeep_iff {x : Call} : isKeep x = true ↔ x.method = mGet ∨ x.method = mPut := by unfold isKeep; simp
def OkC (p : Core) (y : Core × Reply) : Prop := coreB y.1 = true ∧ y.1.kind = p.kind ∧ y.2.code ≠ 1 ∧ y.2.code ≠ 7 ∧ 0 ≤ y.2.val ∧ y.2.val ≤ 999
theorem numB_iff {n : Int} : numB n = true ↔ 0 ≤ n ∧ n ≤ 999 := by unfold numB; simp
theorem does_ok {p : Core} {x : Call} (hp : coreB p = true) (hx : callB x = true) (ho : offersB (kindN p.kind) (wantZ x.method) = true) : OkC p (doesD p x) := by
 have hp' := coreB_iff.1 hp
 obtain ⟨p1, p2, p3, p4, p5, p6⟩ := hp'
 have nb := need_bits p1 ho
 have n4 := numB_iff.1 p4
 have n4' := numB_iff.1 (up3_num p4).1
 have hl := cellsB_len p2
 have same : ∀ c v t w h, c ≠ 1 → c ≠ 7 → 0 ≤ v → v ≤ 999 → OkC p (p, ⟨c, v, t, w, h⟩) := fun c v t w h h1 h2 h3 h4 => ⟨hp, rfl, h1, h2, h3, h4⟩
 unfold doesD
 split
 ·exact same _ _ _ _ _ (by decide) (by decide) (by decide) (by decide)
 split
 ·rename_i hm
  have := nb.1 (.inl hm)
  split
  ·exact ⟨coreB_iff.2 ⟨p1, p2, p3, p4, by simp, .inl this⟩, rfl, by simp [rep], by simp [rep], by simp [rep], by simp [rep]⟩
  ·rename_i hb hon
   have hbr : p.broken = false := by
    have : mStart ≠ mHeal ∧ mStart ≠ mTell := by decide
    rw [hm] at hb
    cases h : p.broken with
    | false => rfl
    | true => exact absurd ⟨h, this⟩ hb
   exact ⟨coreB_iff.2 ⟨p1, p2, p3, (up3_num p4).1, by simp [hbr], .inl this⟩, rfl, by simp [rep], by simp [rep], by simp [rep], by simp [rep]⟩
 split
 ·rename_i hm
  have := nb.1 (.inr (.inl hm))
  split
  ·exact same _ _ _ _ _ (by decide) (by decide) (by decide) (by decide)
  ·exact ⟨coreB_iff.2 ⟨p1, p2, p3, p4, by simp, .inl this⟩, rfl, by simp [rep], by simp [rep], by simp [rep], by simp [rep]⟩
 split
 ·rename_i hm
  have hb1 := nb.2 (by rcases isKeep_iff.1 hm with h | h <;> simp [h])
  unfold keepD
  split
  ·exact same _ _ _ _ _ (by decide) (by decide) (by decide) (by decide)
  split
  ·split
   ·rename_i hc
    have := numB_iff.1 (cellsB_at p2 (isK_iff.1 hc).1).2
    exact same _ _ _ _ _ (by decide) (by decide) this.1 this.2
   ·exact same _ _ _ _ _ (by decide) (by decide) (by decide) (by decide)
  split
  ·exact same _ _ _ _ _ (by decide) (by decide) (by decide) (by decide)
  ·rename_i hf
   have hpc := put_cells (v := x.val) p2 (callB_put hx hm) (callB_num hx) hf
   have := cellsB_len hpc
   exact ⟨coreB_iff.2 ⟨p1, hpc, .inr hb1, (up3_num p4).1, p5, p6⟩, rfl, by simp [rep], by simp [rep], by simp only [rep]; omega, by simp only [rep]; omega⟩
 split
 ·exact same _ _ _ _ _ (by decide) (by decide) n4.1 n4.2
 split
 ·rename_i hb _ _ _ _ hm
  have h0 := nb.1 (.inr (.inr hm))
  have hbr : p.broken = false := by
   have : mHear ≠ mHeal ∧ mHear ≠ mTell := by decide
   rw [hm] at hb
   cases h : p.broken with
   | false => rfl
   | true => exact absurd ⟨h, this⟩ hb
  exact ⟨coreB_iff.2 ⟨p1, p2, p3, (up3_num p4).1, by simp [hbr], .inl h0⟩, rfl, by simp [rep], by simp [rep], n4'.1, n4'.2⟩
 split
 ·exact same _ _ _ _ _ (by decide) (by decide) (by decide) (by decide)
 split
 ·rename_i hm
  split
  ·rename_i hk
   have := parC_ok hk
   have h5 := cellsB_len this
   exact ⟨coreB_iff.2 ⟨p1, this, .inr (nb.2 (.inr (.inr hm))), p4, p5, p6⟩, rfl, by simp [rep], by simp [rep], by simp only [rep]; omega, by simp only [rep]; omega⟩
  ·exact same _ _ _ _ _ (by decide) (by decide) (by decide) (by decide)
 split
 ·exact ⟨coreB_iff.2 ⟨p1, p2, p3, p4, by simp, .inr ⟨rfl, rfl⟩⟩, rfl, by simp [rep], by simp [rep], by simp [rep], by simp [rep]⟩
 ·exact same _ _ _ _ _ (by decide) (by decide) (by decide) (by decide)
/- Parts. -/
structure ShP (p q : Part) : Prop where
 kind : q.core.kind = p.core.kind
 names : q.layers.map (·.name) = p.layers.map (·.name)
theorem ShP.refl (p : Part) : ShP p p := ⟨rfl, rfl⟩
theorem ShP.trans {p q r : Part} (h : ShP p q) (k : ShP q r) : ShP p r := ⟨k.kind.trans h.kind, k.names.trans h.names⟩
theorem ShP.len {p q : Part} (h : ShP p q) : q.layers.length = p.layers.length := by simpa using congrArg List.length h.names
theorem ShP.name {p q : Part} (h : ShP p q) {i : Nat} (hi : i < p.layers.length) : (nth q.layers i).name = (nth p.layers i).name := by
 have h1 := congrArg (·[i]?) h.names
 have h2 := h.len
 simp only [List.getElem?_map] at h1
 rw [List.getElem?_eq_getElem hi, List.getElem?_eq_getElem (by omega)] at h1
 simp only [Option.map_some, Option.some.injEq] at h1
 simp [nth, List.getD_eq_getElem?_getD, hi, h2, h1]
theorem ShP.face {p q : Part} (h : ShP p q) {i : Nat} (hi : i ≤ p.layers.length) : faceAt q i = faceAt p i := by
 unfold faceAt
 split
 ·rw [h.kind]
 ·rw [h.name (by omega)]
theorem partB_iff {p : Part} : partB p = true ↔ coreB p.core = true ∧ p.layers.length ≤ 3 ∧ ∀ i, i < p.layers.length → layOk (nth p.layers i).name = true ∧ offersB (faceAt p i) (needN (nth p.layers i).name) = true ∧ numB (nth p.layers i).count = true ∧ ((nth p.layers i).count = 0 ∨ (nth p.layers i).name = counts ∨ (nth p.layers i).name = hears) := by
 unfold partB
 simp only [Bool.and_eq_true, decide_eq_true_eq, allTo_iff, layerB, Bool.or_eq_true]
 constructor
 ·rintro ⟨⟨h1, h2⟩, h3⟩
  exact ⟨h1, h2, fun i hi => by have := h3 i hi; exact ⟨this.1.1.1, this.1.1.2, this.1.2, by rcases this.2 with (h | h) | h <;> simp [h]⟩⟩
 ·rintro ⟨h1, h2, h3⟩
  exact ⟨⟨h1, h2⟩, fun i hi => by obtain ⟨a, b, c, d⟩ := h3 i hi; exact ⟨⟨⟨a, b⟩, c⟩, by rcases d with h | h | h <;> simp [h]⟩⟩
theorem partB_sh {p q : Part} (hp : partB p = true) (hs : ShP p q) (hc : coreB q.core = true) (hn : ∀ i, i < p.layers.length → numB (nth q.layers i).count = true ∧ ((nth q.layers i).count = 0 ∨ (nth p.layers i).name = counts ∨ (nth p.layers i).name = hears)) : partB q = true := by
 obtain ⟨_, h2, h3⟩ := partB_iff.1 hp
 refine partB_iff.2 ⟨hc, by rw [hs.len]; exact h2, fun i hi => ?_⟩
 rw [hs.len] at hi
 obtain ⟨a, b, _, _⟩ := h3 i hi
 obtain ⟨c, d⟩ := hn i hi
 rw [hs.name hi, hs.face (by omega)]
 exact ⟨a, b, c, d⟩
theorem bump_sh {p : Part} {k : Nat} (hk : k < p.layers.length) : ShP p (bump p k) := by
 refine ⟨rfl, ?_⟩
 unfold bump
 apply List.ext_getElem?
 intro i
 simp only [List.getElem?_map, List.getElem?_set]
 split
 ·rename_i e
  subst e
  (try rw [if_pos hk])
  rw [List.getElem?_eq_getElem hk]
  simp [nth, List.getD_eq_getElem?_getD, hk]
 ·rfl
theorem bump_nth {p : Part} {k : Nat} (hk : k < p.layers.length) (i : Nat) : nth (bump p k).layers i = if i = k then ⟨(nth p.layers k).name, up3 (nth p.layers k).count⟩ else nth p.layers i := nthC_set _ _ _ _ hk
theorem bump_ok {p : Part} {k : Nat} (hp : partB p = true) (hk : k < p.layers.length) (hn : (nth p.layers k).name = counts ∨ (nth p.layers k).name = hears) : partB (bump p k) = true := by
 obtain ⟨h1, h2, h3⟩ := partB_iff.1 hp
 refine partB_sh hp (bump_sh hk) h1 fun i hi => ?_
 rw [bump_nth hk]
 obtain ⟨_, _, c, d⟩ := h3 i hi
 split
 ·rename_i e
  subst e
  exact ⟨(up3_num c).1, .inr hn⟩
 ·exact ⟨c, d⟩
theorem sub_call {nm m : ByteArray} {f : Nat} (hf : f < 64) (hl : layOk nm = true) (h1 : offersB f (needN nm) = true) (ha : ¬ abM m < 0) (h2 : offersB (giveN nm) (wantZ m) = true) :
  (nm = counts ∧ m = mTell) ∨ (nm = hears ∧ m = mHear) ∨ (nm = healsN ∧ m = mHeal) ∨ offersB f (wantZ m) = true := by
 obtain ⟨i, e, en, eg⟩ := lay_fin hl
 obtain ⟨j, ew, hm⟩ := meth_fin ha
 rw [en] at h1
 rw [eg, ew] at h2
 rw [ew]
 obtain ⟨e3, e4, e6, e7⟩ := layers_eq
 rcases lay_off i j ⟨f, hf⟩ h1 h2 with ⟨a, b⟩ | ⟨a, b⟩ | ⟨a, b⟩ | h
 ·rw [a] at e; rw [b] at hm; simp [methods] at hm
  exact .inl ⟨by rw [e, e3], hm⟩
 ·rw [a] at e; rw [b] at hm; simp [methods] at hm
  exact .inr (.inl ⟨by rw [e, e6], hm⟩)
 ·rw [a] at e; rw [b] at hm; simp [methods] at hm
  exact .inr (.inr (.inl ⟨by rw [e, e7], hm⟩))
 ·exact .inr (.inr (.inr h))
theorem goes_call {nm : ByteArray} {f : Nat} (hf : f < 64) (h1 : offersB f (needN nm) = true) (hn : nm = lazyN ∨ nm = hears ∨ nm = healsN) : offersB f (wantZ mStart) = true ∧ offersB f (wantZ mStop) = true := by
 obtain ⟨e3, e4, e6, e7⟩ := layers_eq
 have e : ∃ i : Fin 9, nm = nth layers i.val ∧ (i.val = 4 ∨ i.val = 6 ∨ i.val = 7) := by
  rcases hn with h | h | h
  ·exact ⟨4, by rw [h]; exact e4.symm, .inl rfl⟩
  ·exact ⟨6, by rw [h]; exact e6.symm, .inr (.inl rfl)⟩
  ·exact ⟨7, by rw [h]; exact e7.symm, .inr (.inr rfl)⟩
 obtain ⟨i, rfl, hi⟩ := e
 have en : needN (nth layers i.val) = layN.getD i.val 0 := by unfold needN; rw [layAt_nth i]
 rw [en] at h1
 rw [want_start.1, want_start.2.1]
 have := lay_run i ⟨f, hf⟩ hi h1
 exact ⟨this, this⟩
def OkR (p : Part) (y : Part × Reply) : Prop := partB y.1 = true ∧ ShP p y.1 ∧ y.2.code ≠ 1 ∧ y.2.code ≠ 7 ∧ 0 ≤ y.2.val ∧ y.2.val ≤ 999
theorem names_ne : counts ≠ lazyN ∧ counts ≠ readsN ∧ counts ≠ hears ∧ counts ≠ healsN ∧ counts ≠ twiceN ∧ lazyN ≠ readsN ∧ lazyN ≠ hears ∧ lazyN ≠ healsN ∧ lazyN ≠ twiceN ∧ readsN ≠ hears ∧ readsN ≠ healsN ∧ readsN ≠ twiceN ∧ hears ≠ healsN ∧ hears ≠ twiceN ∧ healsN ≠ twiceN := by decide
theorem keep_ne {x : Call} (h : isKeep x = true) : x.method ≠ mTell ∧ x.method ≠ mHear ∧ x.method ≠ mHeal ∧ x.method ≠ mStart ∧ x.method ≠ mStop := by
 rcases isKeep_iff.1 h with e | e <;> rw [e] <;> decide
theorem thr_ok : ∀ (k : Nat) (p : Part) (x : Call), partB p = true → k ≤ p.layers.length → callB x = true → offersB (faceAt p k) (wantZ x.method) = true → OkR p (thrD k p x)
 | 0, p, x, hp, _, hx, ho => by
  obtain ⟨h1, h2, h3⟩ := partB_iff.1 hp
  obtain ⟨a, b, c, d, e, f⟩ := does_ok h1 hx ho
  have hs : ShP p (thrD 0 p x).1 := ⟨b, rfl⟩
  exact ⟨partB_sh hp hs a fun i hi => ⟨(h3 i hi).2.2.1, (h3 i hi).2.2.2⟩, hs, c, d, e, f⟩
 | k + 1, p, x, hp, hk, hx, ho => by
  obtain ⟨h1, h2, h3⟩ := partB_iff.1 hp
  obtain ⟨a, b, c, d⟩ := h3 k (by omega)
  have ho : offersB (giveN (nth p.layers k).name) (wantZ x.method) = true := by
   unfold faceAt at ho; rw [if_neg (by omega)] at ho; exact ho
  have hsub := sub_call (faceAt_lt p k) a b (callB_ab hx) ho
  have nc := numB_iff.1 c
  have ne := names_ne
  have cs := callB_start
  have below : offersB (faceAt p k) (wantZ x.method) = true → OkR p (thrD k p x) := fun h => thr_ok k p x hp (by omega) hx h
  have start : ∀ q, partB q = true → ShP p q → offersB (faceAt p k) (wantZ mStart) = true → OkR p (thrD k q (plainCall mStart)) := fun q hq hs h => by
   have := thr_ok k q (plainCall mStart) hq (by rw [hs.len]; omega) cs.1 (by rw [hs.face (by omega)]; exact h)
   exact ⟨this.1, hs.trans this.2.1, this.2.2⟩
  have stop : ∀ q, partB q = true → ShP p q → offersB (faceAt p k) (wantZ mStop) = true → OkR p (thrD k q (plainCall mStop)) := fun q hq hs h => by
   have := thr_ok k q (plainCall mStop) hq (by rw [hs.len]; omega) cs.2.1 (by rw [hs.face (by omega)]; exact h)
   exact ⟨this.1, hs.trans this.2.1, this.2.2⟩
  rw [thrD]
  split
  ·exact ⟨hp, ShP.refl _, by simp [rep], by simp [rep], nc.1, nc.2⟩
  rename_i g1
  split
  ·rename_i g2
   have kn := keep_ne g2.2
   have hb := below (by rcases hsub with h | h | h | h; exact absurd h.2 kn.1; exact absurd h.2 kn.2.1; exact absurd h.2 kn.2.2.1; exact h)
   have hl := hb.2.1.len
   have hnm := hb.2.1.name (i := k) (by omega)
   exact ⟨bump_ok hb.1 (by omega) (.inl (by rw [hnm]; exact g2.1)), hb.2.1.trans (bump_sh (by omega)), hb.2.2⟩
  rename_i g2
  split
  ·rename_i g3
   have kn := keep_ne g3.2
   have hof : offersB (faceAt p k) (wantZ x.method) = true := by rcases hsub with h | h | h | h; exact absurd h.2 kn.1; exact absurd h.2 kn.2.1; exact absurd h.2 kn.2.2.1; exact h
   have hb := below hof
   have hr := goes_call (faceAt_lt p k) b (.inl g3.1)
   split
   ·have hs := start _ hb.1 hb.2.1 hr.1
    have := thr_ok k _ x hs.1 (by rw [hs.2.1.len]; omega) hx (by rw [hs.2.1.face (by omega)]; exact hof)
    exact ⟨this.1, hs.2.1.trans this.2.1, this.2.2⟩
   ·exact hb
  rename_i g3
  split
  ·exact ⟨hp, ShP.refl _, by simp [rep], by simp [rep], by simp [rep], by simp [rep]⟩
  rename_i g4
  split
  ·rename_i g5
   have hr := goes_call (faceAt_lt p k) b (.inr (.inl g5.1))
   have hbu := bump_ok hp (k := k) (by omega) (.inr g5.1)
   have hsh : ShP p (bump p k) := bump_sh (by omega)
   split
   ·exact stop _ hbu hsh hr.2
   split
   ·exact start _ hbu hsh hr.1
   ·refine ⟨hbu, hsh, by simp [rep], by simp [rep], ?_⟩
    have := numB_iff.1 ((partB_iff.1 hbu).2.2 k (by rw [hsh.len]; omega)).2.2.1
    exact this
  rename_i g5
  split
  ·rename_i g6
   have hr := goes_call (faceAt_lt p k) b (.inr (.inr g6.1))
   have hs := stop p hp (ShP.refl _) hr.2
   exact start _ hs.1 hs.2.1 hr.1
  rename_i g6
  have hb := below (by
   rcases hsub with h | h | h | h
   ·exact absurd h g1
   ·exact absurd h g5
   ·exact absurd h g6
   ·exact h)
  split
  ·refine ⟨hb.1, hb.2.1, ?_⟩
   unfold twoR
   split
   ·rename_i h0
    obtain ⟨q1, q2⟩ := hb.2.2.2.2
    simp only
    rw [wrap_i64 (by omega) (by omega)]
    exact ⟨by simp [h0], by simp [h0], by omega, by omega⟩
   ·exact hb.2.2
  ·exact hb
/- What lies above does not matter. -/
def extP (p : Part) (r : List Layer) : Part := ⟨p.core, p.layers ++ r⟩
theorem bump_len (p : Part) (k : Nat) : (bump p k).layers.length = p.layers.length := by simp [bump]
theorem thr_len : ∀ (k : Nat) (p : Part) (x : Call), (thrD k p x).1.layers.length = p.layers.length
 | 0, p, x => rfl
 | k + 1, p, x => by
  have ih := thr_len k
  rw [thrD]
  split
  ·rfl
  split
  ·simp only [bump_len, ih]
  split
  ·split
   ·simp only [ih]
   ·simp only [ih]
  split
  ·rfl
  split
  ·split
   ·simp only [bump_len, ih]
   split
   ·simp only [bump_len, ih]
   ·simp only [bump_len]
  split
  ·simp only [ih]
  split
  ·simp only [ih]
  ·simp only [ih]
theorem nthA_l {α : Type} [Inhabited α] {l1 l2 : List α} {a : Nat} (h : a < l1.length) : nth (l1 ++ l2) a = nth l1 a := by
 simp [nth, List.getD_eq_getElem?_getD, List.getElem?_append_left h]
theorem bump_ext {p : Part} {k : Nat} (hk : k < p.layers.length) (r : List Layer) : bump (extP p r) k = extP (bump p k) r := by
 unfold bump extP
 simp only [nthA_l hk]
 rw [List.set_append_left _ _ hk]
theorem thr_ext : ∀ (k : Nat) (p : Part) (r : List Layer) (x : Call), k ≤ p.layers.length → thrD k (extP p r) x = (extP (thrD k p x).1 r, (thrD k p x).2)
 | 0, p, r, x, _ => rfl
 | k + 1, p, r, x, hk => by
  have ih := fun (q : Part) (y : Call) (h : k ≤ q.layers.length) => thr_ext k q r y h
  have len := thr_len k
  have e : nth (extP p r).layers k = nth p.layers k := nthA_l (by omega)
  have eb := bump_ext (p := p) (k := k) (by omega) r
  have hb := bump_len p k
  have e2 : nth (extP (bump p k) r).layers k = nth (bump p k).layers k := nthA_l (by omega)
  rw [thrD, thrD, e]
  split
  ·rfl
  split
  ·rw [ih p x (by omega)]
   simp only
   rw [bump_ext (by rw [len]; omega)]
  split
  ·rw [ih p x (by omega)]
   simp only
   split
   ·rw [ih _ _ (by rw [len]; omega)]
    simp only
    rw [ih _ _ (by rw [len, len]; omega)]
   ·rfl
  split
  ·rfl
  split
  ·rw [eb]
   split
   ·rw [ih _ _ (by omega)]
   split
   ·rw [ih _ _ (by omega)]
   ·rw [e2]
  split
  ·rw [ih p _ (by omega)]
   simp only
   rw [ih _ _ (by rw [len]; omega)]
  split
  ·rw [ih p x (by omega)]
  ·rw [ih p x (by omega)]
theorem thr_hi : ∀ (k : Nat) (p : Part) (x : Call), k ≤ p.layers.length → ∀ i, k ≤ i → nth (thrD k p x).1.layers i = nth p.layers i
 | 0, p, x, _, i, _ => rfl
 | k + 1, p, x, hk, i, hi => by
  have len := thr_len k
  have ih := fun (q : Part) (y : Call) (h : q.layers.length = p.layers.length) => thr_hi k q y (by omega) i (by omega)
  have hb : ∀ q : Part, q.layers.length = p.layers.length → nth (bump q k).layers i = nth q.layers i := fun q hq => by
   rw [bump_nth (by omega), if_neg (by omega)]
  rw [thrD]
  split
  ·rfl
  split
  ·simp only
   rw [hb _ (by rw [len]), ih p x rfl]
  split
  ·split
   ·rw [ih _ _ (by rw [len, len]), ih _ _ (by rw [len]), ih p x rfl]
   ·rw [ih p x rfl]
  split
  ·rfl
  split
  ·split
   ·rw [ih _ _ (bump_len p k), hb p rfl]
   split
   ·rw [ih _ _ (bump_len p k), hb p rfl]
   ·exact hb p rfl
  split
  ·rw [ih _ _ (by rw [len]), ih p _ rfl]
  split
  ·simp only; rw [ih p x rfl]
  ·rw [ih p x rfl]
end Go.Proofs.YtbgcaneflfdddaaGreatDoor
/- Plain laws of cells in ascending order: where the reference puts a cell it stands as the program puts it; a place found from the front. -/
namespace Go.Proofs.YtbgcaneflfdddaaGreatDoor
open Go.RowKit Go
variable [GC]
theorem blTr : ∀ {a b c : List UInt8}, Op.bytesLess a b = true → Op.bytesLess b c = true → Op.bytesLess a c = true
 | _, [], _, h, _ => by simp [Op.bytesLess] at h
 | _, _ :: _, [], _, h => by simp [Op.bytesLess] at h
 | [], _ :: _, _ :: _, _, _ => by simp [Op.bytesLess]
 | x :: a, y :: b, z :: c, h1, h2 => by
  have ih := @blTr a b c
  simp only [Op.bytesLess, Bool.or_eq_true, Bool.and_eq_true, decide_eq_true_eq, beq_iff_eq] at h1 h2 ⊢
  grind
theorem firstTo_no {p : Nat → Bool} : ∀ {n : Nat}, firstTo p n = none → ∀ i, i < n → p i = false
 | 0, _, i, hi => by omega
 | n + 1, h, i, hi => by
  simp only [firstTo] at h
  split at h
  ·cases h
  ·rename_i h1
   split at h
   ·cases h
   ·rename_i h2
    rcases Nat.lt_or_ge i n with h3 | h3
    ·exact firstTo_no h1 i h3
    ·obtain rfl : i = n := by omega
     simpa using h2
theorem ltTr {a b c : ByteArray} (h1 : ltB a b = true) (h2 : ltB b c = true) : ltB a c = true := blTr h1 h2
theorem ltIrr (a : ByteArray) : ltB a a = false := by
 cases h : ltB a a with
 | false => rfl
 | true => have := ltA h; rw [h] at this; cases this
def ascC (l : List Cell) : Prop := ∀ i, i + 1 < l.length → ltB (nth l i).key (nth l (i + 1)).key = true
theorem cellsB_asc {l : List Cell} (h : cellsB l = true) : ascC l := fun i hi => by
 unfold cellsB at h
 simp only [Bool.and_eq_true] at h
 have := allTo_iff.1 h.2 (i + 1) hi
 unfold cellB at this
 simp only [Bool.and_eq_true, Bool.or_eq_true, beq_iff_eq] at this
 rcases this.2 with h | h
 ·omega
 ·exact h
theorem atC_gt {l : List Cell} (h : ascC l) {k : ByteArray} : ∀ i, atC l k < i → i < l.length → ltB k (nth l i).key = true := by
 intro i
 induction i with
 | zero => intro h; omega
 | succ i ih =>
  intro h1 h2
  have hs := h i h2
  rcases Nat.lt_or_ge (atC l k) i with h3 | h3
  ·exact ltTr (ih h3 (by omega)) hs
  ·have e : i = atC l k := by omega
   have h4 := atC_at (l := l) (k := k) (by omega)
   rw [← e] at h4
   by_cases e2 : (nth l i).key = k
   ·rw [← e2]; exact hs
   ·exact ltTr (ltT e2 h4) hs
def goP (l : List Cell) (k : ByteArray) (v : Int) (i : Nat) : List Cell :=
 if atC l k < i then (l.take (atC l k) ++ [⟨k, v⟩]) ++ (l.take i).drop (atC l k + if isK l k = true then 1 else 0) else l.take i
theorem goP_zero (l : List Cell) (k : ByteArray) (v : Int) : goP l k v 0 = [] := by unfold goP; simp
theorem take_snoc {α : Type} [Inhabited α] {l : List α} {i : Nat} (h : i < l.length) : l.take (i + 1) = l.take i ++ [nth l i] := by
 rw [List.take_add_one]; simp [nth, h]
theorem goP_low {l : List Cell} {k : ByteArray} {v : Int} {i : Nat} (h : i < atC l k) (hl : i < l.length) : goP l k v (i + 1) = goP l k v i ++ [nth l i] := by
 unfold goP
 rw [if_neg (show ¬ atC l k < i + 1 by omega), if_neg (show ¬ atC l k < i by omega), take_snoc hl]
theorem goP_at {l : List Cell} {k : ByteArray} {v : Int} {i : Nat} (h : i = atC l k) (hl : i < l.length) : goP l k v (i + 1) = if (nth l i).key = k then goP l k v i ++ [⟨k, v⟩] else (goP l k v i ++ [⟨k, v⟩]) ++ [nth l i] := by
 unfold goP
 rw [if_pos (show atC l k < i + 1 by omega), if_neg (show ¬ atC l k < i by omega), take_snoc hl]
 by_cases e : (nth l i).key = k
 ·have hk : isK l k = true := isK_iff.2 ⟨by omega, by rw [← h]; exact e⟩
  rw [if_pos e, if_pos hk, List.drop_eq_nil_of_le (by rw [List.length_append, List.length_take, List.length_singleton]; omega)]
  rw [List.append_nil, h]
 ·have hk : isK l k = false := by
   cases hq : isK l k with
   | false => rfl
   | true => have := (isK_iff.1 hq).2; rw [← h] at this; exact absurd this e
  simp only [if_neg e, hk, Bool.false_eq_true, if_false, Nat.add_zero]
  rw [List.drop_append_of_le_length (by rw [List.length_take]; omega), List.drop_eq_nil_of_le (by rw [List.length_take]; omega), List.nil_append, h]
theorem goP_high {l : List Cell} {k : ByteArray} {v : Int} {i : Nat} (h : atC l k < i) (hl : i < l.length) : goP l k v (i + 1) = goP l k v i ++ [nth l i] := by
 unfold goP
 rw [if_pos (show atC l k < i + 1 by omega), if_pos h, take_snoc hl, List.drop_append_of_le_length (by rw [List.length_take]; split <;> omega)]
 simp only [List.append_assoc]
theorem goP_end {l : List Cell} {k : ByteArray} {v : Int} : putC l k v = if atC l k < l.length then goP l k v l.length else goP l k v l.length ++ [⟨k, v⟩] := by
 unfold goP putC
 have hle := atC_le l k
 by_cases h : atC l k < l.length
 ·simp only [if_pos h, List.take_length]
  by_cases hk : isK l k = true
  ·rw [if_pos hk, if_pos hk, List.set_eq_take_append_cons_drop, if_pos h]
   simp
  ·rw [if_neg hk, if_neg hk, Nat.add_zero]
 ·have e : atC l k = l.length := by omega
  have hk : isK l k = false := by
   cases hq : isK l k with
   | false => rfl
   | true => have := (isK_iff.1 hq).1; omega
  simp only [if_neg h, hk, Bool.false_eq_true, if_false, e]
  simp
def plC (l : List Cell) (k : ByteArray) : Int := match firstTo (fun i => decide ((nth l i).key = k)) l.length with
 | some i => (i : Int)
 | none => -1
theorem plC_asc {l : List Cell} (h : ascC l) (k : ByteArray) : plC l k = if isK l k = true then ((atC l k : Nat) : Int) else -1 := by
 unfold plC
 cases hf : firstTo (fun i => decide ((nth l i).key = k)) l.length with
 | none =>
  have hn := firstTo_no hf
  rw [if_neg]
  intro hk
  obtain ⟨h1, h2⟩ := isK_iff.1 hk
  have := hn _ h1
  simp at this
  exact this h2
 | some i =>
  obtain ⟨h1, h2, h3⟩ := firstTo_lt hf
  have h2 : (nth l i).key = k := by simpa using h2
  have e : atC l k = i := by
   rcases Nat.lt_trichotomy i (atC l k) with h4 | h4 | h4
   ·have := atC_lt h4; rw [h2, ltIrr] at this; cases this
   ·exact h4.symm
   ·have := atC_gt h i h4 h1; rw [h2, ltIrr] at this; cases this
  rw [if_pos (isK_iff.2 ⟨by omega, by rw [e]; exact h2⟩), e]
end Go.Proofs.YtbgcaneflfdddaaGreatDoor
/- What the reference draws for parts: cells, cores, calls. -/
namespace Go.Proofs.YtbgcaneflfdddaaGreatDoor
open Go.RowKit Go
variable [GC]
def isSP (q : ByteArray → Bool) (r : D) : Prop := ∃ s : ByteArray, r = .str s ∧ q s = true
theorem isSP.ty {q : ByteArray → Bool} {r : D} (h : isSP q r) : HasVT tbl.tab (.one (.c .str)) r := by obtain ⟨x, rfl, _⟩ := h; trivial
def strRowP (q : ByteArray → Bool) : List D → Bool
 | [.str s] => q s
 | _ => false
theorem strRowP_ok {q : ByteArray → Bool} {r : List D} (h : strRowP q r = true) : ∃ s, r = [.str s] ∧ q s = true := by
 match r, h with
 | [.str s], h => exact ⟨s, rfl, h⟩
theorem d_l1StrP (q : ByteArray → Bool) (s0 : ByteArray) (h0 : q s0 = true) (rows0 : List (List D)) (hl : 0 < rows0.length) (hs : rows0.all (strRowP q) = true) : Dr 125 [.sl rows0] (isSP q) := by
 have hs' : ∀ r ∈ rows0, ∃ s : ByteArray, r = [.str s] ∧ q s = true := fun r hr => strRowP_ok (List.all_eq_true.1 hs r hr)
 have hty : HasVT tbl.tab (.one (.c (.sl 9))) (.sl rows0) := by
  show RowsTy _ (tbl.tab _) _
  rw [tab_str]
  exact RowsTy.of fun r hr => by obtain ⟨s, rfl, _⟩ := hs' r hr; exact ⟨trivial, trivial⟩
 refine Dr.of vc_spec_l1Str_ok rfl ty_spec_l1Str_ok (fun cs h => by exact ⟨hty, cur_tys h⟩) (.str s0) ⟨_, rfl, h0⟩ fun rows i sd f1 hl hr hi => ?_; (simp only [cA]); unfold vc_spec_l1Str
 have hn : (rows0.length : Int) ≤ 9223372036854775807 := by
  simp [FitsL, Fits, maxLen] at f1; omega
 ((first | apply den_draw | apply den_drawR); (focus (simp only [VC.den, E.den, dEq, gsH_nil, and_true, lenD]; try exact rfl)); (focus (simp only [VC.den, E.den, dEq, gsH_nil, and_true, lenD]; try exact rfl)); (focus (exact ⟨_, _, _, rfl, by assumption, by assumption⟩)); (focus (first | exact d_l1Below rows0.length | exact Dr.ofR (d_l1Below rows0.length))); (focus (exact fun _ h => isBel.ty h)); rintro _ rows i sd ⟨x, rfl, hx⟩ hr hi; (simp only [cA]))
 refine den_cond (fun _ => ?_) ?_
 ·simp [E.den, lenD]; omega
 have hx2 := hx.2 (by omega)
 have e : rows0[x.toNat]? = some rows0[x.toNat] := List.getElem?_eq_getElem (by omega)
 obtain ⟨s, hs1, hs2⟩ := hs' _ (List.getElem_mem (show x.toNat < rows0.length by omega))
 refine ⟨⟨s, ?_, hs2⟩, _, _, _, rfl, hr, hi⟩
 simp [E.den, e, hs1]
theorem d_l3Key : Dr 126 [] (isSP nameB) := by
 refine Dr.of vc_spec_l3Key_ok rfl ty_spec_l3Key_ok (fun cs h => by exact cur_tys h) (.str ⟨#[97]⟩) ⟨_, rfl, by kernel_rfl⟩ fun rows i sd f1 hl hr hi => ?_; (simp only [cA]); unfold vc_spec_l3Key
 ((first | apply den_draw | apply den_drawR); (iterate 2 (focus (simp only [VC.den, E.den, dEq, gsH_nil, and_true]; try exact rfl))); (focus (exact ⟨_, _, _, rfl, by assumption, by assumption⟩)); (focus (first | exact d_l1StrP nameB ⟨#[97]⟩ (by kernel_rfl) _ (by decide) (by kernel_rfl) | exact Dr.ofR (d_l1StrP nameB ⟨#[97]⟩ (by kernel_rfl) _ (by decide) (by kernel_rfl)))); (focus (exact fun _ h => isSP.ty h)); rintro _ rows i sd ⟨s, rfl, hs⟩ hr hi; (simp only [cA]))
 exact ⟨⟨_, rfl, hs⟩, _, _, _, rfl, hr, hi⟩
theorem c_spec_l3At (l : List Cell) (k : ByteArray) : Fun Tryz.prog 141 none [encS l, .str k] (.int .i64 (plC l k)) [] := by
 refine Fun.ofV vc_spec_l3At_ok ty_spec_l3At_ok rfl ?_ (fun hfit => ?_)
 ·exact ⟨ty_CellS l, trivial, trivial⟩
 have hl : l.length ≤ 9223372036854775807 := fits_encS hfit.1
 unfold vc_spec_l3At
 refine den_for l.length (fun k => [.int .i64 k]) (fun i => ∀ j, j < i → decide ((nth l j).key = k) = false) rfl (fun j h => by omega) ?_
 intro i hi hI _
 simp only [cA]
 refine den_ite (fun h2 => ?_) (fun h2 => ?_)
 ·simp only [E.den, dEq, iEq, sEq] at h2
  have h2 : i < l.length := by simp at h2; exact h2
  (refine den_cond (fun hg => ?_) ?_; (focus (simp only [gsH, gE, E.den, dEq, iEq, sEq] at hg ⊢; (try simp only [D.bool.injEq] at hg); (try simp only [D.bool.injEq]); grind)))
  refine den_ite (fun h3 => den_ret ?_) (fun h3 => ?_)
  ·simp only [E.den, dEq, iEq, sEq, row_Cell, cells_Cell, Int.toNat_natCast] at h3 ⊢
   have h3 : (nth l i).key = k := by simpa using h3
   have e : firstTo (fun i => decide ((nth l i).key = k)) l.length = some i := firstTo_some (by simpa using h3) hI h2
   unfold plC
   rw [e]
  ·simp only [E.den, dEq, iEq, sEq, row_Cell, cells_Cell, Int.toNat_natCast] at h3
   have h3 : (nth l i).key ≠ k := by simpa using h3
   refine den_next h2 ?_ fun j hj => ?_
   ·simp only [E.den, dEq, iEq, sEq]; rw [ar_add (by omega) (by omega)]; rfl
   ·rcases Nat.lt_or_ge j i with h | h
    ·exact hI j h
    ·obtain rfl : j = i := by omega
     simpa using h3
 ·simp only [E.den, dEq, iEq, sEq] at h2
  have h2 : i = l.length := by simp at h2; omega
  subst h2
  refine den_ret ?_
  simp only [E.den, dEq, iEq, sEq]
  unfold plC
  rw [firstTo_none hI]
theorem c_spec_l3Put (l : List Cell) (k : ByteArray) (v : Int) (hs : ascC l) (h4 : l.length ≤ 1048576) : FunR Tryz.prog 142 none [encS l, .str k, .int .i64 v] (encS (putC l k v)) [] [(0, 2)] := by
 refine FunR.ofV vc_spec_l3Put_ok ty_spec_l3Put_ok rt_spec_l3Put_ok rfl ?_ (fun hfit => ?_)
 ·exact ⟨ty_CellS l, trivial, rfl, trivial⟩
 have hle := atC_le l k
 unfold vc_spec_l3Put
 refine den_for l.length (fun i => [.bool (decide (atC l k < i)), encS (goP l k v i), .int .i64 i]) (fun _ => True) (by simp [E.den, goP_zero, encS]) trivial ?_
 intro i hi _ _
 have hgl : (goP l k v i).length ≤ i + 1 := by
  unfold goP
  split
  ·simp; omega
  ·simp; omega
 simp only [cA]
 refine den_ite (fun h2 => ?_) (fun h2 => ?_)
 ·simp only [E.den, dEq, iEq, sEq] at h2
  have h2 : i < l.length := by simp at h2; exact h2
  (refine den_cond (fun hg => ?_) ?_; (focus (simp only [gsH, gE, E.den, dEq, iEq, sEq] at hg ⊢; (try simp only [D.bool.injEq] at hg); (try simp only [D.bool.injEq]); grind)))
  refine den_ite (fun h3 => ?_) (fun h3 => ?_)
  ·simp only [E.den, dEq, iEq, sEq, row_Cell, cells_Cell, Int.toNat_natCast] at h3
   have hge : cmpS .geq (nth l i).key k = !ltB (nth l i).key k := by rfl
   simp at h3
   have ea : i = atC l k := by
    rcases Nat.lt_or_ge i (atC l k) with h | h
    ·have := atC_lt h; rw [h3.2] at this; cases this
    ·omega
   refine den_cond (fun _ => ?_) ?_
   ·simp only [E.den, dEq, iEq, sEq]; simp; omega
   have hgo := goP_at (v := v) ea h2
   refine den_ite (fun h5 => ?_) (fun h5 => ?_)
   ·simp only [E.den, dEq, iEq, sEq, row_Cell, cells_Cell, Int.toNat_natCast] at h5
    have h5 : (nth l i).key ≠ k := by simpa using h5
    rw [if_neg h5] at hgo
    refine den_cond (fun _ => ?_) ?_
    ·simp only [E.den, dEq, iEq, sEq]; simp; omega
    refine den_next h2 ?_ trivial
    rw [hgo, decide_eq_true (show atC l k < i + 1 by omega)]
    simp only [E.den, dEq, iEq, sEq, row_Cell, cells_Cell, Int.toNat_natCast]
    rw [ar_add (by omega) (by omega)]
    simp [encS, cells_Cell]
   ·simp only [E.den, dEq, iEq, sEq, row_Cell, cells_Cell, Int.toNat_natCast] at h5
    have h5 : (nth l i).key = k := by simpa using h5
    rw [if_pos h5] at hgo
    refine den_next h2 ?_ trivial
    rw [hgo, decide_eq_true (show atC l k < i + 1 by omega)]
    simp only [E.den, dEq, iEq, sEq, row_Cell, cells_Cell, Int.toNat_natCast]
    rw [ar_add (by omega) (by omega)]
    simp [encS, cells_Cell]
  ·simp only [E.den, dEq, iEq, sEq, row_Cell, cells_Cell, Int.toNat_natCast] at h3
   have hge : cmpS .geq (nth l i).key k = !ltB (nth l i).key k := by rfl
   have hnk : (nth l i).key ≠ k := by
    intro e
    rcases Nat.lt_trichotomy i (atC l k) with h | h | h
    ·have := atC_lt h; rw [e, ltIrr] at this; cases this
    ·rw [e, ltIrr] at h3; simp at h3; omega
    ·have := atC_gt hs i h h2; rw [e, ltIrr] at this; cases this
   have hni : i ≠ atC l k := by
    intro e
    have := atC_at (l := l) (k := k) (by omega)
    rw [← e] at this
    rw [this] at h3; simp at h3; omega
   have hgo : goP l k v (i + 1) = goP l k v i ++ [nth l i] := by
    rcases Nat.lt_or_ge i (atC l k) with h | h
    ·exact goP_low h h2
    ·exact goP_high (by omega) h2
   have hdc : decide (atC l k < i + 1) = decide (atC l k < i) := decide_eq_decide.2 (by omega)
   refine den_ite (fun h5 => ?_) (fun h5 => ?_)
   ·refine den_cond (fun _ => ?_) ?_
    ·simp only [E.den, dEq, iEq, sEq]; simp; omega
    refine den_next h2 ?_ trivial
    rw [hgo, hdc]
    simp only [E.den, dEq, iEq, sEq, row_Cell, cells_Cell, Int.toNat_natCast]
    rw [ar_add (by omega) (by omega)]
    simp [encS, cells_Cell]
   ·exfalso
    simp only [E.den, dEq, iEq, sEq, row_Cell, cells_Cell, Int.toNat_natCast] at h5
    exact hnk (by simpa using h5)
 ·simp only [E.den, dEq, iEq, sEq] at h2
  have h2 : i = l.length := by simp at h2; omega
  subst h2
  have hend := goP_end (l := l) (k := k) (v := v)
  refine den_ite (fun h3 => ?_) (fun h3 => ?_)
  ·simp only [E.den, dEq, iEq, sEq] at h3
   have h3 : ¬ atC l k < l.length := by simpa using h3
   refine den_cond (fun _ => ?_) (den_ret ?_)
   ·simp only [E.den, dEq, iEq, sEq]; simp; omega
   ·rw [hend, if_neg h3]
    simp only [E.den, dEq, iEq, sEq]
    simp [encS, cells_Cell]
  ·simp only [E.den, dEq, iEq, sEq] at h3
   have h3 : atC l k < l.length := by simpa using h3
   refine den_ret ?_
   rw [hend, if_pos h3]
   simp only [E.den, dEq, iEq, sEq]
def isCs (r : D) : Prop := ∃ l : List Cell, r = encS l ∧ cellsB l = true
theorem isCs.ty {r : D} (h : isCs r) : HasVT tbl.tab (.one (.c (.sl 125))) r := by obtain ⟨l, rfl, _⟩ := h; exact ty_CellS l
structure CsSt where
 l : List Cell
 n : Int
 rows : List (List D)
 i : Int
 h : Int
def CsSt.lay (s : CsSt) : List D := [encS s.l, .int .i64 s.n, .sl s.rows, .int .i64 s.i, .int .i64 s.h]
theorem d_l3Cells : DrR 122 [] isCs [(0, 2)] := by
 refine DrR.of vc_spec_l3Cells_ok rt_spec_l3Cells_ok rfl ty_spec_l3Cells_ok (fun cs h => by exact cur_tys h) (encS ([] : List Cell)) ⟨_, rfl, by decide⟩ fun rows i sd f1 hl hr hi => ?_; (simp only [cA]); unfold vc_spec_l3Cells
 ((first | apply den_draw | apply den_drawR); (iterate 2 (focus (simp only [VC.den, E.den, dEq, gsH_nil, and_true]; try exact rfl))); (focus (exact ⟨_, _, _, rfl, by assumption, by assumption⟩)); (focus (first | exact d_l1Below _ | exact Dr.ofR (d_l1Below _))); (focus (exact fun _ h => isBel.ty h)); rintro _ rows i sd ⟨n, rfl, hn⟩ hr hi; (simp only [cA]))
 have hn2 := hn.2 (by omega)
 refine den_loop CsSt CsSt.lay (fun s => RowsTy tbl.tab [.int .u8] s.rows ∧ 0 ≤ s.i ∧ 0 ≤ s.n ∧ s.n ≤ 6 ∧ cellsB s.l = true) (fun s => s.n.toNat) ⟨[], n, rows, i, sd⟩ (fun s s' h => by simp [CsSt.lay] at h; rw [h.2.1]) rfl ⟨hr, hi, hn.1, by simp only; omega, show cellsB [] = true by decide⟩ ?_
 rintro ⟨l, m, rows, i, sd⟩ ⟨hr, hi, hm, hm6, hl⟩ -
 simp only at hr hi hm hm6 hl
 have hl4 := cellsB_len hl
 have hms : 0 < m → arI .sub .i64 m 1 = m - 1 := fun h => ar_sub (by omega) (by omega)
 simp only [CsSt.lay, List.cons_append, List.nil_append]
 refine den_ite (fun h => ?_) (fun h => ?_)
 ·simp [E.den, cmpI] at h
  ((first | apply den_draw | apply den_drawR); (iterate 2 (focus (simp only [VC.den, E.den, dEq, gsH_nil, and_true]; try exact rfl))); (focus (exact ⟨_, _, _, rfl, by assumption, by assumption⟩)); (focus (first | exact d_l3Key | exact Dr.ofR (d_l3Key))); (focus (exact fun _ h => isSP.ty h)); rintro _ rows i sd ⟨k, rfl, hk⟩ hr hi; (simp only [cA]))
  ((first | refine den_call ?_ (c_spec_l3At l k) (rfl) ?_ | refine den_callR ?_ (c_spec_l3At l k) (rfl) ?_ | refine den_call ?_ (.ofR (c_spec_l3At l k)) (rfl) ?_); (focus (simp only [VC.den, E.den, dEq, gsH_nil, and_true]; try exact rfl)); (simp only [cA]))
  refine den_ite (fun h2 => ?_) (fun h2 => ?_)
  ·simp only [E.den, dEq, iEq, sEq] at h2
   rw [plC_asc (cellsB_asc hl)] at h2
   ((first | apply den_draw | apply den_drawR); (iterate 2 (focus (simp only [VC.den, E.den, dEq, gsH_nil, and_true]; try exact rfl))); (focus (exact ⟨_, _, _, rfl, by assumption, by assumption⟩)); (focus (first | exact d_l1Below _ | exact Dr.ofR (d_l1Below _))); (focus (exact fun _ h => isBel.ty h)); rintro _ rows i sd ⟨y, rfl, hy⟩ hr hi; (simp only [cA]))
   have hy2 := hy.2 (by omega)
   have hput : cellsB (putC l k y) = true := put_cells hl hk (numB_iff.2 ⟨hy.1, by omega⟩) (fun hc => by
    rw [hc.1] at h2
    simp at h2
    omega)
   ((first | refine den_call ?_ (c_spec_l3Put l k y (cellsB_asc hl) (by omega)) (ty_CellS _) ?_ | refine den_callR ?_ (c_spec_l3Put l k y (cellsB_asc hl) (by omega)) (ty_CellS _) ?_ | refine den_call ?_ (.ofR (c_spec_l3Put l k y (cellsB_asc hl) (by omega))) (ty_CellS _) ?_); (focus (simp only [VC.den, E.den, dEq, gsH_nil, and_true]; try exact rfl)); (simp only [cA]))
   refine ⟨⟨putC l k y, m - 1, rows, i, sd⟩, ?_, ⟨hr, hi, by simp only; omega, by simp only; omega, hput⟩, by simp only; omega⟩
   simp [E.den, CsSt.lay, hms h]
  ·refine ⟨⟨l, m - 1, rows, i, sd⟩, ?_, ⟨hr, hi, by simp only; omega, by simp only; omega, hl⟩, by simp only; omega⟩
   simp [E.den, CsSt.lay, hms h]
 ·exact ⟨⟨l, rfl, hl⟩, _, _, _, rfl, hr, hi⟩
def fewT (s : ByteArray) : Bool := decide (s.size ≤ 100)
theorem d_l3Text : Dr 127 [] (isSP fewT) := by
 refine Dr.of vc_spec_l3Text_ok rfl ty_spec_l3Text_ok (fun cs h => by exact cur_tys h) (.str noText) ⟨_, rfl, by decide⟩ fun rows i sd f1 hl hr hi => ?_; (simp only [cA]); unfold vc_spec_l3Text
 ((first | apply den_draw | apply den_drawR); (iterate 2 (focus (simp only [VC.den, E.den, dEq, gsH_nil, and_true]; try exact rfl))); (focus (exact ⟨_, _, _, rfl, by assumption, by assumption⟩)); (focus (first | exact d_l3Cells | exact Dr.ofR (d_l3Cells))); (focus (exact fun _ h => isCs.ty h)); rintro _ rows i sd ⟨l, rfl, hl⟩ hr hi; (simp only [cA]))
 ((first | refine den_call ?_ (c_spec_FormatCells l) (trivial) ?_ | refine den_callR ?_ (c_spec_FormatCells l) (trivial) ?_ | refine den_call ?_ (.ofR (c_spec_FormatCells l)) (trivial) ?_); (focus (simp only [VC.den, E.den, dEq, gsH_nil, and_true]; try exact rfl)); (simp only [cA]))
 have hf := fmtC_size l
 ((first | apply den_draw | apply den_drawR); (iterate 2 (focus (simp only [VC.den, E.den, dEq, gsH_nil, and_true]; try exact rfl))); (focus (exact ⟨_, _, _, rfl, by assumption, by assumption⟩)); (focus (first | exact d_l1Below _ | exact Dr.ofR (d_l1Below _))); (focus (exact fun _ h => isBel.ty h)); rintro _ rows i sd ⟨y, rfl, hy⟩ hr hi; (simp only [cA]))
 refine den_ite (fun h => ?_) (fun h => ?_)
 ·((first | apply den_draw | apply den_drawR); (iterate 2 (focus (simp only [VC.den, E.den, dEq, gsH_nil, and_true]; try exact rfl))); (focus (exact ⟨_, _, _, rfl, by assumption, by assumption⟩)); (focus (first | exact d_l1StrP (fun s => decide (s.size ≤ 40)) noText (by decide) _ (by decide) (by kernel_rfl) | exact Dr.ofR (d_l1StrP (fun s => decide (s.size ≤ 40)) noText (by decide) _ (by decide) (by kernel_rfl)))); (focus (exact fun _ h => isSP.ty h)); rintro _ rows i sd ⟨s, rfl, hs⟩ hr hi; (simp only [cA]))
  have hs : s.size ≤ 40 := by simpa using hs
  refine den_cond (fun _ => ?_) ?_
  ·simp only [E.den, dEq, iEq, sEq]; refine dec_ok ?_; unfold maxLen; omega
  exact ⟨⟨_, rfl, by unfold fewT; simp only [E.den, List.map_cons, List.map_nil, List.cons_append, List.nil_append, List.getD_cons_zero, List.getD_cons_succ, D.toS_str, ByteArray.size_append, decide_eq_true_eq]; omega⟩, _, _, _, rfl, hr, hi⟩
 refine den_ite (fun h => ?_) (fun h => ?_)
 ·((first | apply den_draw | apply den_drawR); (iterate 2 (focus (simp only [VC.den, E.den, dEq, gsH_nil, and_true]; try exact rfl))); (focus (exact ⟨_, _, _, rfl, by assumption, by assumption⟩)); (focus (first | exact d_l1StrP fewT noText (by decide) _ (by decide) (by kernel_rfl) | exact Dr.ofR (d_l1StrP fewT noText (by decide) _ (by decide) (by kernel_rfl)))); (focus (exact fun _ h => isSP.ty h)); rintro _ rows i sd ⟨s, rfl, hs⟩ hr hi; (simp only [cA]))
  exact ⟨⟨_, rfl, hs⟩, _, _, _, rfl, hr, hi⟩
 ·exact ⟨⟨_, rfl, by unfold fewT; simp; omega⟩, _, _, _, rfl, hr, hi⟩
def isCl (r : D) : Prop := ∃ x : Call, r = enc x ∧ x.text.size ≤ 100
theorem isCl.ty {r : D} (h : isCl r) : HasVT tbl.tab (.one (.agg [.str, .str, .int .i64, .str])) r := by obtain ⟨x, rfl, _⟩ := h; exact ty_Call x
theorem d_l3Call : Dr 92 [] isCl := by
 refine Dr.of vc_spec_l3Call_ok rfl ty_spec_l3Call_ok (fun cs h => by exact cur_tys h) (enc (⟨noText, noText, 0, noText⟩ : Call)) ⟨_, rfl, show noText.size ≤ 100 by decide⟩ fun rows i sd f1 hl hr hi => ?_; (simp only [cA]); unfold vc_spec_l3Call
 ((first | apply den_draw | apply den_drawR); (iterate 2 (focus (simp only [VC.den, E.den, dEq, gsH_nil, and_true]; try exact rfl))); (focus (exact ⟨_, _, _, rfl, by assumption, by assumption⟩)); (focus (first | exact d_l1Str _ (by decide) rfl | exact Dr.ofR (d_l1Str _ (by decide) rfl))); (focus (exact fun _ h => isS.ty h)); rintro _ rows i sd ⟨s, rfl⟩ hr hi; (simp only [cA]))
 refine den_ite (fun h => ?_) (fun h => ?_)
 ·((first | apply den_draw | apply den_drawR); (iterate 2 (focus (simp only [VC.den, E.den, dEq, gsH_nil, and_true]; try exact rfl))); (focus (exact ⟨_, _, _, rfl, by assumption, by assumption⟩)); (focus (first | exact d_l3Key | exact Dr.ofR (d_l3Key))); (focus (exact fun _ h => isSP.ty h)); rintro _ rows i sd ⟨k, rfl, hk⟩ hr hi; (simp only [cA]))
  exact ⟨⟨⟨s, k, 0, noText⟩, rfl, show noText.size ≤ 100 by decide⟩, _, _, _, rfl, hr, hi⟩
 refine den_ite (fun h => ?_) (fun h => ?_)
 ·((first | apply den_draw | apply den_drawR); (iterate 2 (focus (simp only [VC.den, E.den, dEq, gsH_nil, and_true]; try exact rfl))); (focus (exact ⟨_, _, _, rfl, by assumption, by assumption⟩)); (focus (first | exact d_l3Key | exact Dr.ofR (d_l3Key))); (focus (exact fun _ h => isSP.ty h)); rintro _ rows i sd ⟨k, rfl, hk⟩ hr hi; (simp only [cA]))
  ((first | apply den_draw | apply den_drawR); (iterate 2 (focus (simp only [VC.den, E.den, dEq, gsH_nil, and_true]; try exact rfl))); (focus (exact ⟨_, _, _, rfl, by assumption, by assumption⟩)); (focus (first | exact d_l1Below _ | exact Dr.ofR (d_l1Below _))); (focus (exact fun _ h => isBel.ty h)); rintro _ rows i sd ⟨y, rfl, hy⟩ hr hi; (simp only [cA]))
  exact ⟨⟨⟨s, k, y, noText⟩, rfl, show noText.size ≤ 100 by decide⟩, _, _, _, rfl, hr, hi⟩
 refine den_ite (fun h => ?_) (fun h => ?_)
 ·((first | apply den_draw | apply den_drawR); (iterate 2 (focus (simp only [VC.den, E.den, dEq, gsH_nil, and_true]; try exact rfl))); (focus (exact ⟨_, _, _, rfl, by assumption, by assumption⟩)); (focus (first | exact d_l1Below _ | exact Dr.ofR (d_l1Below _))); (focus (exact fun _ h => isBel.ty h)); rintro _ rows i sd ⟨y, rfl, hy⟩ hr hi; (simp only [cA]))
  exact ⟨⟨⟨s, noText, y, noText⟩, rfl, show noText.size ≤ 100 by decide⟩, _, _, _, rfl, hr, hi⟩
 refine den_ite (fun h => ?_) (fun h => ?_)
 ·((first | apply den_draw | apply den_drawR); (iterate 2 (focus (simp only [VC.den, E.den, dEq, gsH_nil, and_true]; try exact rfl))); (focus (exact ⟨_, _, _, rfl, by assumption, by assumption⟩)); (focus (first | exact d_l3Text | exact Dr.ofR (d_l3Text))); (focus (exact fun _ h => isSP.ty h)); rintro _ rows i sd ⟨t, rfl, ht⟩ hr hi; (simp only [cA]))
  exact ⟨⟨⟨s, noText, 0, t⟩, rfl, by unfold fewT at ht; simpa using ht⟩, _, _, _, rfl, hr, hi⟩
 ·exact ⟨⟨⟨s, noText, 0, noText⟩, rfl, show noText.size ≤ 100 by decide⟩, _, _, _, rfl, hr, hi⟩
theorem d_l2Method : Dr 123 [] isS := by
 refine Dr.of vc_spec_l2Method_ok rfl ty_spec_l2Method_ok (fun cs h => by exact cur_tys h) (.str noText) ⟨_, rfl⟩ fun rows i sd f1 hl hr hi => ?_; (simp only [cA]); unfold vc_spec_l2Method
 ((first | apply den_draw | apply den_drawR); (iterate 2 (focus (simp only [VC.den, E.den, dEq, gsH_nil, and_true]; try exact rfl))); (focus (exact ⟨_, _, _, rfl, by assumption, by assumption⟩)); (focus (first | exact d_l1Once _ | exact Dr.ofR (d_l1Once _))); (focus (exact fun _ h => isB.ty h)); rintro _ rows i sd ⟨b, rfl⟩ hr hi; (simp only [cA]))
 refine den_ite (fun h => ?_) (fun h => ?_)
 ·((first | apply den_draw | apply den_drawR); (iterate 2 (focus (simp only [VC.den, E.den, dEq, gsH_nil, and_true]; try exact rfl))); (focus (exact ⟨_, _, _, rfl, by assumption, by assumption⟩)); (focus (first | exact d_l1Str _ (by decide) rfl | exact Dr.ofR (d_l1Str _ (by decide) rfl))); (focus (exact fun _ h => isS.ty h)); rintro _ rows i sd ⟨s, rfl⟩ hr hi; (simp only [cA]))
  exact ⟨⟨_, rfl⟩, _, _, _, rfl, hr, hi⟩
 ·((first | apply den_draw | apply den_drawR); (iterate 2 (focus (simp only [VC.den, E.den, dEq, gsH_nil, and_true]; try exact rfl))); (focus (exact ⟨_, _, _, rfl, by assumption, by assumption⟩)); (focus (first | exact d_l1Str _ (by decide) rfl | exact Dr.ofR (d_l1Str _ (by decide) rfl))); (focus (exact fun _ h => isS.ty h)); rintro _ rows i sd ⟨s, rfl⟩ hr hi; (simp only [cA]))
  exact ⟨⟨_, rfl⟩, _, _, _, rfl, hr, hi⟩
theorem d_l3AnyCall : Dr 91 [] isCl := by
 refine Dr.of vc_spec_l3AnyCall_ok rfl ty_spec_l3AnyCall_ok (fun cs h => by exact cur_tys h) (enc (⟨noText, noText, 0, noText⟩ : Call)) ⟨_, rfl, show noText.size ≤ 100 by decide⟩ fun rows i sd f1 hl hr hi => ?_; (simp only [cA]); unfold vc_spec_l3AnyCall
 ((first | apply den_draw | apply den_drawR); (iterate 2 (focus (simp only [VC.den, E.den, dEq, gsH_nil, and_true]; try exact rfl))); (focus (exact ⟨_, _, _, rfl, by assumption, by assumption⟩)); (focus (first | exact d_l3Call | exact Dr.ofR (d_l3Call))); (focus (exact fun _ h => isCl.ty h)); rintro _ rows i sd ⟨x, rfl, hx⟩ hr hi; (simp only [cA]))
 ((first | apply den_draw | apply den_drawR); (iterate 2 (focus (simp only [VC.den, E.den, dEq, gsH_nil, and_true]; try exact rfl))); (focus (exact ⟨_, _, _, rfl, by assumption, by assumption⟩)); (focus (first | exact d_l1Below _ | exact Dr.ofR (d_l1Below _))); (focus (exact fun _ h => isBel.ty h)); rintro _ rows i sd ⟨y, rfl, hy⟩ hr hi; (simp only [cA]))
 refine den_ite (fun h => ?_) (fun h => ?_)
 ·((first | apply den_draw | apply den_drawR); (iterate 2 (focus (simp only [VC.den, E.den, dEq, gsH_nil, and_true]; try exact rfl))); (focus (exact ⟨_, _, _, rfl, by assumption, by assumption⟩)); (focus (first | exact d_l2Method | exact Dr.ofR (d_l2Method))); (focus (exact fun _ h => isS.ty h)); rintro _ rows i sd ⟨s, rfl⟩ hr hi; (simp only [cA]))
  exact ⟨⟨⟨s, x.key, x.val, x.text⟩, rfl, hx⟩, _, _, _, rfl, hr, hi⟩
 refine den_ite (fun h => ?_) (fun h => ?_)
 ·((first | apply den_draw | apply den_drawR); (iterate 2 (focus (simp only [VC.den, E.den, dEq, gsH_nil, and_true]; try exact rfl))); (focus (exact ⟨_, _, _, rfl, by assumption, by assumption⟩)); (focus (first | exact d_l1Word | exact Dr.ofR (d_l1Word))); (focus (exact fun _ h => isS.ty h)); rintro _ rows i sd ⟨s, rfl⟩ hr hi; (simp only [cA]))
  exact ⟨⟨⟨x.method, s, x.val, x.text⟩, rfl, hx⟩, _, _, _, rfl, hr, hi⟩
 refine den_ite (fun h => ?_) (fun h => ?_)
 ·((first | apply den_draw | apply den_drawR); (iterate 2 (focus (simp only [VC.den, E.den, dEq, gsH_nil, and_true]; try exact rfl))); (focus (exact ⟨_, _, _, rfl, by assumption, by assumption⟩)); (focus (first | exact d_l1Odd | exact Dr.ofR (d_l1Odd))); (focus (exact fun _ h => isI.ty h)); rintro _ rows i sd ⟨v, rfl⟩ hr hi; (simp only [cA]))
  exact ⟨⟨⟨x.method, x.key, v, x.text⟩, rfl, hx⟩, _, _, _, rfl, hr, hi⟩
 refine den_ite (fun h => ?_) (fun h => ?_)
 ·((first | apply den_draw | apply den_drawR); (iterate 2 (focus (simp only [VC.den, E.den, dEq, gsH_nil, and_true]; try exact rfl))); (focus (exact ⟨_, _, _, rfl, by assumption, by assumption⟩)); (focus (first | exact d_l1StrP fewT noText (by decide) _ (by decide) (by kernel_rfl) | exact Dr.ofR (d_l1StrP fewT noText (by decide) _ (by decide) (by kernel_rfl)))); (focus (exact fun _ h => isSP.ty h)); rintro _ rows i sd ⟨s, rfl, hs⟩ hr hi; (simp only [cA]))
  exact ⟨⟨⟨x.method, x.key, x.val, s⟩, rfl, by unfold fewT at hs; simpa using hs⟩, _, _, _, rfl, hr, hi⟩
 ·exact ⟨⟨x, rfl, hx⟩, _, _, _, rfl, hr, hi⟩
end Go.Proofs.YtbgcaneflfdddaaGreatDoor
/- The laws of parts as plain laws of data. -/
namespace Go.Proofs.YtbgcaneflfdddaaGreatDoor
open Go.RowKit Go
variable [GC]
theorem call_bad {p : Part} {x : Call} (h : partB p = false ∨ callB x = false) : callD p x = (p, rep 7 0 0 0) := by unfold callD; rw [if_pos h]
theorem call_no {p : Part} {x : Call} (hp : partB p = true) (hx : callB x = true) (ho : offersB (faceOf p) (wantZ x.method) = false) : callD p x = (p, rep 1 0 (wantZ x.method) (faceOf p)) := by
 unfold callD; rw [if_neg (by simp [hp, hx]), if_pos ho]
theorem call_yes {p : Part} {x : Call} (hp : partB p = true) (hx : callB x = true) (ho : offersB (faceOf p) (wantZ x.method) = true) : callD p x = thrD p.layers.length p x := by
 unfold callD; rw [if_neg (by simp [hp, hx]), if_neg (by simp [ho])]
theorem call_ok {p : Part} {x : Call} (hp : partB p = true) (hx : callB x = true) (ho : offersB (faceOf p) (wantZ x.method) = true) : OkR p (callD p x) := by
 rw [call_yes hp hx ho]
 exact thr_ok _ p x hp (Nat.le_refl _) hx ho
theorem call_keeps {p : Part} (hp : partB p = true) (x : Call) : partB (callD p x).1 = true ∧ ShP p (callD p x).1 := by
 by_cases hx : callB x = true
 ·by_cases ho : offersB (faceOf p) (wantZ x.method) = true
  ·have := call_ok hp hx ho
   exact ⟨this.1, this.2.1⟩
  ·rw [call_no hp hx (by simpa using ho)]; exact ⟨hp, ShP.refl _⟩
 ·rw [call_bad (.inr (by simpa using hx))]; exact ⟨hp, ShP.refl _⟩
def stD (p : Part) (l : List Call) : Nat → Part
 | 0 => p
 | k + 1 => (callD (stD p l k) (nth l k)).1
/- Wrapping. -/
theorem wrap_code {p : Part} {s : ByteArray} (h : (wrapP p s).2.code = 0) : partB p = true ∧ layOk s = true ∧ p.layers.length < 3 ∧ offersB (faceOf p) (needN s) = true ∧ (wrapP p s).1 = extP p [⟨s, 0⟩] ∧ partB (extP p [⟨s, 0⟩]) = true := by
 unfold wrapP at h ⊢
 split at h
 ·simp [rep] at h
 rename_i h1
 split at h
 ·simp [rep] at h
 rename_i h2
 split at h
 ·simp [rep] at h
 rename_i h3
 rw [if_neg h1, if_neg h2, if_neg h3]
 have hp : partB p = true := by grind
 have hs : layOk s = true := by grind
 have ho : offersB (faceOf p) (needN s) = true := by simpa using h3
 refine ⟨hp, hs, by omega, ho, rfl, ?_⟩
 obtain ⟨q1, q2, q3⟩ := partB_iff.1 hp
 refine partB_iff.2 ⟨q1, by simp [extP]; omega, fun i hi => ?_⟩
 have hi' : i < p.layers.length + 1 := by simpa [extP] using hi
 have hf : faceAt (extP p [⟨s, 0⟩]) i = faceAt p i := by
  unfold faceAt extP
  split
  ·rfl
  ·rw [nthA_l (by omega)]
 rw [hf]
 by_cases e : i < p.layers.length
 ·have : nth (extP p [⟨s, 0⟩]).layers i = nth p.layers i := nthA_l e
  rw [this]; exact q3 i e
 ·have e : i = p.layers.length := by omega
  subst e
  have : nth (extP p [⟨s, 0⟩]).layers p.layers.length = ⟨s, 0⟩ := by simp [extP, nth]
  rw [this]
  exact ⟨hs, ho, (by decide : numB 0 = true), .inl rfl⟩
theorem extL_len (p : Part) (L : Layer) : (extP p [L]).layers.length = p.layers.length + 1 := by simp [extP]
theorem extL_nth (p : Part) (L : Layer) : nth (extP p [L]).layers p.layers.length = L := by simp [extP, nth]
theorem extL_face (p : Part) (L : Layer) : faceOf (extP p [L]) = giveN L.name := by
 unfold faceOf faceAt
 rw [extL_len, if_neg (by omega), Nat.add_sub_cancel, extL_nth]
theorem call_ext {p : Part} {L : Layer} {x : Call} (hp : partB (extP p [L]) = true) (hx : callB x = true) (ho : offersB (giveN L.name) (wantZ x.method) = true) : callD (extP p [L]) x = thrD (p.layers.length + 1) (extP p [L]) x := by
 rw [call_yes hp hx (by rw [extL_face]; exact ho), extL_len]
theorem ext_down (p : Part) (L : Layer) (x : Call) : thrD p.layers.length (extP p [L]) x = (extP (thrD p.layers.length p x).1 [L], (thrD p.layers.length p x).2) := thr_ext _ p [L] x (Nat.le_refl _)
def unwrapP (p : Part) : Part × Bool := if partB p = false ∨ p.layers.length = 0 then (p, false) else (⟨p.core, p.layers.dropLast⟩, true)
theorem unwrap_ext {p : Part} {L : Layer} (h : partB (extP p [L]) = true) : unwrapP (extP p [L]) = (p, true) := by
 unfold unwrapP
 rw [if_neg (by rw [extL_len, h]; simp)]
 simp [extP]
theorem ext_part {p : Part} {L : Layer} (h : partB (extP p [L]) = true) : partB p = true := by
 obtain ⟨q1, q2, q3⟩ := partB_iff.1 h
 rw [extL_len] at q2 q3
 refine partB_iff.2 ⟨q1, by omega, fun i hi => ?_⟩
 have := q3 i (by omega)
 have hf : faceAt (extP p [L]) i = faceAt p i := by
  unfold faceAt extP
  split
  ·rfl
  ·rw [nthA_l (by omega)]
 have hn : nth (extP p [L]).layers i = nth p.layers i := nthA_l hi
 rw [hf, hn] at this
 exact this
theorem ext_last {p : Part} {L : Layer} (h : partB (extP p [L]) = true) : layOk L.name = true ∧ offersB (faceOf p) (needN L.name) = true ∧ numB L.count = true := by
 obtain ⟨q1, q2, q3⟩ := partB_iff.1 h
 have := q3 p.layers.length (by rw [extL_len]; omega)
 rw [extL_nth] at this
 have hf : faceAt (extP p [L]) p.layers.length = faceOf p := by
  unfold faceOf faceAt extP
  split
  ·rfl
  ·rw [nthA_l (by omega)]
 rw [hf] at this
 exact ⟨this.1, this.2.1, this.2.2.1⟩
theorem faceOf_lt (p : Part) : faceOf p < 64 := faceAt_lt p _
theorem call_pass {p : Part} {L : Layer} {x : Call} (hp : partB (extP p [L]) = true) (hx : callB x = true) (ho : offersB (giveN L.name) (wantZ x.method) = true)
  (hn : L.name ≠ lazyN ∧ L.name ≠ healsN ∧ L.name ≠ twiceN ∧ L.name ≠ counts ∧ (L.name = readsN → x.method ≠ mPut) ∧ (L.name = hears → x.method ≠ mHear)) :
  callD (extP p [L]) x = (extP (callD p x).1 [L], (callD p x).2) := by
 obtain ⟨h1, h2, _⟩ := ext_last hp
 have hof : offersB (faceOf p) (wantZ x.method) = true := by
  rcases sub_call (faceOf_lt p) h1 h2 (callB_ab hx) ho with h | h | h | h
  ·exact absurd h.1 hn.2.2.2.1
  ·exact absurd h.2 (hn.2.2.2.2.2 h.1)
  ·exact absurd h.1 hn.2.1
  ·exact h
 rw [call_ext hp hx ho, call_yes (ext_part hp) hx hof, thrD, extL_nth]
 rw [if_neg (fun h => hn.2.2.2.1 h.1), if_neg (fun h => hn.2.2.2.1 h.1), if_neg (fun h => hn.1 h.1), if_neg (fun h => hn.2.2.2.2.1 h.1 h.2), if_neg (fun h => hn.2.2.2.2.2 h.1 h.2), if_neg (fun h => hn.2.1 h.1), if_neg hn.2.2.1, ext_down]
/- Telling. -/
theorem tell_ne : isKeep (plainCall mTell) = false ∧ mTell ≠ mPut ∧ mTell ≠ mHear ∧ mTell ≠ mHeal ∧ mTell ≠ mStart ∧ mTell ≠ mStop := by decide
theorem does_tell (p : Core) : doesD p (plainCall mTell) = (p, rep 0 p.count 0 0) := by
 have h := tell_ne
 unfold doesD
 have e : (plainCall mTell).method = mTell := rfl
 rw [e, if_neg (by simp), if_neg h.2.2.2.2.1, if_neg h.2.2.2.2.2, if_neg (by simp [h.1]), if_pos rfl]
theorem thr_tell : ∀ (k : Nat) (p : Part), partB p = true → k ≤ p.layers.length → offersB (faceAt p k) (wantZ mTell) = true → ∃ v, thrD k p (plainCall mTell) = (p, rep 0 v 0 0) ∧ 0 ≤ v ∧ v ≤ 999
 | 0, p, hp, _, _ => by
  obtain ⟨h1, _⟩ := partB_iff.1 hp
  have := numB_iff.1 (coreB_iff.1 h1).2.2.2.1
  exact ⟨p.core.count, by rw [thrD, does_tell], this.1, this.2⟩
 | k + 1, p, hp, hk, ho => by
  obtain ⟨h1, h2, h3⟩ := partB_iff.1 hp
  obtain ⟨a, b, c, d⟩ := h3 k (by omega)
  have ho : offersB (giveN (nth p.layers k).name) (wantZ mTell) = true := by
   unfold faceAt at ho; rw [if_neg (by omega)] at ho; exact ho
  have nc := numB_iff.1 c
  have hne := tell_ne
  have e : (plainCall mTell).method = mTell := rfl
  rw [thrD, e]
  split
  ·exact ⟨_, rfl, nc.1, nc.2⟩
  rename_i g1
  rw [if_neg (by simp [hne.1]), if_neg (by simp [hne.1]), if_neg (fun h => hne.2.1 h.2), if_neg (fun h => hne.2.2.1 h.2), if_neg (fun h => hne.2.2.2.1 h.2)]
  have hof : offersB (faceAt p k) (wantZ mTell) = true := by
   rcases sub_call (faceAt_lt p k) a b (by decide) ho with h | h | h | h
   ·exact absurd h g1
   ·exact absurd h.2 hne.2.2.1
   ·exact absurd h.2 hne.2.2.2.1
   ·exact h
  obtain ⟨v, q1, q2, q3⟩ := thr_tell k p hp (by omega) hof
  rw [q1]
  split
  ·refine ⟨min (2 * v) 999, ?_, by omega, by omega⟩
   unfold twoR rep
   rw [if_pos rfl]
   simp only
   rw [wrap_i64 (by omega) (by omega)]
  ·exact ⟨v, rfl, q2, q3⟩
theorem twice_law {p : Part} (h : (wrapP p twiceN).2.code = 0) : ∃ v, 0 ≤ v ∧ v ≤ 999 ∧ (callD p (plainCall mTell)).2 = rep 0 v 0 0 ∧ (callD (wrapP p twiceN).1 (plainCall mTell)).2 = rep 0 (min (2 * v) 999) 0 0 := by
 obtain ⟨h1, h2, h3, h4, h5, h6⟩ := wrap_code h
 rw [h5]
 have e4 : ((needN twiceN : Nat) : Int) = wantZ mTell := by decide +kernel
 have e5 : offersB ((giveN twiceN : Nat) : Int) (wantZ mTell) = true := by decide +kernel
 rw [e4] at h4
 have hne := tell_ne
 have ne := names_ne
 obtain ⟨v, q1, q2, q3⟩ := thr_tell p.layers.length p h1 (Nat.le_refl _) h4
 refine ⟨v, q2, q3, ?_, ?_⟩
 ·rw [call_yes h1 callB_start.2.2 h4, q1]
 ·rw [call_ext (L := ⟨twiceN, 0⟩) h6 callB_start.2.2 e5, thrD, extL_nth, ext_down, q1]
  simp only
  have e : (plainCall mTell).method = mTell := rfl
  rw [e]
  simp only [hne.1, Bool.false_eq_true, and_false, if_false]
  rw [if_neg (fun h => ne.2.2.2.2.1 h.1.symm), if_neg (fun h => hne.2.1 h.2), if_neg (fun h => hne.2.2.1 h.2), if_neg (fun h => hne.2.2.2.1 h.2), if_pos trivial]
  unfold twoR rep
  rw [if_pos rfl]
  simp only
  rw [wrap_i64 (by omega) (by omega)]
/- Counting. -/
theorem six_off : ∀ j : Fin 6, offersB ((giveN counts : Nat) : Int) ((2 ^ j.val : Nat) : Int) = true → j.val = 1 ∨ j.val = 2 := by decide +kernel
theorem counts_off {m : ByteArray} (ha : ¬ abM m < 0) (ho : offersB ((giveN counts : Nat) : Int) (wantZ m) = true) : m = mGet ∨ m = mPut ∨ m = mTell := by
 obtain ⟨j, ew, hm⟩ := meth_fin ha
 rw [ew] at ho
 rcases six_off j ho with h | h
 ·rw [h] at hm; simp [methods] at hm; rcases hm with h | h <;> simp [h]
 ·rw [h] at hm; simp [methods] at hm; simp [hm]
theorem off_two : offersB ((giveN counts : Nat) : Int) (wantZ mGet) = true ∧ offersB ((giveN counts : Nat) : Int) (wantZ mPut) = true ∧ offersB ((giveN counts : Nat) : Int) (wantZ mTell) = true ∧ offersB ((giveN lazyN : Nat) : Int) (wantZ mGet) = true ∧ offersB ((giveN lazyN : Nat) : Int) (wantZ mPut) = true ∧
  offersB ((giveN readsN : Nat) : Int) (wantZ mGet) = true ∧ offersB ((giveN readsN : Nat) : Int) (wantZ mPut) = true ∧ offersB ((giveN hears : Nat) : Int) (wantZ mHear) = true := by decide +kernel
theorem off_keep {x : Call} (h : isKeep x = true) : offersB ((giveN counts : Nat) : Int) (wantZ x.method) = true ∧ offersB ((giveN lazyN : Nat) : Int) (wantZ x.method) = true := by
 obtain ⟨a, b, c, d, e, _⟩ := off_two
 rcases isKeep_iff.1 h with h | h <;> rw [h] <;> exact ⟨by assumption, by assumption⟩
theorem bump_ext_top (p : Part) (L : Layer) : bump (extP p [L]) p.layers.length = extP p [⟨L.name, up3 L.count⟩] := by
 unfold bump
 rw [extL_nth]
 unfold extP
 simp
theorem counts_step {p : Part} {n : Int} {x : Call} (hp : partB (extP p [⟨counts, n⟩]) = true) (hx : callB x = true) : ∃ p', (callD (extP p [⟨counts, n⟩]) x).1 = extP p' [⟨counts, if isKeep x = true then up3 n else n⟩] := by
 have ne := names_ne
 by_cases hk : isKeep x = true
 ·rw [call_ext hp hx (off_keep hk).1, thrD, extL_nth, if_neg (fun h => (keep_ne hk).1 h.2), if_pos ⟨rfl, hk⟩, ext_down]
  refine ⟨(thrD p.layers.length p x).1, ?_⟩
  simp only
  have := bump_ext_top (thrD p.layers.length p x).1 ⟨counts, n⟩
  rw [thr_len] at this
  rw [this, if_pos hk]
 ·rw [if_neg hk]
  by_cases ho : offersB ((giveN counts : Nat) : Int) (wantZ x.method) = true
  ·rcases counts_off (callB_ab hx) ho with h | h | h
   ·exact absurd (isKeep_iff.2 (.inl h)) hk
   ·exact absurd (isKeep_iff.2 (.inr h)) hk
   ·rw [call_ext hp hx ho, thrD, extL_nth, if_pos ⟨rfl, h⟩]
    exact ⟨p, rfl⟩
  ·rw [call_no hp hx (by rw [extL_face]; simpa using ho)]
   exact ⟨p, rfl⟩
theorem counts_tell {p : Part} {n : Int} (hp : partB (extP p [⟨counts, n⟩]) = true) : (callD (extP p [⟨counts, n⟩]) (plainCall mTell)).2 = rep 0 n 0 0 := by
 rw [call_ext hp callB_start.2.2 off_two.2.2.1, thrD, extL_nth, if_pos ⟨rfl, rfl⟩]
/- Lazy. -/
theorem start_ne : isKeep (plainCall mStart) = false ∧ mStart ≠ mPut ∧ mStart ≠ mHear ∧ mStart ≠ mHeal ∧ mStart ≠ mTell := by decide
theorem thr_start : ∀ (k : Nat) (p : Part), p.core.on = false → p.core.broken = false → (thrD k p (plainCall mStart)).1.core.on = true ∧ (thrD k p (plainCall mStart)).1.core.broken = false
 | 0, p, h1, h2 => by
  have e : (plainCall mStart).method = mStart := rfl
  rw [thrD]
  unfold doesD
  rw [e, if_neg (by simp [h2]), if_pos rfl, if_neg (by simp [h1])]
  exact ⟨rfl, h2⟩
 | k + 1, p, h1, h2 => by
  have ih := thr_start k p h1 h2
  have hne := start_ne
  have e : (plainCall mStart).method = mStart := rfl
  rw [thrD, e, if_neg (fun h => hne.2.2.2.2 h.2), if_neg (by simp [hne.1]), if_neg (by simp [hne.1]), if_neg (fun h => hne.2.1 h.2), if_neg (fun h => hne.2.2.1 h.2), if_neg (fun h => hne.2.2.2.1 h.2)]
  split <;> exact ih
structure KSt (p : Part) (y : Part × Reply) : Prop where
 a : p.core.broken = false → y.1.core.broken = false ∧ y.2.code ≠ 3
 b : y.2.code = 2 → y.1.core.on = false ∧ y.1.core.broken = false
 c : p.core.on = true → p.core.broken = false → y.1.core.on = true ∧ y.2.code ≠ 2
theorem twoR_code (r : Reply) : (twoR r).code = r.code := by unfold twoR; split <;> rfl
theorem thr_keep {x : Call} (hx : isKeep x = true) : ∀ (k : Nat) (p : Part), KSt p (thrD k p x)
 | 0, p => by
  have kn := keep_ne hx
  rw [thrD]
  unfold doesD
  by_cases hb : p.core.broken = true
  ·rw [if_pos ⟨hb, kn.2.2.1, kn.1⟩]
   exact ⟨fun h => by simp [hb] at h, fun h => by simp [rep] at h, fun _ h => by simp [hb] at h⟩
  ·have hb : p.core.broken = false := by simpa using hb
   rw [if_neg (by simp [hb]), if_neg kn.2.2.2.1, if_neg kn.2.2.2.2, if_pos hx]
   unfold keepD
   split
   ·rename_i h
    exact ⟨fun _ => ⟨hb, by simp [rep]⟩, fun _ => ⟨h.2, hb⟩, fun h2 => by simp [h.2] at h2⟩
   split
   ·split
    ·exact ⟨fun _ => ⟨hb, by simp [rep]⟩, fun h => by simp [rep] at h, fun h _ => ⟨h, by simp [rep]⟩⟩
    ·exact ⟨fun _ => ⟨hb, by simp [rep]⟩, fun h => by simp [rep] at h, fun h _ => ⟨h, by simp [rep]⟩⟩
   split
   ·exact ⟨fun _ => ⟨hb, by simp [rep]⟩, fun h => by simp [rep] at h, fun h _ => ⟨h, by simp [rep]⟩⟩
   ·exact ⟨fun _ => ⟨hb, by simp [rep]⟩, fun h => by simp [rep] at h, fun h _ => ⟨h, by simp [rep]⟩⟩
 | k + 1, p => by
  have kn := keep_ne hx
  have ih := thr_keep hx k
  rw [thrD, if_neg (fun h => kn.1 h.2)]
  split
  ·exact ⟨(ih p).a, (ih p).b, (ih p).c⟩
  split
  ·split
   ·rename_i h2
    obtain ⟨b1, b2⟩ := (ih p).b h2
    obtain ⟨s1, s2⟩ := thr_start k _ b1 b2
    have q := ih (thrD k (thrD k p x).1 (plainCall mStart)).1
    exact ⟨fun _ => q.a s2, fun h => absurd h (q.c s1 s2).2, fun _ _ => q.c s1 s2⟩
   ·rename_i h2
    exact ih p
  split
  ·exact ⟨fun h => ⟨h, by simp [rep]⟩, fun h => by simp [rep] at h, fun h _ => ⟨h, by simp [rep]⟩⟩
  rw [if_neg (fun h => kn.2.1 h.2), if_neg (fun h => kn.2.2.1 h.2)]
  split
  ·refine ⟨fun h => ?_, fun h => ?_, fun h h' => ?_⟩
   ·have := (ih p).a h; exact ⟨this.1, by simp only [twoR_code]; exact this.2⟩
   ·simp only [twoR_code] at h; exact (ih p).b h
   ·have := (ih p).c h h'; exact ⟨this.1, by simp only [twoR_code]; exact this.2⟩
  ·exact ih p
theorem lazy_step {p : Part} {n : Int} {x : Call} (hp : partB (extP p [⟨lazyN, n⟩]) = true) : (∃ p', (callD (extP p [⟨lazyN, n⟩]) x).1 = extP p' [⟨lazyN, n⟩]) ∧
  (isKeep x = true → (callD (extP p [⟨lazyN, n⟩]) x).2.code ≠ 2 ∧ (p.core.broken = false → (callD (extP p [⟨lazyN, n⟩]) x).1.core.broken = false ∧ (callD (extP p [⟨lazyN, n⟩]) x).2.code ≠ 3)) := by
 have ne := names_ne
 by_cases hx : callB x = true
 ·by_cases ho : offersB ((giveN lazyN : Nat) : Int) (wantZ x.method) = true
  ·rw [call_ext hp hx ho]
   have hl : ∀ q : Part, q.layers.length = p.layers.length + 1 → nth q.layers p.layers.length = ⟨lazyN, n⟩ → ∃ p', q = extP p' [⟨lazyN, n⟩] := fun q h1 h2 => by
    refine ⟨⟨q.core, q.layers.dropLast⟩, ?_⟩
    have hne : q.layers ≠ [] := by intro e; rw [e] at h1; simp at h1
    have := List.dropLast_concat_getLast hne
    unfold extP
    have e2 : q.layers.getLast hne = ⟨lazyN, n⟩ := by
     rw [List.getLast_eq_getElem]
     rw [← h2]
     simp [nth, List.getD_eq_getElem?_getD, h1]
    rw [e2] at this
    cases q
    simp only at this ⊢
    rw [this]
   refine ⟨hl _ (by rw [thr_len, extL_len]) ?_, fun hk => ?_⟩
   · -- the layer itself is not written
    rw [thrD, extL_nth, if_neg (fun h => ne.1 h.1.symm), if_neg (fun h => ne.1 h.1.symm)]
    have hd : ∀ q : Part, ∀ y, q.layers.length = p.layers.length + 1 → nth (thrD p.layers.length q y).1.layers p.layers.length = nth q.layers p.layers.length := fun q y h => thr_hi _ q y (by omega) _ (Nat.le_refl _)
    split
    ·split
     ·rw [hd _ _ (by rw [thr_len, thr_len, extL_len]), hd _ _ (by rw [thr_len, extL_len]), hd _ _ (extL_len _ _), extL_nth]
     ·rw [hd _ _ (extL_len _ _), extL_nth]
    ·rw [if_neg (fun h => ne.2.2.2.2.2.1 h.1), if_neg (fun h => ne.2.2.2.2.2.2.1 h.1), if_neg (fun h => ne.2.2.2.2.2.2.2.1 h.1), if_neg ne.2.2.2.2.2.2.2.2.1, hd _ _ (extL_len _ _), extL_nth]
   ·have q := thr_keep hk (p.layers.length + 1) (extP p [⟨lazyN, n⟩])
    refine ⟨fun h2 => ?_, fun hb => q.a hb⟩
    have kn := keep_ne hk
    rw [thrD, extL_nth, if_neg (fun h => kn.1 h.2), if_neg (fun h => ne.1 h.1.symm), if_pos ⟨rfl, hk⟩] at h2
    split at h2
    ·rename_i h3
     obtain ⟨b1, b2⟩ := (thr_keep hk p.layers.length (extP p [⟨lazyN, n⟩])).b h3
     obtain ⟨s1, s2⟩ := thr_start p.layers.length _ b1 b2
     exact ((thr_keep hk p.layers.length _).c s1 s2).2 h2
    ·rename_i h3; exact h3 h2
  ·rw [call_no hp hx (by rw [extL_face]; simpa using ho)]
   refine ⟨⟨p, rfl⟩, fun hk => absurd (off_keep hk).2 ho⟩
 ·rw [call_bad (.inr (by simpa using hx))]
  exact ⟨⟨p, rfl⟩, fun _ => ⟨by simp [rep], fun h => ⟨h, by simp [rep]⟩⟩⟩
/- Hearing. -/
def hearCall (v : Int) : Call := ⟨mHear, noText, v, noText⟩
theorem hear_ok : callB (hearCall 0) = true ∧ callB (hearCall 1) = true ∧ callB (hearCall 2) = true := by decide +kernel
theorem hear_ne : (∀ v, isKeep (hearCall v) = false) ∧ mHear ≠ mTell ∧ mHear ≠ mPut := by
 refine ⟨fun v => ?_, by decide, by decide⟩
 show (decide (mHear = mGet) || decide (mHear = mPut)) = false
 decide
theorem hears_law {p : Part} (h : (wrapP p hears).2.code = 0) :
  callD (wrapP p hears).1 (hearCall 0) = (extP (callD p (plainCall mStop)).1 [⟨hears, 1⟩], (callD p (plainCall mStop)).2) ∧
  callD (wrapP p hears).1 (hearCall 1) = (extP (callD p (plainCall mStart)).1 [⟨hears, 1⟩], (callD p (plainCall mStart)).2) ∧
  callD (wrapP p hears).1 (hearCall 2) = (extP p [⟨hears, 1⟩], rep 0 1 0 0) ∧ partB p = true ∧ p.layers.length < 3 ∧ partB (extP (callD p (plainCall mStop)).1 [⟨hears, 1⟩]) = true ∧ partB (extP (callD p (plainCall mStart)).1 [⟨hears, 1⟩]) = true ∧ partB (extP p [⟨hears, 1⟩]) = true := by
 obtain ⟨h1, h2, h3, h4, h5, h6⟩ := wrap_code h
 rw [h5]
 have ne := names_ne
 have hn := hear_ne
 have e1 : ((needN hears : Nat) : Int) = wantZ mStop := by decide +kernel
 have e2 : wantZ mStart = wantZ mStop := by decide +kernel
 rw [e1] at h4
 have hu : up3 0 = 1 := by decide
 have step : ∀ v, callB (hearCall v) = true → callD (extP p [⟨hears, 0⟩]) (hearCall v) = if v = 0 then thrD p.layers.length (extP p [⟨hears, 1⟩]) (plainCall mStop) else if v = 1 then thrD p.layers.length (extP p [⟨hears, 1⟩]) (plainCall mStart) else (extP p [⟨hears, 1⟩], rep 0 1 0 0) := fun v hv => by
  rw [call_ext (L := ⟨hears, 0⟩) h6 hv off_two.2.2.2.2.2.2.2, thrD, extL_nth]
  have e : (hearCall v).method = mHear := rfl
  have ev : (hearCall v).val = v := rfl
  rw [e, ev, hn.1 v, if_neg (fun h => hn.2.1 h.2), if_neg (by simp), if_neg (by simp), if_neg (fun h => hn.2.2 h.2), if_pos ⟨rfl, rfl⟩, bump_ext_top, extL_nth]
  simp only [hu]
 have c0 : callD (extP p [⟨hears, 0⟩]) (hearCall 0) = (extP (callD p (plainCall mStop)).1 [⟨hears, 1⟩], (callD p (plainCall mStop)).2) := by
  rw [step 0 hear_ok.1, if_pos rfl, ext_down, call_yes h1 callB_start.2.1 h4]
 have c1 : callD (extP p [⟨hears, 0⟩]) (hearCall 1) = (extP (callD p (plainCall mStart)).1 [⟨hears, 1⟩], (callD p (plainCall mStart)).2) := by
  rw [step 1 hear_ok.2.1, if_neg (by decide), if_pos rfl, ext_down, call_yes h1 callB_start.1 (by rw [show (plainCall mStart).method = mStart from rfl, e2]; exact h4)]
 have c2 : callD (extP p [⟨hears, 0⟩]) (hearCall 2) = (extP p [⟨hears, 1⟩], rep 0 1 0 0) := by
  rw [step 2 hear_ok.2.2, if_neg (by decide), if_neg (by decide)]
 have k0 := (call_keeps h6 (hearCall 0)).1
 have k1 := (call_keeps h6 (hearCall 1)).1
 have k2 := (call_keeps h6 (hearCall 2)).1
 rw [c0] at k0
 rw [c1] at k1
 rw [c2] at k2
 exact ⟨c0, c1, c2, h1, h3, k0, k1, k2⟩
/- Reading. -/
theorem reads_put {p : Part} {n : Int} {x : Call} (hp : partB (extP p [⟨readsN, n⟩]) = true) (hx : callB x = true) (hm : x.method = mPut) : callD (extP p [⟨readsN, n⟩]) x = (extP p [⟨readsN, n⟩], rep 6 0 0 0) := by
 have ne := names_ne
 rw [call_ext hp hx (by rw [hm]; exact off_two.2.2.2.2.2.2.1), thrD, extL_nth, if_neg (fun h => ne.2.1 h.1.symm), if_neg (fun h => ne.2.1 h.1.symm), if_neg (fun h => ne.2.2.2.2.2.1 h.1.symm), if_pos ⟨rfl, hm⟩]
theorem reads_get {p : Part} {n : Int} {x : Call} (hp : partB (extP p [⟨readsN, n⟩]) = true) (hx : callB x = true) (hm : x.method = mGet) : callD (extP p [⟨readsN, n⟩]) x = (extP (callD p x).1 [⟨readsN, n⟩], (callD p x).2) := by
 have ne := names_ne
 have : mGet ≠ mPut := by decide
 exact call_pass hp hx (by rw [hm]; exact off_two.2.2.2.2.2.1) ⟨ne.2.2.2.2.2.1.symm, ne.2.2.2.2.2.2.2.2.2.2.1, ne.2.2.2.2.2.2.2.2.2.2.2.1, ne.2.1.symm, fun _ => by rw [hm]; exact this, fun h => absurd h ne.2.2.2.2.2.2.2.2.2.1⟩
theorem reads_no {p : Part} (hp : partB p = true) (h : (wrapP p readsN).2.code ≠ 0) : offersB (faceOf p) 2 = false ∨ p.layers.length = 3 := by
 have hl : layOk readsN = true := by decide
 have hn : ((needN readsN : Nat) : Int) = 2 := by decide +kernel
 obtain ⟨_, h3, _⟩ := partB_iff.1 hp
 unfold wrapP at h
 rw [if_neg (by simp [hp, hl])] at h
 split at h
 ·right; omega
 split at h
 ·rename_i h4; rw [hn] at h4; exact .inl h4
 ·simp [rep] at h
/- Through keeps and runs. -/
def keepsN : ByteArray := ⟨#[107, 101, 101, 112, 115]⟩
def runsN : ByteArray := ⟨#[114, 117, 110, 115]⟩
theorem thin_ne : ∀ s, s = keepsN ∨ s = runsN → s ≠ lazyN ∧ s ≠ healsN ∧ s ≠ twiceN ∧ s ≠ counts ∧ s ≠ readsN ∧ s ≠ hears := by
 rintro s (rfl | rfl) <;> decide
theorem thin_call {p : Part} {L : Layer} {x : Call} (hp : partB (extP p [L]) = true) (hL : L.name = keepsN ∨ L.name = runsN) (ho : offersB (giveN L.name) (wantZ x.method) = true) : callD (extP p [L]) x = (extP (callD p x).1 [L], (callD p x).2) := by
 by_cases hx : callB x = true
 ·obtain ⟨a, b, c, d, e, f⟩ := thin_ne _ hL
  exact call_pass hp hx ho ⟨a, b, c, d, fun h => absurd h e, fun h => absurd h f⟩
 ·rw [call_bad (.inr (by simpa using hx)), call_bad (.inr (by simpa using hx))]
end Go.Proofs.YtbgcaneflfdddaaGreatDoor
/- Writing marks into memory of one's own: what stays, what the shape of data is, a row of leaves with one cell written. No program in sight. -/
namespace Go.Proofs.YtbgcaneflfdddaaGreatDoor
open Go.RowKit Go
variable [GC]
theorem fro_of_block {w w' : World} {p : Addr} (h : w'.heap[p.block]? = w.heap[p.block]?) : w'.frozen? p = w.frozen? p := by
 unfold World.frozen?; rw [h]
theorem R.less {w : World} {M M' : Addr → Prop} {d : D} {v : Value} (h : R w M d v) (hM : ∀ p, M' p → M p) : R w M' d v :=
 R.keep (fun p v hp hn => ⟨hp, fun hm => hn (hM p hm)⟩) d v h
section
variable {w w' : World} {A M M' : Addr → Prop}
end
/-! Rows of leaves -/
theorem flat_cells {w : World} {M : Addr → Prop} {rows : List (List D)} {n b o len cap : Nat} {s : Option Nat} (hn : ∀ r ∈ rows, r.length = n) (h : R w M (.sl rows) (.slice (some ⟨b, o, s⟩) len cap)) {i j : Nat} {r : List D} {d : D} (hi : rows[i]? = some r) (hj : r[j]? = some d) :
  ∃ u, w.cell? ⟨b, o + i * n + j, none⟩ = some u ∧ ¬ M ⟨b, o + i * n + j, none⟩ ∧ R w M d u := by
 obtain ⟨a, len', cap', e, h1, h2, h3, h4, h5⟩ := h
 cases e
 exact ((h5 b o s rfl).2.get hn hi).get hj
theorem flat_of {w : World} {M : Addr → Prop} {rows : List (List D)} {n b o len cap : Nat} {s : Option Nat} (hn : ∀ r ∈ rows, r.length = n) (h1 : len = rows.length) (h2 : len ≤ cap) (h3 : cap ≤ maxLen) (h4 : 0 < len → s = none)
  (hc : ∀ (i j : Nat) (r : List D) (d : D), rows[i]? = some r → r[j]? = some d → ∃ u, w.cell? ⟨b, o + i * n + j, none⟩ = some u ∧ ¬ M ⟨b, o + i * n + j, none⟩ ∧ R w M d u) : R w M (.sl rows) (.slice (some ⟨b, o, s⟩) len cap) := by
 refine ⟨_, _, _, rfl, h1, h2, h3, (fun e => by cases e), fun b' o' s' e => ?_⟩
 cases e
 exact ⟨h4, Rws.of hn fun i r hr => Rw.of fun j d hd => hc i j r d hr hd⟩
theorem Fun.calls {P : Program} {f : FuncId} {ds : List D} {r : D} (h : Fun P f none ds r []) {w : World} {M : Addr → Prop} {vs : List Value} (hG : Rdy w M) (hr : Rs w M ds vs) :
  Calls P f vs.toArray w fun e w' => ∃ v, e = .returned v ∧ R w' M r v ∧ Below w.heap.size w w' :=
 (h.2 w M 0 vs hG hr (fun cs h => by cases h)).mono fun e w' ⟨v, h1, h2, h3, _⟩ => ⟨v, h1, h2, h3.to_below⟩
theorem store_run {P : Program} {w : World} {a : Addr} {u v : Value} (h : w.cell? a = some u) (hf : w.frozen? a = false) (hone : v.oneCell' = true) : (store a v).run P w = .ok () (w.setCell a v) := by
 rw [run_store P w a v .plain hone, h, hf]; rfl
/-! Rows by a function -/
/-! The shape of entries -/
end Go.Proofs.YtbgcaneflfdddaaGreatDoor
