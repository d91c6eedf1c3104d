/- A row of one's own that is filled place by place ('out := make([]T, n); for i .. { out[i] = .. }'), on abstract data. No program in sight. -/
import Derived.Test.YtgaeigomhhbkfaaGreatBase
import Derived.Test.YtgaeigomhhbkfaaGreatBTypes
namespace Go.Proofs.YtgaeigomhhbkfaaGreat
open Go.RowKit
set_option linter.unusedVariables false
set_option linter.unusedSectionVars false
variable [GC]

theorem run_make_rowN {P : Program} (t e : TypeId) (i : TypeInfo) (z : Value) (ht : P.underlying t = some (.slice e)) (hi : P.info? e = some i) (hz : i.zero = some z)
    (kl kc : IntKind) (n c : Nat) (hnc : n ≤ c) (hbytes : i.bytes * c ≤ 281474976710656) (h63 : c ≤ 9223372036854775807) (w : World) :
    (Instr.makeSlice t (.int kl (n : Int)) (.int kc (c : Int))).run P w = .ok (.slice (some ⟨w.heap.size, 0, none⟩) n c) (w.alloc (.cells (madeCells z.cells (c * i.size)) e)) := by
  have hb : (i.bytes : Int) * (c : Int) ≤ 281474976710656 := by
    have h : ((i.bytes * c : Nat) : Int) ≤ 281474976710656 := by omega
    rwa [Int.natCast_mul] at h
  have hr := run_make (P := P) w t e i z ht hi hz kl kc n c (by omega) (by omega) hb (by omega)
  simp only [Int.toNat_natCast] at hr
  exact hr
theorem run_make_at {P : Program} (t e : TypeId) {z : Value} {size bytes : Nat} (ht : P.underlying t = some (.slice e)) (h : (P.info? e).map (fun i => (i.zero, i.size, i.bytes)) = some (some z, size, bytes))
    (kl kc : IntKind) (n : Nat) (hbytes : bytes * n ≤ 281474976710656) (h63 : n ≤ 9223372036854775807) (w : World) :
    (Instr.makeSlice t (.int kl (n : Int)) (.int kc (n : Int))).run P w = .ok (.slice (some ⟨w.heap.size, 0, none⟩) n n) (w.alloc (.cells (madeCells z.cells (n * size)) e)) := by
  obtain ⟨i, hi, hz, h1, h2⟩ := info_parts h
  have := run_make_rowN t e i z ht hi hz kl kc n n (Nat.le_refl _) (by rw [h2]; exact hbytes) h63 w
  rw [h1] at this
  exact this
def setN (w : World) (g o : Nat) : List Value → World
  | [] => w
  | u :: r => setN (w.setCell ⟨g, o, none⟩ u) g (o + 1) r
def setA (C : Array Value) (o : Nat) : List Value → Array Value
  | [] => C
  | u :: r => setA (C.setIfInBounds o u) (o + 1) r
theorem RBlk.setN {w : World} {g : Nat} {t : TypeId} : ∀ {C : Array Value} {o : Nat} (cs : List Value), RBlk w g t C → RBlk (setN w g o cs) g t (setA C o cs)
  | _, _, [], h => h
  | C, o, u :: r, h => by
    have h1 := h.set_ o u
    unfold Go.Proofs.YtgaeigomhhbkfaaGreat.setN setA
    exact RBlk.setN r h1
theorem size_setA : ∀ (cs : List Value) (C : Array Value) (o : Nat), (setA C o cs).size = C.size
  | [], _, _ => rfl
  | u :: r, C, o => by unfold setA; rw [size_setA r]; simp
theorem setA_out : ∀ (cs : List Value) (C : Array Value) (o i : Nat), i < o ∨ o + cs.length ≤ i → (setA C o cs)[i]? = C[i]?
  | [], _, _, _, _ => rfl
  | u :: r, C, o, i, h => by
    simp only [List.length_cons] at h
    unfold setA
    rw [setA_out r _ _ _ (by omega)]
    simp [Array.getElem?_setIfInBounds]; omega
theorem setA_in : ∀ (cs : List Value) (C : Array Value) (o j : Nat) (u : Value), o + cs.length ≤ C.size → cs[j]? = some u → (setA C o cs)[o + j]? = some u
  | [], _, _, _, _, _, h => by simp at h
  | v :: r, C, o, 0, u, hs, h => by
    simp only [List.length_cons] at hs
    simp at h; subst h
    unfold setA
    rw [setA_out r _ _ _ (by omega)]
    simp [Array.getElem?_setIfInBounds]; omega
  | v :: r, C, o, j + 1, u, hs, h => by
    simp only [List.length_cons] at hs
    simp at h
    unfold setA
    have := setA_in r (C.setIfInBounds o v) (o + 1) j u (by simp; omega) h
    rwa [show o + (j + 1) = o + 1 + j by omega]
theorem heap_setN (b : Nat) : ∀ (cs : List Value) (w : World) (g o : Nat), b ≠ g → (setN w g o cs).heap[b]? = w.heap[b]?
  | [], _, _, _, _ => rfl
  | u :: r, w, g, o, h => by
    unfold setN
    rw [heap_setN b r _ _ _ h]
    exact Below.heap_setCell _ _ _ _ h
/-- Block g is a row of len elements of n cells; the first k read as those of rows. -/
def RowN (w : World) (M : Addr → Prop) (g : Nat) (T : TypeId) (len n k : Nat) (rows : List (List D)) : Prop :=
  ∃ C : Array Value, RBlk w g T C ∧ C.size = len * n ∧ ∃ vs : List Value, Rs w M (rows.take k).flatten vs ∧ ∀ (i : Nat) (u : Value), vs[i]? = some u → C[i]? = some u
def own (M : Addr → Prop) (g : Nat) : Addr → Prop := fun p => M p ∨ p.block = g
section
variable {w w1 : World} {M : Addr → Prop} {g : Nat} {T : TypeId} {len n k : Nat} {rows : List (List D)}
theorem RowN.new {C : Array Value} (h : RBlk w g T C) (hs : C.size = len * n) : RowN w M g T len n 0 rows := ⟨C, h, hs, [], rfl, fun i u h => by simp at h⟩
theorem RowN.keep (h : RowN w M g T len n k rows) (hb : Below w.heap.size w w1) : RowN w1 M g T len n k rows := by
  obtain ⟨C, h1, h2, vs, h3, h4⟩ := h
  exact ⟨C, h1.below hb h1.lt, h2, vs, Rs.keep (Keeps.below hb fun _ _ h => h) _ _ h3, h4⟩
theorem RowN.there (h : RowN w M g T len n k rows) {i j : Nat} (hi : i < len) (hj : j < n) : ∃ u, w.cell? ⟨g, i * n + j, none⟩ = some u := by
  obtain ⟨C, h1, h2, h3⟩ := h
  have hlt : i * n + j < C.size := by
    rw [h2]
    calc i * n + j < i * n + n := by omega
      _ = (i + 1) * n := by rw [Nat.add_mul, Nat.one_mul]
      _ ≤ len * n := Nat.mul_le_mul_right _ hi
  exact ⟨_, by rw [h1.cell]; exact Array.getElem?_eq_getElem hlt⟩
theorem RowN.free (h : RowN w M g T len n k rows) (i : Nat) : w.frozen? ⟨g, i, none⟩ = false := by
  obtain ⟨C, h1, _⟩ := h
  exact h1.frozen i
theorem RowN.lt (h : RowN w M g T len n k rows) : g < w.heap.size := by
  obtain ⟨C, h1, _⟩ := h
  exact h1.lt
theorem RowN.step {us : List Value} {row : List D} (h : RowN w (own M g) g T len n k rows) (hk : k < len) (hrow : rows[k]? = some row) (hn : ∀ r ∈ rows, r.length = n) (hr : Rs w (own M g) row us) : RowN (setN w g (k * n) us) (own M g) g T len n (k + 1) rows := by
  obtain ⟨C, h1, h2, vs, h3, h4⟩ := h
  have hrl := hn row (List.mem_of_getElem? hrow)
  have hul : us.length = n := by rw [hr.length, hrl]
  have hle : k * n + us.length ≤ C.size := by
    rw [h2, hul]
    calc k * n + n = (k + 1) * n := by rw [Nat.add_mul, Nat.one_mul]
      _ ≤ len * n := Nat.mul_le_mul_right _ hk
  have hklt : k < rows.length := (List.getElem?_eq_some_iff.1 hrow).1
  have hvl : vs.length = k * n := by
    rw [h3.length, flat_len (n := n) (fun r hr => hn r (List.mem_of_mem_take hr)), List.length_take, Nat.min_eq_left (by omega)]
  have hkp : Keeps w (own M g) (setN w g (k * n) us) (own M g) := fun p v hp hnm => ⟨by
    rw [← hp]; exact World.cell?_of_block (heap_setN _ _ _ _ _ fun e => hnm (.inr e)), hnm⟩
  refine ⟨setA C (k * n) us, RBlk.setN us h1, by rw [size_setA]; exact h2, vs ++ us, ?_, fun i u hu => ?_⟩
  · have e : (rows.take (k + 1)).flatten = (rows.take k).flatten ++ row := by
      rw [List.take_add_one, hrow]; simp
    rw [e]
    exact (Rs.keep hkp _ _ h3).append (Rs.keep hkp _ _ hr)
  · rcases Nat.lt_or_ge i vs.length with hlt | hge
    · rw [List.getElem?_append_left hlt] at hu
      rw [setA_out _ _ _ _ (.inl (by omega))]
      exact h4 i u hu
    · rw [List.getElem?_append_right hge] at hu
      have := setA_in us C (k * n) (i - vs.length) u hle hu
      rwa [show k * n + (i - vs.length) = i by omega] at this
theorem RowN.done (h : RowN w (own M g) g T len n len rows) (hl : len = rows.length) (hn : ∀ r ∈ rows, r.length = n) (hM : ∀ p, p.block = g → ¬ M p) (hm : len ≤ maxLen) : R w M (.sl rows) (.slice (some ⟨g, 0, none⟩) len len) := by
  obtain ⟨C, h1, h2, vs, h3, h4⟩ := h
  refine ⟨_, _, _, rfl, hl, Nat.le_refl _, hm, (fun e => by cases e), fun b o s e => ?_⟩
  simp only [Option.some.injEq, Addr.mk.injEq] at e
  obtain ⟨rfl, rfl, rfl⟩ := e
  refine ⟨fun _ => rfl, Rws.of_flat (M := own M g) (w := w) (vs := vs) ?_ (fun p v hp hnm => ⟨hp, fun h => hnm (.inl h)⟩) fun i u hu => ⟨?_, hM _ rfl⟩⟩
  · rwa [List.take_of_length_le (by omega)] at h3
  · rw [Nat.zero_add, h1.cell]; exact h4 i u hu
end
/-- An argument that is a slice of data: its length, and each element's cells. -/
theorem arg_slice {w : World} {M : Addr → Prop} {rows : List (List D)} {n : Nat} (hn : ∀ r ∈ rows, r.length = n) {v : Value} (h : R w M (.sl rows) v) :
    ∃ a cap, v = .slice a rows.length cap ∧ rows.length ≤ maxLen ∧ ∀ k row, rows[k]? = some row → ∃ b o vs, a = some ⟨b, o, none⟩ ∧ vs.length = n ∧ Rs w M row vs ∧ ∀ (j : Nat) (u : Value), vs[j]? = some u → w.cell? ⟨b, o + k * n + j, none⟩ = some u := by
  obtain ⟨a, len, cap, rfl, rfl, hlc, hcm, hnone, hcells⟩ := h
  refine ⟨a, cap, rfl, by omega, fun k row hk => ?_⟩
  have hlt : k < rows.length := (List.getElem?_eq_some_iff.1 hk).1
  rcases a with _ | ⟨b, o, s⟩
  · have := hnone rfl; omega
  · obtain ⟨hs, hrw⟩ := hcells b o s rfl
    have hs := hs (by omega); subst hs
    obtain ⟨vs, e, hr, hc⟩ := (hrw.get hn hk).cells
    exact ⟨b, o, vs, rfl, by rw [e, hn row (List.mem_of_getElem? hk)], hr, hc⟩
def BlkN (w : World) (g : Nat) (T : TypeId) (m : Nat) : Prop := ∃ C : Array Value, RBlk w g T C ∧ C.size = m
theorem RowN.blkN {w : World} {M : Addr → Prop} {g : Nat} {T : TypeId} {len n k : Nat} {rows : List (List D)} (h : RowN w M g T len n k rows) : BlkN w g T (len * n) := by
  obtain ⟨C, h1, h2, _⟩ := h
  exact ⟨C, h1, h2⟩
theorem BlkN.store {P : Program} {w : World} {g : Nat} {T : TypeId} {m o : Nat} {v : Value} (h : BlkN w g T m) (ho : o < m) (hone : v.oneCell' = true) : (store ⟨g, o, none⟩ v).run P w = .ok () (w.setCell ⟨g, o, none⟩ v) ∧ BlkN (w.setCell ⟨g, o, none⟩ v) g T m := by
  obtain ⟨C, h1, h2⟩ := h
  have hc : w.cell? ⟨g, o, none⟩ = some (C[o]'(by omega)) := by rw [h1.cell]; exact Array.getElem?_eq_getElem (by omega)
  refine ⟨by rw [run_store P w _ v .plain hone, hc, h1.frozen o]; rfl, _, h1.set_ o v, by simpa using h2⟩
theorem off_lt {k len n j : Nat} (hk : k < len) (hj : j < n) : k * n + j < len * n := by
  calc k * n + j < k * n + n := by omega
    _ = (k + 1) * n := by rw [Nat.add_mul, Nat.one_mul]
    _ ≤ len * n := Nat.mul_le_mul_right _ hk
theorem off_lt0 {k len n : Nat} (hk : k < len) (hn : 0 < n) : k * n < len * n := off_lt (j := 0) hk hn
theorem len_1 {α : Type} {l : List α} (h : l.length = 1) : ∃ a, l = [a] := match l, h with | [a], _ => ⟨a, rfl⟩
theorem len_2 {α : Type} {l : List α} (h : l.length = 2) : ∃ a b, l = [a, b] := match l, h with | [a, b], _ => ⟨a, b, rfl⟩
theorem len_3 {α : Type} {l : List α} (h : l.length = 3) : ∃ a b c, l = [a, b, c] := match l, h with | [a, b, c], _ => ⟨a, b, c, rfl⟩
theorem len_4 {α : Type} {l : List α} (h : l.length = 4) : ∃ a b c d, l = [a, b, c, d] := match l, h with | [a, b, c, d], _ => ⟨a, b, c, d, rfl⟩
theorem len_5 {α : Type} {l : List α} (h : l.length = 5) : ∃ a b c d e, l = [a, b, c, d, e] := match l, h with | [a, b, c, d, e], _ => ⟨a, b, c, d, e, rfl⟩
theorem len_6 {α : Type} {l : List α} (h : l.length = 6) : ∃ a b c d e f, l = [a, b, c, d, e, f] := match l, h with | [a, b, c, d, e, f], _ => ⟨a, b, c, d, e, f, rfl⟩
theorem len_7 {α : Type} {l : List α} (h : l.length = 7) : ∃ a b c d e f g, l = [a, b, c, d, e, f, g] := match l, h with | [a, b, c, d, e, f, g], _ => ⟨a, b, c, d, e, f, g, rfl⟩
theorem get_map {α : Type} [Enc α] (l : List α) {k : Nat} (h : k < l.length) : (l.map Enc.cells)[k]? = some (Enc.cells (nth l k)) := by
  rw [List.getElem?_map, nth, List.getD, List.getElem?_eq_getElem h]; rfl
theorem map_len {α : Type} [Enc α] {n : Nat} (h : ∀ x : α, (Enc.cells x).length = n) (l : List α) : ∀ r ∈ l.map Enc.cells, r.length = n := by
  intro r hr; obtain ⟨x, _, rfl⟩ := List.mem_map.1 hr; exact h x
end Go.Proofs.YtgaeigomhhbkfaaGreat
