/- A row of one's own that is filled place by place ('out := make([]T, n); for i .. { out[i] = .. }'). No program in sight. -/
import Derived.Test.YthoilclddnjjjaaBase
import Derived.Test.YthoilclddnjjjaaTypes
namespace Go.Proofs.Ythoilclddnjjjaa
open Go.RowKit

theorem run_make_rowN {P : Program} (t e : TypeId) (i : TypeInfo) (z : Value) (ht : P.underlying t = some (.slice e)) (hi : P.info? e = some i) (hz : i.zero = some z)
    (kl kc : IntKind) (n c : Nat) (hnc : n ≤ c) (hbytes : i.bytes * c ≤ 281474976710656) (h63 : c ≤ 9223372036854775807) (w : World) :
    (Instr.makeSlice t (.int kl (n : Int)) (.int kc (c : Int))).run P w = .ok (.slice (some ⟨w.heap.size, 0, none⟩) n c) (w.alloc (.cells (madeCells z.cells (c * i.size)) e)) := by
  have hb : (i.bytes : Int) * (c : Int) ≤ 281474976710656 := by
    have h : ((i.bytes * c : Nat) : Int) ≤ 281474976710656 := by omega
    rwa [Int.natCast_mul] at h
  have hr := run_make (P := P) w t e i z ht hi hz kl kc n c (by omega) (by omega) hb (by omega)
  simp only [Int.toNat_natCast] at hr
  exact hr
/-- The same off one closed fact on the element type's row of the table. -/
theorem run_make_at {P : Program} (t e : TypeId) {z : Value} {size bytes : Nat} (ht : P.underlying t = some (.slice e)) (h : (P.info? e).map (fun i => (i.zero, i.size, i.bytes)) = some (some z, size, bytes))
    (kl kc : IntKind) (n : Nat) (hbytes : bytes * n ≤ 281474976710656) (h63 : n ≤ 9223372036854775807) (w : World) :
    (Instr.makeSlice t (.int kl (n : Int)) (.int kc (n : Int))).run P w = .ok (.slice (some ⟨w.heap.size, 0, none⟩) n n) (w.alloc (.cells (madeCells z.cells (n * size)) e)) := by
  obtain ⟨i, hi, hz, h1, h2⟩ := info_parts h
  have := run_make_rowN t e i z ht hi hz kl kc n n (Nat.le_refl _) (by rw [h2]; exact hbytes) h63 w
  rw [h1] at this
  exact this

def setN (w : World) (g o : Nat) : List Value → World
  | [] => w
  | u :: r => setN (w.setCell ⟨g, o, none⟩ u) g (o + 1) r
def setA (C : Array Value) (o : Nat) : List Value → Array Value
  | [] => C
  | u :: r => setA (C.setIfInBounds o u) (o + 1) r
theorem Blk.setN {w : World} {g : Nat} {t : TypeId} : ∀ {C : Array Value} {o : Nat} (cs : List Value), Blk w g t C → Blk (setN w g o cs) g t (setA C o cs)
  | _, _, [], h => h
  | C, o, u :: r, h => by
    have h1 := h.set_ o u
    unfold Go.Proofs.Ythoilclddnjjjaa.setN setA
    exact Blk.setN r h1
theorem size_setA : ∀ (cs : List Value) (C : Array Value) (o : Nat), (setA C o cs).size = C.size
  | [], _, _ => rfl
  | u :: r, C, o => by unfold setA; rw [size_setA r]; simp
theorem setA_out : ∀ (cs : List Value) (C : Array Value) (o i : Nat), i < o ∨ o + cs.length ≤ i → (setA C o cs)[i]? = C[i]?
  | [], _, _, _, _ => rfl
  | u :: r, C, o, i, h => by
    simp only [List.length_cons] at h
    unfold setA
    rw [setA_out r _ _ _ (by omega)]
    simp [Array.getElem?_setIfInBounds]; omega
theorem setA_in : ∀ (cs : List Value) (C : Array Value) (o j : Nat) (u : Value), o + cs.length ≤ C.size → cs[j]? = some u → (setA C o cs)[o + j]? = some u
  | [], _, _, _, _, _, h => by simp at h
  | v :: r, C, o, 0, u, hs, h => by
    simp only [List.length_cons] at hs
    simp at h; subst h
    unfold setA
    rw [setA_out r _ _ _ (by omega)]
    simp [Array.getElem?_setIfInBounds]; omega
  | v :: r, C, o, j + 1, u, hs, h => by
    simp only [List.length_cons] at hs
    simp at h
    unfold setA
    have := setA_in r (C.setIfInBounds o v) (o + 1) j u (by simp; omega) h
    rwa [show o + (j + 1) = o + 1 + j by omega]
theorem heap_setN (b : Nat) : ∀ (cs : List Value) (w : World) (g o : Nat), b ≠ g → (setN w g o cs).heap[b]? = w.heap[b]?
  | [], _, _, _, _ => rfl
  | u :: r, w, g, o, h => by
    unfold setN
    rw [heap_setN b r _ _ _ h]
    exact Below.heap_setCell _ _ _ _ h
theorem size_setN : ∀ (cs : List Value) (w : World) (g o : Nat), (setN w g o cs).heap.size = w.heap.size
  | [], _, _, _ => rfl
  | u :: r, w, g, o => by unfold setN; rw [size_setN r]; simp

section
variable {α : Type} [Rep α] [Inhabited α]
/-- Block g is a row of len elements; the first k read as those of l, and what they lead to lies from B on, and not in the row itself. -/
def RowTo (w : World) (g : Nat) (T : TypeId) (len k : Nat) (l : List α) (B : Nat) : Prop :=
  ∃ C : Array Value, Blk w g T C ∧ C.size = len * Rep.n α ∧
    ∀ i, i < k → ∃ cs : List Value, (∀ j u, cs[j]? = some u → C[i * Rep.n α + j]? = some u) ∧ Rep.rd w (fun b => B ≤ b ∧ b ≠ g ∧ b < w.heap.size) cs (nth l i)
variable {w w1 : World} {g : Nat} {T : TypeId} {len k : Nat} {l : List α} {B : Nat}
theorem RowTo.new {C : Array Value} (h : Blk w g T C) (hs : C.size = len * Rep.n α) : RowTo w g T len 0 l B := ⟨C, h, hs, fun i hi => absurd hi (by omega)⟩
theorem RowTo.keep (h : RowTo w g T len k l B) (hb : Below w.heap.size w w1) : RowTo w1 g T len k l B := by
  obtain ⟨C, h1, h2, h3⟩ := h
  exact ⟨C, h1.below hb h1.lt, h2, fun i hi => by
    obtain ⟨cs, hc, hr⟩ := h3 i hi
    exact ⟨cs, hc, Rep.wide (Rep.keep hr fun b hb' => hb.block b hb'.2.2) fun b hb' => ⟨hb'.1, hb'.2.1, Nat.lt_of_lt_of_le hb'.2.2 hb.size⟩⟩⟩
theorem RowTo.there (h : RowTo w g T len k l B) {i j : Nat} (hi : i < len) (hj : j < Rep.n α) : ∃ u, w.cell? ⟨g, i * Rep.n α + j, none⟩ = some u := by
  obtain ⟨C, h1, h2, h3⟩ := h
  have hlt : i * Rep.n α + j < C.size := by
    rw [h2]
    calc i * Rep.n α + j < i * Rep.n α + Rep.n α := by omega
      _ = (i + 1) * Rep.n α := by rw [Nat.add_mul, Nat.one_mul]
      _ ≤ len * Rep.n α := Nat.mul_le_mul_right _ hi
  exact ⟨_, by rw [h1.cell]; exact Array.getElem?_eq_getElem hlt⟩
theorem RowTo.free (h : RowTo w g T len k l B) (i : Nat) : w.frozen? ⟨g, i, none⟩ = false := by
  obtain ⟨C, h1, _⟩ := h
  exact h1.frozen i
theorem RowTo.lt (h : RowTo w g T len k l B) : g < w.heap.size := by
  obtain ⟨C, h1, _⟩ := h
  exact h1.lt
theorem RowTo.step {cs : List Value} (h : RowTo w g T len k l B) (hk : k < len) (hr : Rep.rd w (fun b => B ≤ b ∧ b ≠ g ∧ b < w.heap.size) cs (nth l k)) : RowTo (setN w g (k * Rep.n α) cs) g T len (k + 1) l B := by
  obtain ⟨C, h1, h2, h3⟩ := h
  have hn := Rep.len hr
  have hle : k * Rep.n α + cs.length ≤ C.size := by
    rw [h2, hn]
    calc k * Rep.n α + Rep.n α = (k + 1) * Rep.n α := by rw [Nat.add_mul, Nat.one_mul]
      _ ≤ len * Rep.n α := Nat.mul_le_mul_right _ hk
  have move : ∀ {cs' : List Value} {x : α}, Rep.rd w (fun b => B ≤ b ∧ b ≠ g ∧ b < w.heap.size) cs' x → Rep.rd (setN w g (k * Rep.n α) cs) (fun b => B ≤ b ∧ b ≠ g ∧ b < (setN w g (k * Rep.n α) cs).heap.size) cs' x := fun hx =>
    Rep.wide (Rep.keep hx fun b hb => heap_setN b _ _ _ _ hb.2.1) fun b hb => ⟨hb.1, hb.2.1, by rw [size_setN]; exact hb.2.2⟩
  refine ⟨setA C (k * Rep.n α) cs, Blk.setN cs h1, by rw [size_setA]; exact h2, fun i hi => ?_⟩
  by_cases e : i = k
  · subst e
    exact ⟨cs, fun j u hu => setA_in _ _ _ _ _ hle hu, move hr⟩
  · obtain ⟨cs', hc, hr'⟩ := h3 i (by omega)
    refine ⟨cs', fun j u hu => ?_, move hr'⟩
    have hj : j < Rep.n α := by rw [← Rep.len hr']; exact (List.getElem?_eq_some_iff.1 hu).1
    have hlt : i * Rep.n α + j < k * Rep.n α := by
      calc i * Rep.n α + j < i * Rep.n α + Rep.n α := by omega
        _ = (i + 1) * Rep.n α := by rw [Nat.add_mul, Nat.one_mul]
        _ ≤ k * Rep.n α := Nat.mul_le_mul_right _ (by omega)
    rw [setA_out _ _ _ _ (.inl hlt)]
    exact hc j u hu
theorem RowTo.done (h : RowTo w g T len len l B) (hl : len = l.length) (hg : g ≤ B) (hm : len ≤ maxLen) : Sl w (fun b => g ≤ b ∧ b < w.heap.size) (some ⟨g, 0, none⟩) len len l := by
  obtain ⟨C, h1, h2, h3⟩ := h
  refine ⟨hl, Nat.le_refl _, hm, (fun e => by cases e), fun _ => ⟨g, 0, rfl, ⟨Nat.le_refl _, h1.lt⟩, h1.lt, fun i x hx => ?_⟩⟩
  have hi : i < len := by rw [hl]; exact (List.getElem?_eq_some_iff.1 hx).1
  obtain ⟨cs, hc, hr⟩ := h3 i hi
  rw [nth_of hx] at hr
  exact ⟨cs, fun j u hu => by rw [Nat.zero_add, h1.cell]; exact hc j u hu, Rep.wide hr fun b hb => ⟨Nat.le_trans hg hb.1, hb.2.2⟩⟩
end
end Go.Proofs.Ythoilclddnjjjaa
