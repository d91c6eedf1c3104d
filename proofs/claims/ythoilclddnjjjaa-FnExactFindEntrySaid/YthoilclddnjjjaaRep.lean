/- How Go values in memory read as plain data: a class, its instances for numbers, bools, texts and slices, and what keeps a reading. No program in sight. -/
import Derived.WalkKit
import Derived.Deep.AppendLies
import Derived.Deep.Draws
namespace Go.Proofs.Ythoilclddnjjjaa
open Go.RowKit

/-- 'rd w S cs x': the cells cs read as x in the world w, and all memory that the reading meets lies in blocks of S. -/
class Rep (α : Type) where
  n : Nat
  rd : World → (Nat → Prop) → List Value → α → Prop
  len : ∀ {w : World} {S : Nat → Prop} {cs : List Value} {x : α}, rd w S cs x → cs.length = n
  keep : ∀ {w w' : World} {S : Nat → Prop} {cs : List Value} {x : α}, rd w S cs x → (∀ b, S b → w'.heap[b]? = w.heap[b]?) → rd w' S cs x
  wide : ∀ {w : World} {S S' : Nat → Prop} {cs : List Value} {x : α}, rd w S cs x → (∀ b, S b → S' b) → rd w S' cs x

/-- The k-th of a list, as a word of its own. -/
def nth {α : Type} [Inhabited α] (l : List α) (k : Nat) : α := l.getD k default
theorem nth_of {α : Type} [Inhabited α] {l : List α} {k : Nat} {x : α} (h : l[k]? = some x) : nth l k = x := by simp [nth, List.getD, h]

def I64 (n : Int) : Prop := -9223372036854775808 ≤ n ∧ n ≤ 9223372036854775807

instance : Rep Int := ⟨1, fun _ _ cs x => cs = [.int .i64 x] ∧ I64 x, fun ⟨h, _⟩ => by simp [h], fun h _ => h, fun h _ => h⟩
instance : Rep Bool := ⟨1, fun _ _ cs x => cs = [.bool x], fun h => by simp [h], fun h _ => h, fun h _ => h⟩
instance : Rep ByteArray := ⟨1, fun _ _ cs x => cs = [.string x] ∧ x.size ≤ maxLen, fun ⟨h, _⟩ => by simp [h], fun h _ => h, fun h _ => h⟩

section
variable {α : Type} [Rep α]
/-- The slice value '.slice a len cap' reads as the list xs. -/
def Sl (w : World) (S : Nat → Prop) (a : Option Addr) (len cap : Nat) (xs : List α) : Prop :=
  len = xs.length ∧ len ≤ cap ∧ cap ≤ maxLen ∧ (a = none → cap = 0) ∧
  (0 < len → ∃ b o, a = some ⟨b, o, none⟩ ∧ S b ∧ b < w.heap.size ∧
    ∀ i x, xs[i]? = some x → ∃ cs : List Value, (∀ j u, cs[j]? = some u → w.cell? ⟨b, o + (i * Rep.n α + j), none⟩ = some u) ∧ Rep.rd w S cs x)
variable {w w' : World} {S S' : Nat → Prop} {a : Option Addr} {len cap : Nat} {xs : List α}
theorem Sl.keep (h : Sl w S a len cap xs) (hk : ∀ b, S b → w'.heap[b]? = w.heap[b]?) : Sl w' S a len cap xs := by
  obtain ⟨h1, h2, h3, h4, h5⟩ := h
  refine ⟨h1, h2, h3, h4, fun hl => ?_⟩
  obtain ⟨b, o, ha, hb, hlt, hx⟩ := h5 hl
  refine ⟨b, o, ha, hb, ?_, fun i x hi => ?_⟩
  · have e := hk b hb
    rcases Nat.lt_or_ge b w'.heap.size with h' | h'
    · exact h'
    · rw [Array.getElem?_eq_none h', Array.getElem?_eq_getElem hlt] at e; cases e
  · obtain ⟨cs, hc, hr⟩ := hx i x hi
    exact ⟨cs, fun j u hu => (World.cell?_of_block (hk b hb)).trans (hc j u hu), Rep.keep hr hk⟩
theorem Sl.wide (h : Sl w S a len cap xs) (hs : ∀ b, S b → S' b) : Sl w S' a len cap xs := by
  obtain ⟨h1, h2, h3, h4, h5⟩ := h
  refine ⟨h1, h2, h3, h4, fun hl => ?_⟩
  obtain ⟨b, o, ha, hb, hlt, hx⟩ := h5 hl
  exact ⟨b, o, ha, hs b hb, hlt, fun i x hi => by
    obtain ⟨cs, hc, hr⟩ := hx i x hi
    exact ⟨cs, hc, Rep.wide hr hs⟩⟩
instance : Rep (List α) := ⟨1, fun w S cs xs => ∃ a len cap, cs = [.slice a len cap] ∧ Sl w S a len cap xs,
  fun ⟨_, _, _, h, _⟩ => by simp [h], fun ⟨a, len, cap, h, h1⟩ hk => ⟨a, len, cap, h, h1.keep hk⟩, fun ⟨a, len, cap, h, h1⟩ hs => ⟨a, len, cap, h, h1.wide hs⟩⟩

theorem Sl.len_eq (h : Sl w S a len cap xs) : len = xs.length := h.1
theorem Sl.nil (w : World) (S : Nat → Prop) : Sl w S none 0 0 ([] : List α) := ⟨rfl, Nat.le_refl _, by decide, fun _ => rfl, fun h => absurd h (by omega)⟩
theorem Sl.below {B : Nat} (h : Sl w (· < B) a len cap xs) (hb : Below B w w') : Sl w' (· < B) a len cap xs := h.keep fun b hlt => hb.block b hlt
theorem Sl.set (h : Sl w S a len cap xs) {p : Addr} (hp : ¬ S p.block) (u : Value) : Sl (w.setCell p u) S a len cap xs :=
  h.keep fun _ hb => Below.heap_setCell _ _ _ _ (fun e => hp (e ▸ hb))
theorem Sl.up {w0 : World} (h : Sl w (· < w.heap.size) a len cap xs) (hb : Below w.heap.size w w0) : Sl w0 (· < w0.heap.size) a len cap xs :=
  (h.below hb).wide fun _ hlt => Nat.lt_of_lt_of_le hlt hb.size
theorem Sl.at_ {k : Nat} (h : Sl w S a len cap xs) (hk : k < len) :
    ∃ b o x cs, a = some ⟨b, o, none⟩ ∧ S b ∧ b < w.heap.size ∧ xs[k]? = some x ∧ (∀ j u, cs[j]? = some u → w.cell? ⟨b, o + (k * Rep.n α + j), none⟩ = some u) ∧ Rep.rd w S cs x := by
  obtain ⟨h1, h2, h3, h4, h5⟩ := h
  obtain ⟨b, o, ha, hb, hlt, hx⟩ := h5 (by omega)
  have hk' : k < xs.length := by omega
  obtain ⟨cs, hc, hr⟩ := hx k _ (List.getElem?_eq_getElem hk')
  exact ⟨b, o, _, cs, ha, hb, hlt, List.getElem?_eq_getElem hk', hc, hr⟩
end
end Go.Proofs.Ythoilclddnjjjaa
