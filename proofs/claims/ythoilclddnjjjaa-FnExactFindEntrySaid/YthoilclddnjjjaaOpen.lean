/- Arguments opened: what a struct argument that reads as data is made of. -/
import Derived.Test.YthoilclddnjjjaaRows
import Derived.WalkKit
import Derived.ProofKit
import Derived.OpenShut
import Derived.ShutString
import Derived.ChangeOld
import Derived.Below
import Derived.Lib.SmallJoins
import Derived.Deep.Slices
import Derived.Test.YthoilclddnjjjaaTypes
namespace Go.Proofs.Ythoilclddnjjjaa
open Go.ChangeShapes Go.WideShapes Go.ChangeAt Go.RowKit
open Go.ChangeMaps (open_string shut_string)
set_option maxRecDepth 100000

theorem wf_i64_bounds {n : Int} (h : (Lit.int .i64 n).wf = true) : -9223372036854775808 ≤ n ∧ n ≤ 9223372036854775807 := by
  simp [Lit.wf, IntKind.min, IntKind.max, IntKind.signed, IntKind.bits] at h
  omega
section
variable {H : Type} {enc : TypeId × Value → H} {P : Program} {w : World} {base : Nat} {spare : Nat → Bool} {held : Bool}
/-- Field i of a struct that reads. -/
theorem field_rd {t : TypeId} {fs : Array Field} {fuel : Nat} {cs : List Value} {x : DataW H × List MemPlace} (ht : P.underlying t = some (.struct fs)) (h : DataW.trod enc P w base spare held fuel t cs = some x)
    (i : Nat) (off T n : Nat) (hi : (fs[i]?).map (fun f => (f.offset, f.type)) = some (off, T)) (hn : P.cellsOf T = n) : ∃ m y, DataW.trod enc P w base spare held m T ((cs.drop off).take n) = some y := by
  obtain ⟨xs, m, _, _, _, hxs, hf⟩ := DataW.trod_struct ht h
  obtain ⟨f, hfi, e⟩ := Option.map_eq_some_iff.1 hi
  simp only [Prod.mk.injEq] at e
  obtain ⟨rfl, rfl⟩ := e
  subst hn
  have hlt : i < xs.length := by rw [hxs]; exact (Array.getElem?_eq_some_iff.1 hfi).1
  exact ⟨m, _, (hf i f hfi).trans (List.getElem?_eq_getElem hlt)⟩
theorem struct_len {t : TypeId} {fs : Array Field} {fuel : Nat} {cs : List Value} {x : DataW H × List MemPlace} (ht : P.underlying t = some (.struct fs)) (h : DataW.trod enc P w base spare held fuel t cs = some x) : cs.length = P.cellsOf t := by
  obtain ⟨_, _, _, _, hl, _⟩ := DataW.trod_struct ht h
  exact hl
end
section
variable {H : Type} {enc : TypeId × Value → H} {P : Program} {w : World} {base : Nat} {spare : Nat → Bool} {held : Bool} {α : Type} [Rep α]
/-- A slice whose elements open. -/
theorem open_Sl {t e : TypeId} (ht : P.underlying t = some (.slice e)) (hn : P.cellsOf e = Rep.n α) (hpos : 0 < Rep.n α)
    (elem : ∀ (n : Nat) (cs : List Value) (x : DataW H × List MemPlace), DataW.trod enc P w base spare held n e cs = some x → ∃ y : α, Rep.rd w (· < w.heap.size) cs y)
    {fuel : Nat} {cs : List Value} {x : DataW H × List MemPlace} (h : DataW.trod enc P w base spare held fuel t cs = some x) :
    ∃ (a : Option Addr) (len cap : Nat) (l : List α), cs = [.slice a len cap] ∧ Sl w (· < w.heap.size) a len cap l := by
  rcases Go.Deep.open_slice ht h with ⟨h0, _⟩ | ⟨a, len, cap, m, n, D, Pl, hcs, _, hl, hm, hmm, _, hi⟩
  · exact ⟨none, 0, 0, [], h0, Sl.nil _ _⟩
  · rcases Nat.eq_zero_or_pos len with h0 | h0
    · subst h0
      exact ⟨some a, 0, cap, [], hcs, rfl, hl, hm, fun h => (by cases h), fun h => absurd h (by omega)⟩
    · have hlm : len ≤ m := by rw [hmm]; split <;> omega
      have hex : ∀ i, i < len → ∃ (cs' : List Value) (y : α), w.cells? base (a.add (i * P.cellsOf e)) (P.cellsOf e) = some cs' ∧ Rep.rd w (· < w.heap.size) cs' y := fun i hil => by
        obtain ⟨cs', hc, ht'⟩ := hi i (by omega)
        obtain ⟨y, hy⟩ := elem _ _ _ ht'
        exact ⟨cs', y, hc, hy⟩
      have hch : ∃ f : Nat → List Value × α, ∀ i, i < len → w.cells? base (a.add (i * P.cellsOf e)) (P.cellsOf e) = some (f i).1 ∧ Rep.rd w (· < w.heap.size) (f i).1 (f i).2 := by
        obtain ⟨c0, y0, _⟩ := hex 0 h0
        refine ⟨fun i => if hi : i < len then ((hex i hi).choose, (hex i hi).choose_spec.choose) else (c0, y0), fun i hi => ?_⟩
        simp only [hi, dif_pos]
        exact (hex i hi).choose_spec.choose_spec
      obtain ⟨f, hf⟩ := hch
      have hcell : ∀ i, i < len → ∀ j u, (f i).1[j]? = some u → w.cell? ((a.add (i * P.cellsOf e)).add j) = some u := fun i hil j u hu => by
        obtain ⟨_, hcl, hat⟩ := World.cells?_some (hf i hil).1
        have hj : j < P.cellsOf e := by rw [← hcl]; exact (List.getElem?_eq_some_iff.1 hu).1
        rw [hat j hj, hu]
      have hfirst : ∃ u, w.cell? a = some u := by
        have hlen0 : 0 < (f 0).1.length := by rw [Rep.len (hf 0 h0).2]; exact hpos
        have hx := hcell 0 h0 0 _ (List.getElem?_eq_getElem hlen0)
        rw [Nat.zero_mul] at hx
        exact ⟨_, by simpa [Addr.add] using hx⟩
      obtain ⟨u0, hu0⟩ := hfirst
      have hsp := World.cell?_spot hu0
      have hlt := World.block_lt_of_cell? _ _ hu0
      have hadd : ∀ k j, (a.add k).add j = ⟨a.block, a.off + (k + j), none⟩ := fun k j => by
        obtain ⟨b, o, sp⟩ := a
        simp only at hsp
        subst hsp
        unfold Addr.add
        by_cases hk : k = 0 <;> by_cases hj : j = 0 <;> simp [hk, hj, Nat.add_assoc]
      have haeq : a = ⟨a.block, a.off, none⟩ := by
        obtain ⟨b, o, sp⟩ := a
        simp only at hsp
        subst hsp
        rfl
      refine ⟨some a, len, cap, (List.range len).map fun i => (f i).2, hcs, by simp, hl, hm, fun h => (by cases h), fun _ => ⟨a.block, a.off, congrArg some haeq, hlt, hlt, fun i x hx => ?_⟩⟩
      have hil : i < len := by
        have := (List.getElem?_eq_some_iff.1 hx).1
        simpa using this
      have hx' : x = (f i).2 := by simp [hil] at hx; exact hx.symm
      subst hx'
      exact ⟨(f i).1, fun j u hu => by rw [← hn, ← hadd]; exact hcell i hil j u hu, (hf i hil).2⟩
end
section
variable {H : Type} {enc : TypeId × Value → H} {w : World} {base : Nat} {spare : Nat → Bool} {held : Bool}
theorem rd_Version {fuel : Nat} {cs : List Value} {x : DataW H × List MemPlace} (h : DataW.trod enc Try.prog w base spare held fuel 23 cs = some x) :
    ∃ a b : Int, cs = [.int .i64 a, .int .i64 b] ∧ (Lit.int .i64 a).wf = true ∧ (Lit.int .i64 b).wf = true := by
  have hl := struct_len Try.underlying23 h
  rw [show Try.prog.cellsOf 23 = 2 by kernel_rfl] at hl
  obtain ⟨n0, y0, h0⟩ := field_rd Try.underlying23 h 0 0 3 1 (by kernel_rfl) (by kernel_rfl)
  obtain ⟨n1, y1, h1⟩ := field_rd Try.underlying23 h 1 1 3 1 (by kernel_rfl) (by kernel_rfl)
  match cs, hl with
  | [c0, c1], _ =>
    simp only [List.drop_zero, List.drop_succ_cons, List.take_succ_cons, List.take_zero] at h0 h1
    obtain ⟨a, e0, _, w0⟩ := DataW.trod_int Try.underlying3 h0
    obtain ⟨b, e1, _, w1⟩ := DataW.trod_int Try.underlying3 h1
    simp at e0 e1
    subst e0 e1
    exact ⟨a, b, rfl, w0, w1⟩
theorem open_Version {r : Reach} {b0 : Nat} {v : Value} {d : DataW H} {p : List MemPlace} (hv : Value.okWide Try.prog w r b0 23 v) (h : DataW.Trod enc Try.prog w base spare held 23 v d p) :
    ∃ a b : Int, v = .agg #[.int .i64 a, .int .i64 b] ∧ (Lit.int .i64 a).wf = true ∧ (Lit.int .i64 b).wf = true := by
  obtain ⟨cs, rfl, _⟩ := okWide_struct Try.underlying23 hv
  obtain ⟨fuel, hf⟩ := h
  obtain ⟨a, b, hc, w0, w1⟩ := rd_Version hf
  exact ⟨a, b, by rw [show cs = #[.int .i64 a, .int .i64 b] from Array.toList_inj.1 hc], w0, w1⟩
theorem rep_Version {n : Nat} {cs : List Value} {x : DataW H × List MemPlace} (h : DataW.trod enc Try.prog w base spare held n 23 cs = some x) : ∃ y : Ver, Rep.rd w (· < w.heap.size) cs y := by
  obtain ⟨a, b, rfl, w0, w1⟩ := rd_Version h
  exact ⟨⟨a, b⟩, rfl, wf_i64_bounds w0, wf_i64_bounds w1⟩
theorem rd_Offer {fuel : Nat} {cs : List Value} {x : DataW H × List MemPlace} (h : DataW.trod enc Try.prog w base spare held fuel 30 cs = some x) :
    ∃ (a : Option Addr) (len cap : Nat) (l : List Ver) (f : Int), cs = [.slice a len cap, .int .i64 f] ∧ Sl w (· < w.heap.size) a len cap l ∧ I64 f := by
  have hl := struct_len Try.underlying30 h
  rw [show Try.prog.cellsOf 30 = 2 by kernel_rfl] at hl
  obtain ⟨n0, y0, h0⟩ := field_rd Try.underlying30 h 0 0 28 1 (by kernel_rfl) (by kernel_rfl)
  obtain ⟨n1, y1, h1⟩ := field_rd Try.underlying30 h 1 1 3 1 (by kernel_rfl) (by kernel_rfl)
  match cs, hl with
  | [c0, c1], _ =>
    simp only [List.drop_zero, List.drop_succ_cons, List.take_succ_cons, List.take_zero] at h0 h1
    obtain ⟨a, len, cap, l, e0, hs⟩ := open_Sl (α := Ver) Try.underlying28 (by kernel_rfl) (by decide) (fun n cs x h => rep_Version h) h0
    obtain ⟨f, e1, _, w1⟩ := DataW.trod_int Try.underlying3 h1
    simp at e0 e1
    subst e0 e1
    exact ⟨a, len, cap, l, f, rfl, hs, wf_i64_bounds w1⟩
theorem open_Offer {r : Reach} {b0 : Nat} {v : Value} {d : DataW H} {p : List MemPlace} (hv : Value.okWide Try.prog w r b0 30 v) (h : DataW.Trod enc Try.prog w base spare held 30 v d p) :
    ∃ (a : Option Addr) (len cap : Nat) (l : List Ver) (f : Int), v = .agg #[.slice a len cap, .int .i64 f] ∧ Sl w (· < w.heap.size) a len cap l ∧ I64 f := by
  obtain ⟨cs, rfl, _⟩ := okWide_struct Try.underlying30 hv
  obtain ⟨fuel, hf⟩ := h
  obtain ⟨a, len, cap, l, f, hc, h1⟩ := rd_Offer hf
  exact ⟨a, len, cap, l, f, by rw [show cs = #[.slice a len cap, .int .i64 f] from Array.toList_inj.1 hc], h1⟩
theorem rd_Need {fuel : Nat} {cs : List Value} {x : DataW H × List MemPlace} (h : DataW.trod enc Try.prog w base spare held fuel 110 cs = some x) :
    ∃ (f : Int) (s : ByteArray) (a b : Int), cs = [.int .i64 f, .string s, .int .i64 a, .int .i64 b] ∧ s.size ≤ maxLen ∧ (Lit.int .i64 f).wf = true ∧ (Lit.int .i64 a).wf = true ∧ (Lit.int .i64 b).wf = true := by
  have hl := struct_len Try.underlying110 h
  rw [show Try.prog.cellsOf 110 = 4 by kernel_rfl] at hl
  obtain ⟨n0, y0, h0⟩ := field_rd Try.underlying110 h 0 0 3 1 (by kernel_rfl) (by kernel_rfl)
  obtain ⟨n1, y1, h1⟩ := field_rd Try.underlying110 h 1 1 9 1 (by kernel_rfl) (by kernel_rfl)
  obtain ⟨n2, y2, h2⟩ := field_rd Try.underlying110 h 2 2 23 2 (by kernel_rfl) (by kernel_rfl)
  match cs, hl with
  | [c0, c1, c2, c3], _ =>
    simp only [List.drop_zero, List.drop_succ_cons, List.take_succ_cons, List.take_zero] at h0 h1 h2
    obtain ⟨f, e0, _, w0⟩ := DataW.trod_int Try.underlying3 h0
    obtain ⟨s, e1, _, w1⟩ := DataW.trod_string Try.underlying9 h1
    obtain ⟨a, b, e2, w2, w3⟩ := rd_Version h2
    simp at e0 e1 e2
    obtain ⟨rfl, rfl⟩ := e2
    subst e0 e1
    exact ⟨f, s, a, b, rfl, w1, w0, w2, w3⟩
theorem open_Need {r : Reach} {b0 : Nat} {v : Value} {d : DataW H} {p : List MemPlace} (hv : Value.okWide Try.prog w r b0 110 v) (h : DataW.Trod enc Try.prog w base spare held 110 v d p) :
    ∃ (f : Int) (s : ByteArray) (a b : Int), v = .agg #[.int .i64 f, .string s, .int .i64 a, .int .i64 b] ∧ s.size ≤ maxLen ∧ (Lit.int .i64 f).wf = true ∧ (Lit.int .i64 a).wf = true ∧ (Lit.int .i64 b).wf = true := by
  obtain ⟨cs, rfl, _⟩ := okWide_struct Try.underlying110 hv
  obtain ⟨fuel, hf⟩ := h
  obtain ⟨f, s, a, b, hc, w0⟩ := rd_Need hf
  exact ⟨f, s, a, b, by rw [show cs = #[.int .i64 f, .string s, .int .i64 a, .int .i64 b] from Array.toList_inj.1 hc], w0⟩
end
end Go.Proofs.Ythoilclddnjjjaa
