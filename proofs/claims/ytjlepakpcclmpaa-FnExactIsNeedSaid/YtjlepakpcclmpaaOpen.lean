/- Arguments opened: what a struct argument that reads as data is made of. -/
import Derived.Test.YtjlepakpcclmpaaRows
import Derived.WalkKit
import Derived.ProofKit
import Derived.OpenShut
import Derived.ShutString
import Derived.ChangeOld
import Derived.Below
import Derived.Lib.SmallJoins
namespace Go.Proofs.Ytjlepakpcclmpaa
open Go.ChangeShapes Go.WideShapes Go.ChangeAt Go.RowKit
open Go.ChangeMaps (open_string shut_string)

theorem wf_i64_bounds {n : Int} (h : (Lit.int .i64 n).wf = true) : -9223372036854775808 ≤ n ∧ n ≤ 9223372036854775807 := by
  simp [Lit.wf, IntKind.min, IntKind.max, IntKind.signed, IntKind.bits] at h
  omega
section
variable {H : Type} {enc : TypeId × Value → H} {P : Program} {w : World} {base : Nat} {spare : Nat → Bool} {held : Bool}
/-- Field i of a struct that reads. -/
theorem field_rd {t : TypeId} {fs : Array Field} {fuel : Nat} {cs : List Value} {x : DataW H × List MemPlace} (ht : P.underlying t = some (.struct fs)) (h : DataW.trod enc P w base spare held fuel t cs = some x)
    (i : Nat) (off T n : Nat) (hi : (fs[i]?).map (fun f => (f.offset, f.type)) = some (off, T)) (hn : P.cellsOf T = n) : ∃ m y, DataW.trod enc P w base spare held m T ((cs.drop off).take n) = some y := by
  obtain ⟨xs, m, _, _, _, hxs, hf⟩ := DataW.trod_struct ht h
  obtain ⟨f, hfi, e⟩ := Option.map_eq_some_iff.1 hi
  simp only [Prod.mk.injEq] at e
  obtain ⟨rfl, rfl⟩ := e
  subst hn
  have hlt : i < xs.length := by rw [hxs]; exact (Array.getElem?_eq_some_iff.1 hfi).1
  exact ⟨m, _, (hf i f hfi).trans (List.getElem?_eq_getElem hlt)⟩
theorem struct_len {t : TypeId} {fs : Array Field} {fuel : Nat} {cs : List Value} {x : DataW H × List MemPlace} (ht : P.underlying t = some (.struct fs)) (h : DataW.trod enc P w base spare held fuel t cs = some x) : cs.length = P.cellsOf t := by
  obtain ⟨_, _, _, _, hl, _⟩ := DataW.trod_struct ht h
  exact hl
end
section
variable {H : Type} {enc : TypeId × Value → H} {w : World} {base : Nat} {spare : Nat → Bool} {held : Bool}
theorem rd_Version {fuel : Nat} {cs : List Value} {x : DataW H × List MemPlace} (h : DataW.trod enc Try.prog w base spare held fuel 23 cs = some x) :
    ∃ a b : Int, cs = [.int .i64 a, .int .i64 b] ∧ (Lit.int .i64 a).wf = true ∧ (Lit.int .i64 b).wf = true := by
  have hl := struct_len Try.underlying23 h
  rw [show Try.prog.cellsOf 23 = 2 by kernel_rfl] at hl
  obtain ⟨n0, y0, h0⟩ := field_rd Try.underlying23 h 0 0 3 1 (by kernel_rfl) (by kernel_rfl)
  obtain ⟨n1, y1, h1⟩ := field_rd Try.underlying23 h 1 1 3 1 (by kernel_rfl) (by kernel_rfl)
  match cs, hl with
  | [c0, c1], _ =>
    simp only [List.drop_zero, List.drop_succ_cons, List.take_succ_cons, List.take_zero] at h0 h1
    obtain ⟨a, e0, _, w0⟩ := DataW.trod_int Try.underlying3 h0
    obtain ⟨b, e1, _, w1⟩ := DataW.trod_int Try.underlying3 h1
    simp at e0 e1
    subst e0 e1
    exact ⟨a, b, rfl, w0, w1⟩
theorem open_Version {r : Reach} {b0 : Nat} {v : Value} {d : DataW H} {p : List MemPlace} (hv : Value.okWide Try.prog w r b0 23 v) (h : DataW.Trod enc Try.prog w base spare held 23 v d p) :
    ∃ a b : Int, v = .agg #[.int .i64 a, .int .i64 b] ∧ (Lit.int .i64 a).wf = true ∧ (Lit.int .i64 b).wf = true := by
  obtain ⟨cs, rfl, _⟩ := okWide_struct Try.underlying23 hv
  obtain ⟨fuel, hf⟩ := h
  obtain ⟨a, b, hc, w0, w1⟩ := rd_Version hf
  exact ⟨a, b, by rw [show cs = #[.int .i64 a, .int .i64 b] from Array.toList_inj.1 hc], w0, w1⟩
theorem rd_Need {fuel : Nat} {cs : List Value} {x : DataW H × List MemPlace} (h : DataW.trod enc Try.prog w base spare held fuel 35 cs = some x) :
    ∃ (f : Int) (s : ByteArray) (a b : Int), cs = [.int .i64 f, .string s, .int .i64 a, .int .i64 b] ∧ s.size ≤ maxLen ∧ (Lit.int .i64 f).wf = true ∧ (Lit.int .i64 a).wf = true ∧ (Lit.int .i64 b).wf = true := by
  have hl := struct_len Try.underlying35 h
  rw [show Try.prog.cellsOf 35 = 4 by kernel_rfl] at hl
  obtain ⟨n0, y0, h0⟩ := field_rd Try.underlying35 h 0 0 3 1 (by kernel_rfl) (by kernel_rfl)
  obtain ⟨n1, y1, h1⟩ := field_rd Try.underlying35 h 1 1 9 1 (by kernel_rfl) (by kernel_rfl)
  obtain ⟨n2, y2, h2⟩ := field_rd Try.underlying35 h 2 2 23 2 (by kernel_rfl) (by kernel_rfl)
  match cs, hl with
  | [c0, c1, c2, c3], _ =>
    simp only [List.drop_zero, List.drop_succ_cons, List.take_succ_cons, List.take_zero] at h0 h1 h2
    obtain ⟨f, e0, _, w0⟩ := DataW.trod_int Try.underlying3 h0
    obtain ⟨s, e1, _, w1⟩ := DataW.trod_string Try.underlying9 h1
    obtain ⟨a, b, e2, w2, w3⟩ := rd_Version h2
    simp at e0 e1 e2
    obtain ⟨rfl, rfl⟩ := e2
    subst e0 e1
    exact ⟨f, s, a, b, rfl, w1, w0, w2, w3⟩
theorem open_Need {r : Reach} {b0 : Nat} {v : Value} {d : DataW H} {p : List MemPlace} (hv : Value.okWide Try.prog w r b0 35 v) (h : DataW.Trod enc Try.prog w base spare held 35 v d p) :
    ∃ (f : Int) (s : ByteArray) (a b : Int), v = .agg #[.int .i64 f, .string s, .int .i64 a, .int .i64 b] ∧ s.size ≤ maxLen ∧ (Lit.int .i64 f).wf = true ∧ (Lit.int .i64 a).wf = true ∧ (Lit.int .i64 b).wf = true := by
  obtain ⟨cs, rfl, _⟩ := okWide_struct Try.underlying35 hv
  obtain ⟨fuel, hf⟩ := h
  obtain ⟨f, s, a, b, hc, w0⟩ := rd_Need hf
  exact ⟨f, s, a, b, by rw [show cs = #[.int .i64 f, .string s, .int .i64 a, .int .i64 b] from Array.toList_inj.1 hc], w0⟩
end
end Go.Proofs.Ytjlepakpcclmpaa
