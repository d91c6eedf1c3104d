/- Arguments that read as data, opened: structs and slices of them. Written by gen.py. -/
import Derived.Test.YthoilclddnjjjaaOpen
import Derived.Test.YthoilclddnjjjaaData
namespace Go.Proofs.Ythoilclddnjjjaa
open Go.ChangeShapes Go.WideShapes Go.ChangeAt Go.RowKit
set_option maxRecDepth 100000
set_option linter.unusedVariables false
section
variable {H : Type} {enc : TypeId × Value → H} {w : World} {base : Nat} {spare : Nat → Bool} {held : Bool}
theorem trod_str {fuel : Nat} {cs : List Value} {x : DataW H × List MemPlace} (h : DataW.trod enc Try.prog w base spare held fuel 9 cs = some x) : ∃ y : ByteArray, Rep.rd w (· < w.heap.size) cs y := by
  obtain ⟨s, e, _, hz⟩ := DataW.trod_string Try.underlying9 h
  exact ⟨s, e, hz⟩
theorem opens_StringS {r : Reach} {b0 : Nat} {v : Value} {d : DataW H} {p : List MemPlace} (hv : Value.okWide Try.prog w r b0 82 v) (h : DataW.Trod enc Try.prog w base spare held 82 v d p) :
    ∃ (a : Option Addr) (len cap : Nat) (l : List ByteArray), v = .slice a len cap ∧ Sl w (· < w.heap.size) a len cap l := by
  obtain ⟨a, len, cap, rfl⟩ := okWide_slice Try.underlying82 hv
  obtain ⟨fuel, hf⟩ := h
  obtain ⟨a', len', cap', l, e, hs⟩ := open_Sl (α := ByteArray) Try.underlying82 (by kernel_rfl) (by decide) (fun n cs x h => trod_str h) hf
  simp [Value.cells] at e
  obtain ⟨rfl, rfl, rfl⟩ := e
  exact ⟨_, _, _, l, rfl, hs⟩
theorem trod_Ver {fuel : Nat} {cs : List Value} {x : DataW H × List MemPlace} (h : DataW.trod enc Try.prog w base spare held fuel 23 cs = some x) : ∃ y : Ver, Rep.rd w (· < w.heap.size) cs y := by
  have hl := struct_len Try.underlying23 h
  rw [show Try.prog.cellsOf 23 = 2 by kernel_rfl] at hl
  obtain ⟨m0, y0, h0⟩ := field_rd Try.underlying23 h 0 0 3 1 (by kernel_rfl) (by kernel_rfl)
  obtain ⟨m1, y1, h1⟩ := field_rd Try.underlying23 h 1 1 3 1 (by kernel_rfl) (by kernel_rfl)
  match cs, hl with
  | [c0, c1], _ =>
    simp only [List.drop_zero, List.drop_succ_cons, List.take_succ_cons, List.take_zero] at h0 h1
    obtain ⟨v0, e0, _, w0⟩ := DataW.trod_int Try.underlying3 h0
    obtain ⟨v1, e1, _, w1⟩ := DataW.trod_int Try.underlying3 h1
    simp only [List.cons.injEq, and_true] at e0 e1
    obtain rfl := e0
    obtain rfl := e1
    exact ⟨⟨v0, v1⟩, rfl, wf_i64_bounds w0, wf_i64_bounds w1⟩
theorem opens_Ver {r : Reach} {b0 : Nat} {v : Value} {d : DataW H} {p : List MemPlace} (hv : Value.okWide Try.prog w r b0 23 v) (h : DataW.Trod enc Try.prog w base spare held 23 v d p) :
    ∃ (cs : List Value) (y : Ver), v = .agg cs.toArray ∧ Rep.rd w (· < w.heap.size) cs y := by
  obtain ⟨cs, rfl, _⟩ := okWide_struct Try.underlying23 hv
  obtain ⟨fuel, hf⟩ := h
  obtain ⟨y, hr⟩ := trod_Ver hf
  exact ⟨_, y, by simp [Value.cells], hr⟩
theorem opens_VerS {r : Reach} {b0 : Nat} {v : Value} {d : DataW H} {p : List MemPlace} (hv : Value.okWide Try.prog w r b0 28 v) (h : DataW.Trod enc Try.prog w base spare held 28 v d p) :
    ∃ (a : Option Addr) (len cap : Nat) (l : List Ver), v = .slice a len cap ∧ Sl w (· < w.heap.size) a len cap l := by
  obtain ⟨a, len, cap, rfl⟩ := okWide_slice Try.underlying28 hv
  obtain ⟨fuel, hf⟩ := h
  obtain ⟨a', len', cap', l, e, hs⟩ := open_Sl (α := Ver) Try.underlying28 (by kernel_rfl) (by decide) (fun n cs x h => trod_Ver h) hf
  simp [Value.cells] at e
  obtain ⟨rfl, rfl, rfl⟩ := e
  exact ⟨_, _, _, l, rfl, hs⟩
theorem trod_Offer {fuel : Nat} {cs : List Value} {x : DataW H × List MemPlace} (h : DataW.trod enc Try.prog w base spare held fuel 30 cs = some x) : ∃ y : Offer, Rep.rd w (· < w.heap.size) cs y := by
  have hl := struct_len Try.underlying30 h
  rw [show Try.prog.cellsOf 30 = 2 by kernel_rfl] at hl
  obtain ⟨m0, y0, h0⟩ := field_rd Try.underlying30 h 0 0 28 1 (by kernel_rfl) (by kernel_rfl)
  obtain ⟨m1, y1, h1⟩ := field_rd Try.underlying30 h 1 1 3 1 (by kernel_rfl) (by kernel_rfl)
  match cs, hl with
  | [c0, c1], _ =>
    simp only [List.drop_zero, List.drop_succ_cons, List.take_succ_cons, List.take_zero] at h0 h1
    obtain ⟨p0, q0, r0, v0, e0, s0⟩ := open_Sl (α := Ver) Try.underlying28 (by kernel_rfl) (by decide) (fun n cs x h => trod_Ver h) h0
    obtain ⟨v1, e1, _, w1⟩ := DataW.trod_int Try.underlying3 h1
    simp only [List.cons.injEq, and_true] at e0 e1
    obtain rfl := e0
    obtain rfl := e1
    exact ⟨⟨v0, v1⟩, p0, q0, r0, rfl, s0, wf_i64_bounds w1, trivial⟩
theorem opens_Offer {r : Reach} {b0 : Nat} {v : Value} {d : DataW H} {p : List MemPlace} (hv : Value.okWide Try.prog w r b0 30 v) (h : DataW.Trod enc Try.prog w base spare held 30 v d p) :
    ∃ (cs : List Value) (y : Offer), v = .agg cs.toArray ∧ Rep.rd w (· < w.heap.size) cs y := by
  obtain ⟨cs, rfl, _⟩ := okWide_struct Try.underlying30 hv
  obtain ⟨fuel, hf⟩ := h
  obtain ⟨y, hr⟩ := trod_Offer hf
  exact ⟨_, y, by simp [Value.cells], hr⟩
theorem opens_OfferS {r : Reach} {b0 : Nat} {v : Value} {d : DataW H} {p : List MemPlace} (hv : Value.okWide Try.prog w r b0 69 v) (h : DataW.Trod enc Try.prog w base spare held 69 v d p) :
    ∃ (a : Option Addr) (len cap : Nat) (l : List Offer), v = .slice a len cap ∧ Sl w (· < w.heap.size) a len cap l := by
  obtain ⟨a, len, cap, rfl⟩ := okWide_slice Try.underlying69 hv
  obtain ⟨fuel, hf⟩ := h
  obtain ⟨a', len', cap', l, e, hs⟩ := open_Sl (α := Offer) Try.underlying69 (by kernel_rfl) (by decide) (fun n cs x h => trod_Offer h) hf
  simp [Value.cells] at e
  obtain ⟨rfl, rfl, rfl⟩ := e
  exact ⟨_, _, _, l, rfl, hs⟩
theorem trod_Need {fuel : Nat} {cs : List Value} {x : DataW H × List MemPlace} (h : DataW.trod enc Try.prog w base spare held fuel 110 cs = some x) : ∃ y : Need, Rep.rd w (· < w.heap.size) cs y := by
  have hl := struct_len Try.underlying110 h
  rw [show Try.prog.cellsOf 110 = 4 by kernel_rfl] at hl
  obtain ⟨m0, y0, h0⟩ := field_rd Try.underlying110 h 0 0 3 1 (by kernel_rfl) (by kernel_rfl)
  obtain ⟨m1, y1, h1⟩ := field_rd Try.underlying110 h 1 1 9 1 (by kernel_rfl) (by kernel_rfl)
  obtain ⟨m2, y2, h2⟩ := field_rd Try.underlying110 h 2 2 23 2 (by kernel_rfl) (by kernel_rfl)
  match cs, hl with
  | [c0, c1, c2, c3], _ =>
    simp only [List.drop_zero, List.drop_succ_cons, List.take_succ_cons, List.take_zero] at h0 h1 h2
    obtain ⟨v0, e0, _, w0⟩ := DataW.trod_int Try.underlying3 h0
    obtain ⟨v1, e1, _, w1⟩ := DataW.trod_string Try.underlying9 h1
    obtain ⟨v2, u2⟩ := trod_Ver h2
    obtain ⟨e2, g0_2, g1_2⟩ := u2
    simp only [List.cons.injEq, and_true] at e0 e1 e2
    obtain rfl := e0
    obtain rfl := e1
    obtain ⟨rfl, rfl⟩ := e2
    exact ⟨⟨v0, v1, v2⟩, rfl, wf_i64_bounds w0, w1, g0_2, g1_2, trivial⟩
theorem opens_Need {r : Reach} {b0 : Nat} {v : Value} {d : DataW H} {p : List MemPlace} (hv : Value.okWide Try.prog w r b0 110 v) (h : DataW.Trod enc Try.prog w base spare held 110 v d p) :
    ∃ (cs : List Value) (y : Need), v = .agg cs.toArray ∧ Rep.rd w (· < w.heap.size) cs y := by
  obtain ⟨cs, rfl, _⟩ := okWide_struct Try.underlying110 hv
  obtain ⟨fuel, hf⟩ := h
  obtain ⟨y, hr⟩ := trod_Need hf
  exact ⟨_, y, by simp [Value.cells], hr⟩
theorem opens_NeedS {r : Reach} {b0 : Nat} {v : Value} {d : DataW H} {p : List MemPlace} (hv : Value.okWide Try.prog w r b0 83 v) (h : DataW.Trod enc Try.prog w base spare held 83 v d p) :
    ∃ (a : Option Addr) (len cap : Nat) (l : List Need), v = .slice a len cap ∧ Sl w (· < w.heap.size) a len cap l := by
  obtain ⟨a, len, cap, rfl⟩ := okWide_slice Try.underlying83 hv
  obtain ⟨fuel, hf⟩ := h
  obtain ⟨a', len', cap', l, e, hs⟩ := open_Sl (α := Need) Try.underlying83 (by kernel_rfl) (by decide) (fun n cs x h => trod_Need h) hf
  simp [Value.cells] at e
  obtain ⟨rfl, rfl, rfl⟩ := e
  exact ⟨_, _, _, l, rfl, hs⟩
theorem trod_Entry {fuel : Nat} {cs : List Value} {x : DataW H × List MemPlace} (h : DataW.trod enc Try.prog w base spare held fuel 85 cs = some x) : ∃ y : Entry, Rep.rd w (· < w.heap.size) cs y := by
  have hl := struct_len Try.underlying85 h
  rw [show Try.prog.cellsOf 85 = 5 by kernel_rfl] at hl
  obtain ⟨m0, y0, h0⟩ := field_rd Try.underlying85 h 0 0 9 1 (by kernel_rfl) (by kernel_rfl)
  obtain ⟨m1, y1, h1⟩ := field_rd Try.underlying85 h 1 1 82 1 (by kernel_rfl) (by kernel_rfl)
  obtain ⟨m2, y2, h2⟩ := field_rd Try.underlying85 h 2 2 23 2 (by kernel_rfl) (by kernel_rfl)
  obtain ⟨m3, y3, h3⟩ := field_rd Try.underlying85 h 3 4 83 1 (by kernel_rfl) (by kernel_rfl)
  match cs, hl with
  | [c0, c1, c2, c3, c4], _ =>
    simp only [List.drop_zero, List.drop_succ_cons, List.take_succ_cons, List.take_zero] at h0 h1 h2 h3
    obtain ⟨v0, e0, _, w0⟩ := DataW.trod_string Try.underlying9 h0
    obtain ⟨p1, q1, r1, v1, e1, s1⟩ := open_Sl (α := ByteArray) Try.underlying82 (by kernel_rfl) (by decide) (fun n cs x h => trod_str h) h1
    obtain ⟨v2, u2⟩ := trod_Ver h2
    obtain ⟨e2, g0_2, g1_2⟩ := u2
    obtain ⟨p3, q3, r3, v3, e3, s3⟩ := open_Sl (α := Need) Try.underlying83 (by kernel_rfl) (by decide) (fun n cs x h => trod_Need h) h3
    simp only [List.cons.injEq, and_true] at e0 e1 e2 e3
    obtain rfl := e0
    obtain rfl := e1
    obtain ⟨rfl, rfl⟩ := e2
    obtain rfl := e3
    exact ⟨⟨v0, v1, v2, v3⟩, p1, q1, r1, p3, q3, r3, rfl, w0, s1, g0_2, g1_2, s3, trivial⟩
theorem opens_Entry {r : Reach} {b0 : Nat} {v : Value} {d : DataW H} {p : List MemPlace} (hv : Value.okWide Try.prog w r b0 85 v) (h : DataW.Trod enc Try.prog w base spare held 85 v d p) :
    ∃ (cs : List Value) (y : Entry), v = .agg cs.toArray ∧ Rep.rd w (· < w.heap.size) cs y := by
  obtain ⟨cs, rfl, _⟩ := okWide_struct Try.underlying85 hv
  obtain ⟨fuel, hf⟩ := h
  obtain ⟨y, hr⟩ := trod_Entry hf
  exact ⟨_, y, by simp [Value.cells], hr⟩
theorem opens_EntryS {r : Reach} {b0 : Nat} {v : Value} {d : DataW H} {p : List MemPlace} (hv : Value.okWide Try.prog w r b0 51 v) (h : DataW.Trod enc Try.prog w base spare held 51 v d p) :
    ∃ (a : Option Addr) (len cap : Nat) (l : List Entry), v = .slice a len cap ∧ Sl w (· < w.heap.size) a len cap l := by
  obtain ⟨a, len, cap, rfl⟩ := okWide_slice Try.underlying51 hv
  obtain ⟨fuel, hf⟩ := h
  obtain ⟨a', len', cap', l, e, hs⟩ := open_Sl (α := Entry) Try.underlying51 (by kernel_rfl) (by decide) (fun n cs x h => trod_Entry h) hf
  simp [Value.cells] at e
  obtain ⟨rfl, rfl, rfl⟩ := e
  exact ⟨_, _, _, l, rfl, hs⟩
end
end Go.Proofs.Ythoilclddnjjjaa
