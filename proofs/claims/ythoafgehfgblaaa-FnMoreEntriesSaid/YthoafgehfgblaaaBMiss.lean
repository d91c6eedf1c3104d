/- Who misses a provider, as data; with one more entry nobody else misses more. -/
import Derived.Test.YthoafgehfgblaaaBReg
namespace Go.Proofs.Ythoafgehfgblaaa
open Go.RowKit Go
set_option linter.unusedVariables false
set_option linter.unusedSimpArgs false
set_option linter.unusedSectionVars false
variable [GC]
def provs (s : ByteArray) (n : Need) (x : Entry) : Bool := !decide (x.name = s) && servesB x n
theorem provAt_nth (l : List Entry) (s : ByteArray) (n : Need) (k : Nat) : provAt l s n k = provs s n (nth l k) := rfl
theorem provO_none {l : List Entry} {s : ByteArray} {n : Need} : provO l s n = none ↔ ∀ x ∈ l, provs s n x = false := by
  unfold provO
  constructor
  · intro h x hx
    obtain ⟨i, hi, rfl⟩ := List.getElem_of_mem hx
    have := firstTo_no h i hi
    rw [provAt_nth] at this
    simpa [nth, List.getD_eq_getElem?_getD, hi] using this
  · intro h
    exact firstTo_none fun i hi => by rw [provAt_nth]; exact h _ (nth_mem hi)
def missE (l : List Entry) (y : Entry) : Bool := y.needs.any fun n => (provO l y.name n).isNone
def missL (l : List Entry) : List ByteArray := if regB l then (l.filter (missE l)).map (·.name) else []
theorem mem_insE {l : List Entry} {e x : Entry} : x ∈ insE l e ↔ x ∈ l ∨ x = e := by
  unfold insE
  have h := List.take_append_drop (atOf l e.name) l
  constructor
  · intro hx
    simp only [List.mem_append, List.mem_singleton] at hx
    rcases hx with (hx | hx) | hx
    · exact .inl (List.mem_of_mem_take hx)
    · exact .inr hx
    · exact .inl (List.mem_of_mem_drop hx)
  · intro hx
    simp only [List.mem_append, List.mem_singleton]
    rcases hx with hx | hx
    · rw [← h, List.mem_append] at hx
      rcases hx with hx | hx
      · exact .inl (.inl hx)
      · exact .inr hx
    · exact .inl (.inr hx)
theorem miss_more {l : List Entry} {e y : Entry} (h : missE (insE l e) y = true) : missE l y = true := by
  unfold missE at *
  rw [List.any_eq_true] at *
  obtain ⟨n, hn, h⟩ := h
  refine ⟨n, hn, ?_⟩
  rw [Option.isNone_iff_eq_none] at *
  rw [provO_none] at *
  exact fun x hx => h x (mem_insE.2 (.inl hx))
/-- With one more entry nothing more is missing, but perhaps what this one needs. -/
theorem missL_more {l : List Entry} {e : Entry} (ho : addOk l e = true) : ∀ s ∈ missL (insE l e), s = e.name ∨ s ∈ missL l := by
  intro s hs
  have hl : regB l = true := by unfold addOk at ho; grind
  unfold missL at hs
  split at hs
  · simp only [List.mem_map, List.mem_filter] at hs
    obtain ⟨y, ⟨hy, hm⟩, rfl⟩ := hs
    rcases mem_insE.1 hy with hy | rfl
    · right
      unfold missL
      rw [if_pos hl]
      simp only [List.mem_map, List.mem_filter]
      exact ⟨y, ⟨hy, miss_more hm⟩, rfl⟩
    · exact .inl rfl
  · simp at hs
end Go.Proofs.Ythoafgehfgblaaa
