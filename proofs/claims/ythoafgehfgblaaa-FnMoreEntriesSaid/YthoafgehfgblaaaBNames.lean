/- Names of entries that something holds of: ascending lists; links; ways by links. No program in sight but the entries' data. -/
import Derived.Test.YthoafgehfgblaaaBWireLaw
import Derived.Test.YthoafgehfgblaaaAscMath
namespace Go.Proofs.Ythoafgehfgblaaa
open Go.RowKit Go
set_option linter.unusedVariables false
set_option linter.unusedSimpArgs false
set_option linter.unusedSectionVars false
variable [GC]
theorem ordB : Ord ltB := ⟨ltB_irrefl, ltB_trans, fun h hn => ltB_total hn h⟩
theorem names_mem {l : List Entry} {p : Nat → Bool} {x : ByteArray} : x ∈ namesOf l p ↔ ∃ i, i < l.length ∧ p i = true ∧ (nth l i).name = x := by
  unfold namesOf namesTo
  simp only [List.mem_map, List.mem_filter, List.mem_range, and_assoc]
theorem names_asc {l : List Entry} (h : regB l = true) (p : Nat → Bool) : Asc ltB (namesOf l p) := by
  unfold Asc namesOf namesTo
  rw [List.pairwise_map]
  refine List.Pairwise.imp_of_mem (R := fun a b => a < b) ?_ (List.Pairwise.filter _ List.pairwise_lt_range)
  intro a b ha hb hab
  simp only [List.mem_filter, List.mem_range] at ha hb
  exact reg_lt h hab hb.1
theorem names_congr {l : List Entry} {p q : Nat → Bool} (h : ∀ i, i < l.length → p i = q i) : namesOf l p = namesOf l q := by
  unfold namesOf namesTo
  congr 1
  exact List.filter_congr fun i hi => h i (by simpa using hi)
theorem names_none (l : List Entry) : namesOf l (fun _ => false) = [] := by
  unfold namesOf namesTo
  simp
theorem names_put {l : List Entry} (h : regB l = true) {p : Nat → Bool} {i : Nat} (hi : i < l.length) : putG ltB (namesOf l p) (nth l i).name = namesOf l (fun a => p a || decide (a = i)) := by
  refine asc_ext ordB (putG_asc ordB (names_asc h p) _) (names_asc h _) fun x => ?_
  rw [putG_mem, names_mem, names_mem]
  simp only [Bool.or_eq_true, decide_eq_true_eq]
  constructor
  · rintro (⟨j, h1, h2, h3⟩ | rfl)
    · exact ⟨j, h1, .inl h2, h3⟩
    · exact ⟨i, hi, .inr rfl, rfl⟩
  · rintro ⟨j, h1, h2 | rfl, h3⟩
    · exact .inl ⟨j, h1, h2, h3⟩
    · exact .inr h3.symm
theorem names_nodup {l : List Entry} (h : regB l = true) (p : Nat → Bool) : (namesOf l p).Nodup := asc_nodup ordB (names_asc h p)
/-! Links -/
def linkAt (l : List Entry) (a k : Nat) : Option Link := (prv l a k).map fun c => ⟨(nth l a).name, (nth l c).name, (nth (nth l a).needs k).face⟩
def linksOne (l : List Entry) (a j : Nat) : List Link := (List.range j).filterMap (linkAt l a)
def linksTo (l : List Entry) (i : Nat) : List Link := (List.range i).flatMap fun a => linksOne l a (nth l a).needs.length
def linksL (l : List Entry) : List Link := if regB l then linksTo l l.length else []
theorem linksOne_succ (l : List Entry) (a j : Nat) : linksOne l a (j + 1) = linksOne l a j ++ (linkAt l a j).toList := by
  unfold linksOne
  rw [List.range_succ, List.filterMap_append]
  cases h : linkAt l a j <;> simp [h]
theorem linksTo_succ (l : List Entry) (i : Nat) : linksTo l (i + 1) = linksTo l i ++ linksOne l i (nth l i).needs.length := by
  unfold linksTo
  rw [List.range_succ, List.flatMap_append]
  simp
theorem linksOne_len (l : List Entry) (a j : Nat) : (linksOne l a j).length ≤ j := by
  unfold linksOne
  have := List.length_filterMap_le (linkAt l a) (List.range j)
  simpa using this
theorem mem_linksOne {l : List Entry} {a j : Nat} {x : Link} : x ∈ linksOne l a j ↔ ∃ k, k < j ∧ linkAt l a k = some x := by
  unfold linksOne
  simp only [List.mem_filterMap, List.mem_range]
theorem mem_linksTo {l : List Entry} {i : Nat} {x : Link} : x ∈ linksTo l i ↔ ∃ a k, a < i ∧ k < (nth l a).needs.length ∧ linkAt l a k = some x := by
  unfold linksTo
  simp only [List.mem_flatMap, List.mem_range, mem_linksOne]
  constructor
  · rintro ⟨a, h1, k, h2, h3⟩; exact ⟨a, k, h1, h2, h3⟩
  · rintro ⟨a, k, h1, h2, h3⟩; exact ⟨a, h1, k, h2, h3⟩
theorem reg_needs {l : List Entry} (h : regB l = true) {a : Nat} (ha : a < l.length) : (nth l a).needs.length ≤ 3 := by
  have := (reg_parts h).2 a ha
  unfold entryAt entryB at this
  simp only [Bool.and_eq_true, decide_eq_true_eq] at this
  exact this.1.1.2
theorem reg_name {l : List Entry} (h : regB l = true) {a : Nat} (ha : a < l.length) : (nth l a).name ≠ noText := by
  have := (reg_parts h).2 a ha
  unfold entryAt entryB at this
  simp only [Bool.and_eq_true, decide_eq_true_eq] at this
  have h2 := this.1.1.1.1.2
  intro e
  rw [e] at h2
  exact absurd h2 (by decide)
theorem linksTo_len {l : List Entry} (h : regB l = true) : ∀ i, i ≤ l.length → (linksTo l i).length ≤ 3 * i
  | 0, _ => by simp [linksTo]
  | i + 1, hi => by
    rw [linksTo_succ, List.length_append]
    have h1 := linksTo_len h i (by omega)
    have h2 := linksOne_len l i (nth l i).needs.length
    have h3 := reg_needs h (a := i) (by omega)
    omega
theorem linksL_len (l : List Entry) : (linksL l).length ≤ 18 := by
  unfold linksL
  split
  · rename_i h
    have := linksTo_len h l.length (Nat.le_refl _)
    have := (reg_parts h).1
    omega
  · simp
theorem need_iff {l : List Entry} {a c : Nat} : needS l a c = true ↔ ∃ k, k < (nth l a).needs.length ∧ prv l a k = some c := by
  unfold needS needTo
  rw [anyT_iff]
  simp only [decide_eq_true_eq]
theorem miss_iff {l : List Entry} {a : Nat} : missS l a = true ↔ ∃ k, k < (nth l a).needs.length ∧ prv l a k = none := by
  unfold missS missTo
  rw [anyT_iff]
  simp only [Option.isNone_iff_eq_none]
/-- One step by a link, forwards or backwards. -/
def lFrom (x : Link) (back : Bool) : ByteArray := if back then x.to else x.frm
def lTo (x : Link) (back : Bool) : ByteArray := if back then x.frm else x.to
def Edge (ls : List Link) (back : Bool) (a b : ByteArray) : Prop := ∃ x ∈ ls, lFrom x back = a ∧ lTo x back = b
theorem link_edge {l : List Entry} (h : regB l = true) {a b : ByteArray} : Edge (linksL l) false a b ↔ ∃ i c, i < l.length ∧ c < l.length ∧ needS l i c = true ∧ (nth l i).name = a ∧ (nth l c).name = b := by
  unfold Edge linksL
  rw [if_pos h]
  simp only [mem_linksTo, lFrom, lTo, Bool.false_eq_true, if_false]
  constructor
  · rintro ⟨x, ⟨i, k, h1, h2, h3⟩, rfl, rfl⟩
    unfold linkAt at h3
    simp only [Option.map_eq_some_iff] at h3
    obtain ⟨c, h4, rfl⟩ := h3
    exact ⟨i, c, h1, prv_lt h4, need_iff.2 ⟨k, h2, h4⟩, rfl, rfl⟩
  · rintro ⟨i, c, h1, h2, h3, rfl, rfl⟩
    obtain ⟨k, h4, h5⟩ := need_iff.1 h3
    exact ⟨_, ⟨i, k, h1, h4, by unfold linkAt; rw [h5]; rfl⟩, rfl, rfl⟩
theorem edge_back {ls : List Link} {a b : ByteArray} : Edge ls true a b ↔ Edge ls false b a := by
  unfold Edge lFrom lTo
  simp only [if_true, Bool.false_eq_true, if_false]
  constructor
  · rintro ⟨x, h1, h2, h3⟩; exact ⟨x, h1, h3, h2⟩
  · rintro ⟨x, h1, h2, h3⟩; exact ⟨x, h1, h3, h2⟩
inductive WayT (E : ByteArray → ByteArray → Prop) : ByteArray → ByteArray → Prop
  | edge {a b : ByteArray} (h : E a b) : WayT E a b
  | snoc {a b c : ByteArray} (h : WayT E a b) (e : E b c) : WayT E a c
theorem WayT.trans {E : ByteArray → ByteArray → Prop} {a b c : ByteArray} (h : WayT E a b) (h' : WayT E b c) : WayT E a c := by
  induction h' with
  | edge e => exact .snoc h e
  | snoc _ e ih => exact .snoc ih e
theorem WayT.flip {E F : ByteArray → ByteArray → Prop} (hEF : ∀ {a b}, E a b → F b a) {a b : ByteArray} (h : WayT E a b) : WayT F b a := by
  induction h with
  | edge e => exact .edge (hEF e)
  | snoc _ e ih => exact .trans (.edge (hEF e)) ih
theorem way_links {l : List Entry} (h : regB l = true) {a b : ByteArray} : WayT (Edge (linksL l) false) a b ↔ ∃ i c, i < l.length ∧ c < l.length ∧ reachS l i c = true ∧ (nth l i).name = a ∧ (nth l c).name = b := by
  constructor
  · intro hw
    induction hw with
    | edge e =>
      obtain ⟨i, c, h1, h2, h3, h4, h5⟩ := (link_edge h).1 e
      exact ⟨i, c, h1, h2, reach_need h1 h3, h4, h5⟩
    | snoc _ e ih =>
      obtain ⟨i, c, h1, h2, h3, h4, h5⟩ := ih
      obtain ⟨j, d, h6, h7, h8, h9, h10⟩ := (link_edge h).1 e
      have : j = c := reg_inj h h6 h2 (by rw [h9, h5])
      subst this
      exact ⟨i, d, h1, h7, reach_trans h1 h2 h7 h3 (reach_need h2 h8), h4, h10⟩
  · rintro ⟨i, c, h1, h2, h3, rfl, rfl⟩
    have hw := (reach_way h1 h2).1 h3
    clear h3
    induction hw with
    | @edge a b hn => exact .edge ((link_edge h).2 ⟨a, b, h1, h2, hn, rfl, rfl⟩)
    | @step a m b hm hw1 hw2 ih1 ih2 => exact .trans (ih1 h1 hm) (ih2 hm h2)
theorem find_some {l : List Entry} (h : regB l = true) {k : Nat} (hk : k < l.length) : findO l (nth l k).name = some k := by
  unfold findO
  refine firstTo_some (by simp) (fun i hi => ?_) hk
  rw [decide_eq_false_iff_not]
  intro e
  have := reg_inj h (by omega) hk e
  omega
theorem find_none {l : List Entry} {s : ByteArray} (h : findO l s = none) {k : Nat} (hk : k < l.length) : (nth l k).name ≠ s := by
  unfold findO at h
  have := firstTo_no h k hk
  simpa using this
theorem find_is {l : List Entry} {s : ByteArray} {k : Nat} (h : findO l s = some k) : k < l.length ∧ (nth l k).name = s := by
  obtain ⟨h1, h2, _⟩ := firstTo_lt h
  exact ⟨h1, by simpa using h2⟩
/-! What the functions answer -/
def missN (l : List Entry) : List ByteArray := if regB l then namesOf l (missS l) else []
def reachN (l : List Entry) (s : ByteArray) : List ByteArray := if regB l then match findO l s with | some k => namesOf l (reachS l k) | none => [] else []
def needersN (l : List Entry) (s : ByteArray) : List ByteArray := if regB l then match findO l s with | some k => namesOf l (fun i => reachS l i k) | none => [] else []
def stuckN (l : List Entry) : List ByteArray := if regB l then namesOf l (stuckS l) else []
def nmL (l : List Entry) (o : List Nat) : List ByteArray := o.map fun i => (nth l i).name
def ordN (l : List Entry) : List ByteArray := if regB l then nmL l (ordL l) else []
theorem asc_nil : Asc ltB [] := List.Pairwise.nil
theorem links_bad {l : List Entry} (h : ¬ regB l = true) : linksL l = [] := by unfold linksL; rw [if_neg h]
theorem way_bad {back : Bool} {a b : ByteArray} : ¬ WayT (Edge [] back) a b := by
  intro h
  induction h with
  | edge e => obtain ⟨x, hx, _⟩ := e; simp at hx
  | snoc _ e _ => obtain ⟨x, hx, _⟩ := e; simp at hx
theorem reach_walk (l : List Entry) (s : ByteArray) : Asc ltB (reachN l s) ∧ ∀ x, x ∈ reachN l s ↔ WayT (Edge (linksL l) false) s x := by
  unfold reachN
  split
  · rename_i h
    split
    · rename_i k hk
      obtain ⟨h1, h2⟩ := find_is hk
      refine ⟨names_asc h _, fun x => ?_⟩
      rw [names_mem, way_links h]
      constructor
      · rintro ⟨i, h3, h4, h5⟩; exact ⟨k, i, h1, h3, h4, h2, h5⟩
      · rintro ⟨j, i, h3, h4, h5, h6, h7⟩
        have : j = k := reg_inj h h3 h1 (by rw [h6, h2])
        subst this
        exact ⟨i, h4, h5, h7⟩
    · rename_i hk
      refine ⟨asc_nil, fun x => ?_⟩
      rw [way_links h]
      simp only [List.not_mem_nil, false_iff]
      rintro ⟨j, i, h3, h4, h5, h6, h7⟩
      exact find_none hk h3 h6
  · rename_i h
    rw [links_bad h]
    exact ⟨asc_nil, fun x => by simp [way_bad]⟩
theorem need_walk (l : List Entry) (s : ByteArray) : Asc ltB (needersN l s) ∧ ∀ x, x ∈ needersN l s ↔ WayT (Edge (linksL l) true) s x := by
  have hf : ∀ x, WayT (Edge (linksL l) true) s x ↔ WayT (Edge (linksL l) false) x s := fun x => ⟨WayT.flip fun h => edge_back.1 h, WayT.flip fun h => edge_back.2 h⟩
  unfold needersN
  split
  · rename_i h
    split
    · rename_i k hk
      obtain ⟨h1, h2⟩ := find_is hk
      refine ⟨names_asc h _, fun x => ?_⟩
      rw [hf, names_mem, way_links h]
      constructor
      · rintro ⟨i, h3, h4, h5⟩; exact ⟨i, k, h3, h1, h4, h5, h2⟩
      · rintro ⟨i, j, h3, h4, h5, h6, h7⟩
        have : j = k := reg_inj h h4 h1 (by rw [h7, h2])
        subst this
        exact ⟨i, h3, h5, h6⟩
    · rename_i hk
      refine ⟨asc_nil, fun x => ?_⟩
      rw [hf, way_links h]
      simp only [List.not_mem_nil, false_iff]
      rintro ⟨i, j, h3, h4, h5, h6, h7⟩
      exact find_none hk h4 h7
  · rename_i h
    rw [links_bad h]
    exact ⟨asc_nil, fun x => by simp [way_bad]⟩
end Go.Proofs.Ythoafgehfgblaaa
