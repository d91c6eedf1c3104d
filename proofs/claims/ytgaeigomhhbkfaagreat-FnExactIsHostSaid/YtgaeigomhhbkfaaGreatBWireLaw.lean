/- Reaching, being stuck, the order of the start: what holds of them. No program in sight but the entries' data. -/
import Derived.Test.YtgaeigomhhbkfaaGreatBWire
import Derived.Test.YtgaeigomhhbkfaaGreatBReg
import Derived.Test.YtgaeigomhhbkfaaGreatBHas
import Derived.Test.YtgaeigomhhbkfaaGreatWireMath
namespace Go.Proofs.YtgaeigomhhbkfaaGreat
open Go.RowKit Go
set_option linter.unusedVariables false
set_option linter.unusedSimpArgs false
set_option linter.unusedSectionVars false
variable [GC]
theorem needS_lt {l : List Entry} {a c : Nat} (h : needS l a c = true) : c < l.length := by
  unfold needS needTo at h
  obtain ⟨k, _, hk⟩ := anyT_iff.1 h
  exact prv_lt (by simpa using hk)
theorem Way.lt {l : List Entry} {n a b : Nat} (h : Way (needS l) n a b) : b < l.length := by
  induction h with
  | edge h => exact needS_lt h
  | step _ _ _ _ ih2 => exact ih2
theorem reach_way {l : List Entry} {a b : Nat} (ha : a < l.length) (hb : b < l.length) : reachS l a b = true ↔ Way (needS l) l.length a b := fwK_spec _ _ _ (Nat.le_refl _) a b ha hb
theorem Way.first {S : Nat → Nat → Bool} {n a b : Nat} (h : Way S n a b) : ∃ c, S a c = true ∧ (c = b ∨ Way S n c b) := by
  induction h with
  | @edge a b h => exact ⟨b, h, .inl rfl⟩
  | @step a m b hm _ h2 ih1 _ =>
    obtain ⟨c, h1, h3⟩ := ih1
    rcases h3 with rfl | h3
    · exact ⟨c, h1, .inr h2⟩
    · exact ⟨c, h1, .inr (.step hm h3 h2)⟩
theorem reach_iff {l : List Entry} {a b : Nat} (ha : a < l.length) (hb : b < l.length) : reachS l a b = true ↔ ∃ c, c < l.length ∧ needS l a c = true ∧ (c = b ∨ reachS l c b = true) := by
  rw [reach_way ha hb]
  constructor
  · intro h
    obtain ⟨c, h1, h2⟩ := h.first
    have hc := needS_lt h1
    exact ⟨c, hc, h1, h2.imp id fun h => (reach_way hc hb).2 h⟩
  · rintro ⟨c, hc, h1, rfl | h2⟩
    · exact .edge h1
    · exact .step hc (.edge h1) ((reach_way hc hb).1 h2)
theorem reach_trans {l : List Entry} {a b c : Nat} (ha : a < l.length) (hb : b < l.length) (hc : c < l.length) (h1 : reachS l a b = true) (h2 : reachS l b c = true) : reachS l a c = true :=
  (reach_way ha hc).2 (.step hb ((reach_way ha hb).1 h1) ((reach_way hb hc).1 h2))
theorem reach_need {l : List Entry} {a c : Nat} (ha : a < l.length) (h : needS l a c = true) : reachS l a c = true := (reach_way ha (needS_lt h)).2 (.edge h)
/-- What stops the start of an entry. -/
def badS (l : List Entry) (j : Nat) : Bool := missS l j || reachS l j j
def stuckS (l : List Entry) (i : Nat) : Bool := badS l i || anyT (fun j => reachS l i j && badS l j) l.length
theorem stuck_iff {l : List Entry} {i : Nat} : stuckS l i = true ↔ badS l i = true ∨ ∃ j, j < l.length ∧ reachS l i j = true ∧ badS l j = true := by
  unfold stuckS
  rw [Bool.or_eq_true, anyT_iff]
  simp only [Bool.and_eq_true]
theorem stuck_why {l : List Entry} {i : Nat} (hi : i < l.length) : stuckS l i = true ↔ missS l i = true ∨ reachS l i i = true ∨ ∃ j, j < l.length ∧ reachS l i j = true ∧ stuckS l j = true := by
  rw [stuck_iff]
  constructor
  · rintro (h | ⟨j, hj, h1, h2⟩)
    · unfold badS at h
      rw [Bool.or_eq_true] at h
      exact h.imp id .inl
    · exact .inr (.inr ⟨j, hj, h1, stuck_iff.2 (.inl h2)⟩)
  · rintro (h | h | ⟨j, hj, h1, h2⟩)
    · exact .inl (by unfold badS; rw [h]; rfl)
    · exact .inl (by unfold badS; rw [h]; simp)
    · rcases stuck_iff.1 h2 with h | ⟨k, hk, h3, h4⟩
      · exact .inr ⟨j, hj, h1, h⟩
      · exact .inr ⟨k, hk, reach_trans hi hj hk h1 h3, h4⟩
/-! The order of the start -/
def readyB (l : List Entry) (o : List Nat) (i : Nat) : Bool := !o.contains i && !missS l i && allTo (fun k => !needS l i k || o.contains k) l.length
def ordTo (l : List Entry) : Nat → List Nat
  | 0 => []
  | k + 1 => match firstTo (readyB l (ordTo l k)) l.length with
    | some i => ordTo l k ++ [i]
    | none => ordTo l k
def ordL (l : List Entry) : List Nat := ordTo l l.length
theorem ready_iff' {l : List Entry} {o : List Nat} {i : Nat} : readyB l o i = true ↔ i ∉ o ∧ missS l i = false ∧ ∀ k, k < l.length → needS l i k = true → k ∈ o := by
  unfold readyB
  simp only [Bool.and_eq_true, Bool.not_eq_true', allTo_iff, Bool.or_eq_true, List.contains_eq_mem, decide_eq_false_iff_not, decide_eq_true_eq]
  constructor
  · rintro ⟨⟨h1, h2⟩, h3⟩
    refine ⟨h1, h2, fun k hk hn => ?_⟩
    rcases h3 k hk with h | h
    · rw [hn] at h; cases h
    · exact h
  · rintro ⟨h1, h2, h3⟩
    refine ⟨⟨h1, h2⟩, fun k hk => ?_⟩
    cases hn : needS l i k with
    | false => exact .inl rfl
    | true => exact .inr (h3 k hk hn)
/-- Each one in the order was the first one ready there. -/
theorem ord_pre {l : List Entry} : ∀ {k : Nat} {pre post : List Nat} {i : Nat}, ordTo l k = pre ++ i :: post → firstTo (readyB l pre) l.length = some i
  | 0, pre, post, i, h => by simp [ordTo] at h
  | k + 1, pre, post, i, h => by
    simp only [ordTo] at h
    split at h
    · rename_i j hj
      rcases List.eq_nil_or_concat post with rfl | ⟨p', x, rfl⟩
      · have h2 : ordTo l k ++ [j] = pre ++ [i] := h
        obtain ⟨e1, e2⟩ := List.append_inj' h2 rfl
        simp only [List.cons.injEq, and_true] at e2
        rw [← e1, ← e2]; exact hj
      · have h2 : ordTo l k ++ [j] = (pre ++ i :: p') ++ [x] := by rw [h]; simp
        obtain ⟨e1, e2⟩ := List.append_inj' h2 rfl
        exact ord_pre e1
    · exact ord_pre h
theorem ord_nodup (l : List Entry) : ∀ k, (ordTo l k).Nodup
  | 0 => by simp [ordTo]
  | k + 1 => by
    simp only [ordTo]
    split
    · rename_i j hj
      have h1 := (ready_iff'.1 (firstTo_lt hj).2.1).1
      rw [List.nodup_append]
      refine ⟨ord_nodup l k, by simp, fun a ha b hb e => ?_⟩
      simp at hb; subst hb; subst e; exact h1 ha
    · exact ord_nodup l k
theorem ord_lt {l : List Entry} : ∀ {k i : Nat}, i ∈ ordTo l k → i < l.length
  | 0, i, h => by simp [ordTo] at h
  | k + 1, i, h => by
    simp only [ordTo] at h
    split at h
    · rename_i j hj
      rcases List.mem_append.1 h with h | h
      · exact ord_lt h
      · simp at h; subst h; exact (firstTo_lt hj).1
    · exact ord_lt h
theorem nodup_sub_len : ∀ {a b : List Nat}, a.Nodup → (∀ x ∈ a, x ∈ b) → a.length ≤ b.length
  | [], b, _, _ => by simp
  | x :: a, b, hn, hs => by
    have hx : x ∈ b := hs x (by simp)
    rw [List.nodup_cons] at hn
    have := nodup_sub_len (a := a) (b := b.erase x) hn.2 fun y hy => by
      have hne : y ≠ x := fun e => hn.1 (e ▸ hy)
      exact (List.mem_erase_of_ne hne).2 (hs y (by simp [hy]))
    rw [List.length_erase_of_mem hx] at this
    have hp : 0 < b.length := List.length_pos_of_mem hx
    simp only [List.length_cons]; omega
theorem ord_len_le (l : List Entry) (k : Nat) : (ordTo l k).length ≤ l.length := by
  have := nodup_sub_len (b := List.range l.length) (ord_nodup l k) fun x hx => by simpa using ord_lt hx
  simpa using this
theorem ord_stop {l : List Entry} {k : Nat} (h : firstTo (readyB l (ordTo l k)) l.length = none) : ∀ m, ordTo l (k + m) = ordTo l k
  | 0 => rfl
  | m + 1 => by
    show ordTo l ((k + m) + 1) = _
    simp only [ordTo]
    rw [ord_stop h m, h]
theorem ord_len {l : List Entry} : ∀ {k : Nat}, firstTo (readyB l (ordTo l k)) l.length ≠ none → (ordTo l k).length = k
  | 0, _ => rfl
  | k + 1, h => by
    cases hk : firstTo (readyB l (ordTo l k)) l.length with
    | none =>
      have e := ord_stop hk 1
      rw [e] at h
      exact absurd hk h
    | some i =>
      have := ord_len (k := k) (by rw [hk]; simp)
      simp only [ordTo, hk, List.length_append, List.length_cons, List.length_nil, this]
theorem ord_end (l : List Entry) : firstTo (readyB l (ordL l)) l.length = none := by
  cases h : firstTo (readyB l (ordL l)) l.length with
  | none => rfl
  | some i =>
    have h1 : (ordTo l l.length).length = l.length := ord_len (by unfold ordL at h; rw [h]; simp)
    have h2 : (ordTo l (l.length + 1)).length = l.length + 1 := by
      have h : firstTo (readyB l (ordTo l l.length)) l.length = some i := h
      simp only [ordTo, h, List.length_append, List.length_cons, List.length_nil, h1]
    have := ord_len_le l (l.length + 1)
    omega
theorem ord_done {l : List Entry} {k : Nat} (h : firstTo (readyB l (ordTo l k)) l.length = none) : ordTo l k = ordL l := by
  unfold ordL
  rcases Nat.le_total k l.length with hk | hk
  · rw [show l.length = k + (l.length - k) by omega, ord_stop h]
  · have := ord_stop (ord_end l) (k - l.length)
    rw [show l.length + (k - l.length) = k by omega] at this
    exact this
/-- Behind all that it reaches. -/
theorem ord_reach {l : List Entry} : ∀ (m : Nat) {pre post : List Nat} {i c : Nat}, pre.length ≤ m → ordL l = pre ++ i :: post → c < l.length → reachS l i c = true → c ∈ pre
  | m, pre, post, i, c, hm, h, hc, hr => by
    have hi : i < l.length := ord_lt (k := l.length) (by show i ∈ ordL l; rw [h]; simp)
    have hf := (ready_iff'.1 (firstTo_lt (ord_pre h)).2.1).2.2
    obtain ⟨d, hd, h1, h2⟩ := (reach_iff hi hc).1 hr
    have hdp := hf d hd h1
    rcases h2 with rfl | h2
    · exact hdp
    · obtain ⟨p1, p2, rfl⟩ := List.append_of_mem hdp
      match m, hm with
      | 0, hm => simp at hm
      | m + 1, hm =>
        have := ord_reach m (pre := p1) (post := p2 ++ i :: post) (i := d) (c := c) (by simp at hm; omega) (by rw [h]; simp) hc h2
        simp [this]
theorem ord_sound {l : List Entry} {i : Nat} (h : i ∈ ordL l) : stuckS l i = false := by
  have key : ∀ {j : Nat}, j ∈ ordL l → badS l j = false := by
    intro j hj
    have hjl : j < l.length := ord_lt hj
    obtain ⟨pre, post, e⟩ := List.append_of_mem hj
    have hr := ready_iff'.1 (firstTo_lt (ord_pre e)).2.1
    unfold badS
    rw [hr.2.1, Bool.false_or]
    cases hq : reachS l j j with
    | false => rfl
    | true => exact absurd (ord_reach _ (Nat.le_refl _) e hjl hq) hr.1
  cases hs : stuckS l i with
  | false => rfl
  | true =>
    rcases stuck_iff.1 hs with h1 | ⟨j, hj, h1, h2⟩
    · rw [key h] at h1; cases h1
    · obtain ⟨pre, post, e⟩ := List.append_of_mem h
      have := ord_reach _ (Nat.le_refl _) e hj h1
      rw [key (by rw [e]; simp [this])] at h2; cases h2
def cnt (p : Nat → Bool) : Nat → Nat
  | 0 => 0
  | n + 1 => cnt p n + if p n then 1 else 0
theorem cnt_le {p q : Nat → Bool} : ∀ {n : Nat}, (∀ i, i < n → p i = true → q i = true) → cnt p n ≤ cnt q n
  | 0, _ => Nat.le_refl _
  | n + 1, h => by
    simp only [cnt]
    have := cnt_le (n := n) fun i hi => h i (by omega)
    have := h n (by omega)
    by_cases hp : p n = true
    · rw [if_pos hp, if_pos (this hp)]; omega
    · rw [if_neg hp]; split <;> omega
theorem cnt_lt {p q : Nat → Bool} : ∀ {n : Nat}, (∀ i, i < n → p i = true → q i = true) → (∃ i, i < n ∧ p i = false ∧ q i = true) → cnt p n < cnt q n
  | 0, _, ⟨i, hi, _⟩ => by omega
  | n + 1, h, ⟨i, hi, h1, h2⟩ => by
    simp only [cnt]
    by_cases e : i = n
    · subst e
      have := cnt_le (n := i) fun j hj => h j (by omega)
      rw [h1, h2]; simp; omega
    · have h3 := cnt_lt (n := n) (fun j hj => h j (by omega)) ⟨i, by omega, h1, h2⟩
      have h4 := h n (by omega)
      by_cases hp : p n = true
      · rw [if_pos hp, if_pos (h4 hp)]; omega
      · rw [if_neg hp]; split <;> omega
theorem ord_all {l : List Entry} : ∀ (m : Nat) {i : Nat}, cnt (reachS l i) l.length ≤ m → i < l.length → stuckS l i = false → i ∈ ordL l
  | m, i, hm, hi, hs => by
    by_cases hmem : i ∈ ordL l
    · exact hmem
    · exfalso
      have hnb : badS l i = false := by
        cases hb : badS l i with
        | false => rfl
        | true => rw [stuck_iff.2 (.inl hb)] at hs; cases hs
      have hnr := firstTo_no (ord_end l) i hi
      have hmiss : missS l i = false := by
        unfold badS at hnb; simp at hnb; exact hnb.1
      -- a need that is not in
      have : ∃ c, c < l.length ∧ needS l i c = true ∧ c ∉ ordL l := by
        refine Classical.byContradiction fun hno => ?_
        have : readyB l (ordL l) i = true := ready_iff'.2 ⟨hmem, hmiss, fun k hk hn => Classical.byContradiction fun hk2 => hno ⟨k, hk, hn, hk2⟩⟩
        rw [this] at hnr; cases hnr
      obtain ⟨c, hc, h1, h2⟩ := this
      have hic := reach_need hi h1
      have hsc : stuckS l c = false := by
        cases hb : stuckS l c with
        | false => rfl
        | true => rw [(stuck_why hi).2 (.inr (.inr ⟨c, hc, hic, hb⟩))] at hs; cases hs
      have hcc : reachS l c c = false := by
        cases hb : reachS l c c with
        | false => rfl
        | true => rw [(stuck_why hc).2 (.inr (.inl hb))] at hsc; cases hsc
      have hlt : cnt (reachS l c) l.length < cnt (reachS l i) l.length := cnt_lt (fun j hj h => reach_trans hi hc hj hic h) ⟨c, hc, hcc, hic⟩
      match m, hm with
      | 0, hm => omega
      | m + 1, hm => exact h2 (ord_all m (by omega) hc hsc)
theorem ord_mem {l : List Entry} {i : Nat} (hi : i < l.length) : i ∈ ordL l ↔ stuckS l i = false := ⟨ord_sound, ord_all _ (Nat.le_refl _) hi⟩
theorem ord_count (l : List Entry) : (ordL l).length + ((List.range l.length).filter (stuckS l)).length = l.length := by
  have h1 : (ordL l).length = ((List.range l.length).filter fun i => !stuckS l i).length := by
    refine Nat.le_antisymm (nodup_sub_len (ord_nodup l _) fun x hx => ?_) (nodup_sub_len (List.nodup_range.filter _) fun x hx => ?_)
    · simp only [List.mem_filter, List.mem_range]
      exact ⟨ord_lt hx, by rw [ord_sound hx]; rfl⟩
    · simp only [List.mem_filter, List.mem_range, Bool.not_eq_true'] at hx
      exact (ord_mem hx.1).2 hx.2
  rw [h1]
  have := List.length_eq_countP_add_countP (stuckS l) (l := List.range l.length)
  simp only [List.length_range] at this
  rw [← List.countP_eq_length_filter, ← List.countP_eq_length_filter]
  have e : List.countP (fun i => !stuckS l i) (List.range l.length) = List.countP (fun a => decide ¬stuckS l a = true) (List.range l.length) := by
    congr 1; funext i; simp
  omega
/-! Names -/
theorem reg_parts {l : List Entry} (h : regB l = true) : l.length ≤ 6 ∧ ∀ k, k < l.length → entryAt l k = true := by
  unfold regB at h
  rw [Bool.and_eq_true, decide_eq_true_eq, allTo_iff] at h
  exact h
theorem bl_trans : ∀ {a b c : List UInt8}, Op.bytesLess a b = true → Op.bytesLess b c = true → Op.bytesLess a c = true
  | _, [], _, h, _ => by simp [Op.bytesLess] at h
  | _, _ :: _, [], _, h => by simp [Op.bytesLess] at h
  | [], _ :: _, _ :: _, _, _ => by simp [Op.bytesLess]
  | x :: a, y :: b, z :: c, h1, h2 => by
    have ih := @bl_trans a b c
    simp only [Op.bytesLess, Bool.or_eq_true, Bool.and_eq_true, decide_eq_true_eq, beq_iff_eq] at h1 h2 ⊢
    grind
theorem ltB_trans {a b c : ByteArray} (h1 : ltB a b = true) (h2 : ltB b c = true) : ltB a c = true := bl_trans h1 h2
theorem ltB_irrefl (a : ByteArray) : ltB a a = false := by
  cases h : ltB a a with
  | false => rfl
  | true => rw [ltB_asymm h] at h; cases h
theorem reg_lt {l : List Entry} (h : regB l = true) {i : Nat} : ∀ {j : Nat}, i < j → j < l.length → ltB (nth l i).name (nth l j).name = true
  | 0, hij, _ => by omega
  | j + 1, hij, hj => by
    have h1 := (reg_parts h).2 (j + 1) hj
    unfold entryAt at h1
    simp only [Bool.and_eq_true, Bool.or_eq_true] at h1
    have h2 : ltB (nth l j).name (nth l (j + 1)).name = true := by
      rcases h1.2 with h | h
      · simp at h
      · simpa using h
    rcases Nat.lt_or_ge i j with h3 | h3
    · exact ltB_trans (reg_lt h h3 (by omega)) h2
    · obtain rfl : i = j := by omega
      exact h2
theorem reg_inj {l : List Entry} (h : regB l = true) {i j : Nat} (hi : i < l.length) (hj : j < l.length) (e : (nth l i).name = (nth l j).name) : i = j := by
  rcases Nat.lt_trichotomy i j with h1 | h1 | h1
  · have := reg_lt h h1 hj
    rw [e, ltB_irrefl] at this; cases this
  · exact h1
  · have := reg_lt h h1 hi
    rw [e, ltB_irrefl] at this; cases this
def namesTo (l : List Entry) (p : Nat → Bool) (k : Nat) : List ByteArray := ((List.range k).filter p).map fun i => (nth l i).name
def namesOf (l : List Entry) (p : Nat → Bool) : List ByteArray := namesTo l p l.length
theorem namesTo_succ (l : List Entry) (p : Nat → Bool) (k : Nat) : namesTo l p (k + 1) = if p k = true then namesTo l p k ++ [(nth l k).name] else namesTo l p k := by
  unfold namesTo
  rw [List.range_succ, List.filter_append, List.map_append]
  cases h : p k <;> simp [h]
theorem namesTo_len (l : List Entry) (p : Nat → Bool) (k : Nat) : (namesTo l p k).length ≤ k := by
  unfold namesTo
  rw [List.length_map]
  have := List.length_filter_le p (List.range k)
  simpa using this
theorem names_has {l : List Entry} (h : regB l = true) {p : Nat → Bool} {k : Nat} (hk : k < l.length) : hasB (namesOf l p) (nth l k).name = p k := by
  rw [Bool.eq_iff_iff]
  unfold hasB namesOf namesTo
  simp only [List.any_eq_true, List.mem_map, List.mem_filter, List.mem_range, decide_eq_true_eq]
  constructor
  · rintro ⟨t, ⟨i, ⟨h1, h2⟩, rfl⟩, e⟩
    rw [← reg_inj h h1 hk e]; exact h2
  · intro hp
    exact ⟨_, ⟨k, ⟨hk, hp⟩, rfl⟩, rfl⟩
end Go.Proofs.YtgaeigomhhbkfaaGreat
/- Names of entries that something holds of: ascending lists; links; ways by links. No program in sight but the entries' data. -/
namespace Go.Proofs.YtgaeigomhhbkfaaGreat
open Go.RowKit Go
set_option linter.unusedVariables false
set_option linter.unusedSimpArgs false
set_option linter.unusedSectionVars false
variable [GC]
theorem ordB : Ord ltB := ⟨ltB_irrefl, ltB_trans, fun h hn => ltB_total hn h⟩
theorem names_mem {l : List Entry} {p : Nat → Bool} {x : ByteArray} : x ∈ namesOf l p ↔ ∃ i, i < l.length ∧ p i = true ∧ (nth l i).name = x := by
  unfold namesOf namesTo
  simp only [List.mem_map, List.mem_filter, List.mem_range, and_assoc]
theorem names_asc {l : List Entry} (h : regB l = true) (p : Nat → Bool) : Asc ltB (namesOf l p) := by
  unfold Asc namesOf namesTo
  rw [List.pairwise_map]
  refine List.Pairwise.imp_of_mem (R := fun a b => a < b) ?_ (List.Pairwise.filter _ List.pairwise_lt_range)
  intro a b ha hb hab
  simp only [List.mem_filter, List.mem_range] at ha hb
  exact reg_lt h hab hb.1
theorem names_congr {l : List Entry} {p q : Nat → Bool} (h : ∀ i, i < l.length → p i = q i) : namesOf l p = namesOf l q := by
  unfold namesOf namesTo
  congr 1
  exact List.filter_congr fun i hi => h i (by simpa using hi)
theorem names_none (l : List Entry) : namesOf l (fun _ => false) = [] := by
  unfold namesOf namesTo
  simp
theorem names_put {l : List Entry} (h : regB l = true) {p : Nat → Bool} {i : Nat} (hi : i < l.length) : putG ltB (namesOf l p) (nth l i).name = namesOf l (fun a => p a || decide (a = i)) := by
  refine asc_ext ordB (putG_asc ordB (names_asc h p) _) (names_asc h _) fun x => ?_
  rw [putG_mem, names_mem, names_mem]
  simp only [Bool.or_eq_true, decide_eq_true_eq]
  constructor
  · rintro (⟨j, h1, h2, h3⟩ | rfl)
    · exact ⟨j, h1, .inl h2, h3⟩
    · exact ⟨i, hi, .inr rfl, rfl⟩
  · rintro ⟨j, h1, h2 | rfl, h3⟩
    · exact .inl ⟨j, h1, h2, h3⟩
    · exact .inr h3.symm
theorem names_nodup {l : List Entry} (h : regB l = true) (p : Nat → Bool) : (namesOf l p).Nodup := asc_nodup ordB (names_asc h p)
/-! Links -/
def linkAt (l : List Entry) (a k : Nat) : Option Link := (prv l a k).map fun c => ⟨(nth l a).name, (nth l c).name, (nth (nth l a).needs k).face⟩
def linksOne (l : List Entry) (a j : Nat) : List Link := (List.range j).filterMap (linkAt l a)
def linksTo (l : List Entry) (i : Nat) : List Link := (List.range i).flatMap fun a => linksOne l a (nth l a).needs.length
def linksL (l : List Entry) : List Link := if regB l then linksTo l l.length else []
theorem linksOne_succ (l : List Entry) (a j : Nat) : linksOne l a (j + 1) = linksOne l a j ++ (linkAt l a j).toList := by
  unfold linksOne
  rw [List.range_succ, List.filterMap_append]
  cases h : linkAt l a j <;> simp [h]
theorem linksTo_succ (l : List Entry) (i : Nat) : linksTo l (i + 1) = linksTo l i ++ linksOne l i (nth l i).needs.length := by
  unfold linksTo
  rw [List.range_succ, List.flatMap_append]
  simp
theorem linksOne_len (l : List Entry) (a j : Nat) : (linksOne l a j).length ≤ j := by
  unfold linksOne
  have := List.length_filterMap_le (linkAt l a) (List.range j)
  simpa using this
theorem mem_linksOne {l : List Entry} {a j : Nat} {x : Link} : x ∈ linksOne l a j ↔ ∃ k, k < j ∧ linkAt l a k = some x := by
  unfold linksOne
  simp only [List.mem_filterMap, List.mem_range]
theorem mem_linksTo {l : List Entry} {i : Nat} {x : Link} : x ∈ linksTo l i ↔ ∃ a k, a < i ∧ k < (nth l a).needs.length ∧ linkAt l a k = some x := by
  unfold linksTo
  simp only [List.mem_flatMap, List.mem_range, mem_linksOne]
  constructor
  · rintro ⟨a, h1, k, h2, h3⟩; exact ⟨a, k, h1, h2, h3⟩
  · rintro ⟨a, k, h1, h2, h3⟩; exact ⟨a, h1, k, h2, h3⟩
theorem reg_needs {l : List Entry} (h : regB l = true) {a : Nat} (ha : a < l.length) : (nth l a).needs.length ≤ 3 := by
  have := (reg_parts h).2 a ha
  unfold entryAt entryB at this
  simp only [Bool.and_eq_true, decide_eq_true_eq] at this
  exact this.1.1.2
theorem reg_name {l : List Entry} (h : regB l = true) {a : Nat} (ha : a < l.length) : (nth l a).name ≠ noText := by
  have := (reg_parts h).2 a ha
  unfold entryAt entryB at this
  simp only [Bool.and_eq_true, decide_eq_true_eq] at this
  have h2 := this.1.1.1.1.2
  intro e
  rw [e] at h2
  exact absurd h2 (by decide)
theorem linksTo_len {l : List Entry} (h : regB l = true) : ∀ i, i ≤ l.length → (linksTo l i).length ≤ 3 * i
  | 0, _ => by simp [linksTo]
  | i + 1, hi => by
    rw [linksTo_succ, List.length_append]
    have h1 := linksTo_len h i (by omega)
    have h2 := linksOne_len l i (nth l i).needs.length
    have h3 := reg_needs h (a := i) (by omega)
    omega
theorem linksL_len (l : List Entry) : (linksL l).length ≤ 18 := by
  unfold linksL
  split
  · rename_i h
    have := linksTo_len h l.length (Nat.le_refl _)
    have := (reg_parts h).1
    omega
  · simp
theorem need_iff {l : List Entry} {a c : Nat} : needS l a c = true ↔ ∃ k, k < (nth l a).needs.length ∧ prv l a k = some c := by
  unfold needS needTo
  rw [anyT_iff]
  simp only [decide_eq_true_eq]
theorem miss_iff {l : List Entry} {a : Nat} : missS l a = true ↔ ∃ k, k < (nth l a).needs.length ∧ prv l a k = none := by
  unfold missS missTo
  rw [anyT_iff]
  simp only [Option.isNone_iff_eq_none]
/-- One step by a link, forwards or backwards. -/
def lFrom (x : Link) (back : Bool) : ByteArray := if back then x.to else x.frm
def lTo (x : Link) (back : Bool) : ByteArray := if back then x.frm else x.to
def Edge (ls : List Link) (back : Bool) (a b : ByteArray) : Prop := ∃ x ∈ ls, lFrom x back = a ∧ lTo x back = b
theorem link_edge {l : List Entry} (h : regB l = true) {a b : ByteArray} : Edge (linksL l) false a b ↔ ∃ i c, i < l.length ∧ c < l.length ∧ needS l i c = true ∧ (nth l i).name = a ∧ (nth l c).name = b := by
  unfold Edge linksL
  rw [if_pos h]
  simp only [mem_linksTo, lFrom, lTo, Bool.false_eq_true, if_false]
  constructor
  · rintro ⟨x, ⟨i, k, h1, h2, h3⟩, rfl, rfl⟩
    unfold linkAt at h3
    simp only [Option.map_eq_some_iff] at h3
    obtain ⟨c, h4, rfl⟩ := h3
    exact ⟨i, c, h1, prv_lt h4, need_iff.2 ⟨k, h2, h4⟩, rfl, rfl⟩
  · rintro ⟨i, c, h1, h2, h3, rfl, rfl⟩
    obtain ⟨k, h4, h5⟩ := need_iff.1 h3
    exact ⟨_, ⟨i, k, h1, h4, by unfold linkAt; rw [h5]; rfl⟩, rfl, rfl⟩
theorem edge_back {ls : List Link} {a b : ByteArray} : Edge ls true a b ↔ Edge ls false b a := by
  unfold Edge lFrom lTo
  simp only [if_true, Bool.false_eq_true, if_false]
  constructor
  · rintro ⟨x, h1, h2, h3⟩; exact ⟨x, h1, h3, h2⟩
  · rintro ⟨x, h1, h2, h3⟩; exact ⟨x, h1, h3, h2⟩
inductive WayT (E : ByteArray → ByteArray → Prop) : ByteArray → ByteArray → Prop
  | edge {a b : ByteArray} (h : E a b) : WayT E a b
  | snoc {a b c : ByteArray} (h : WayT E a b) (e : E b c) : WayT E a c
theorem WayT.trans {E : ByteArray → ByteArray → Prop} {a b c : ByteArray} (h : WayT E a b) (h' : WayT E b c) : WayT E a c := by
  induction h' with
  | edge e => exact .snoc h e
  | snoc _ e ih => exact .snoc ih e
theorem WayT.flip {E F : ByteArray → ByteArray → Prop} (hEF : ∀ {a b}, E a b → F b a) {a b : ByteArray} (h : WayT E a b) : WayT F b a := by
  induction h with
  | edge e => exact .edge (hEF e)
  | snoc _ e ih => exact .trans (.edge (hEF e)) ih
theorem way_links {l : List Entry} (h : regB l = true) {a b : ByteArray} : WayT (Edge (linksL l) false) a b ↔ ∃ i c, i < l.length ∧ c < l.length ∧ reachS l i c = true ∧ (nth l i).name = a ∧ (nth l c).name = b := by
  constructor
  · intro hw
    induction hw with
    | edge e =>
      obtain ⟨i, c, h1, h2, h3, h4, h5⟩ := (link_edge h).1 e
      exact ⟨i, c, h1, h2, reach_need h1 h3, h4, h5⟩
    | snoc _ e ih =>
      obtain ⟨i, c, h1, h2, h3, h4, h5⟩ := ih
      obtain ⟨j, d, h6, h7, h8, h9, h10⟩ := (link_edge h).1 e
      have : j = c := reg_inj h h6 h2 (by rw [h9, h5])
      subst this
      exact ⟨i, d, h1, h7, reach_trans h1 h2 h7 h3 (reach_need h2 h8), h4, h10⟩
  · rintro ⟨i, c, h1, h2, h3, rfl, rfl⟩
    have hw := (reach_way h1 h2).1 h3
    clear h3
    induction hw with
    | @edge a b hn => exact .edge ((link_edge h).2 ⟨a, b, h1, h2, hn, rfl, rfl⟩)
    | @step a m b hm hw1 hw2 ih1 ih2 => exact .trans (ih1 h1 hm) (ih2 hm h2)
theorem find_some {l : List Entry} (h : regB l = true) {k : Nat} (hk : k < l.length) : findO l (nth l k).name = some k := by
  unfold findO
  refine firstTo_some (by simp) (fun i hi => ?_) hk
  rw [decide_eq_false_iff_not]
  intro e
  have := reg_inj h (by omega) hk e
  omega
theorem find_none {l : List Entry} {s : ByteArray} (h : findO l s = none) {k : Nat} (hk : k < l.length) : (nth l k).name ≠ s := by
  unfold findO at h
  have := firstTo_no h k hk
  simpa using this
theorem find_is {l : List Entry} {s : ByteArray} {k : Nat} (h : findO l s = some k) : k < l.length ∧ (nth l k).name = s := by
  obtain ⟨h1, h2, _⟩ := firstTo_lt h
  exact ⟨h1, by simpa using h2⟩
/-! What the functions answer -/
def missN (l : List Entry) : List ByteArray := if regB l then namesOf l (missS l) else []
def reachN (l : List Entry) (s : ByteArray) : List ByteArray := if regB l then match findO l s with | some k => namesOf l (reachS l k) | none => [] else []
def needersN (l : List Entry) (s : ByteArray) : List ByteArray := if regB l then match findO l s with | some k => namesOf l (fun i => reachS l i k) | none => [] else []
def stuckN (l : List Entry) : List ByteArray := if regB l then namesOf l (stuckS l) else []
def nmL (l : List Entry) (o : List Nat) : List ByteArray := o.map fun i => (nth l i).name
def ordN (l : List Entry) : List ByteArray := if regB l then nmL l (ordL l) else []
theorem asc_nil : Asc ltB [] := List.Pairwise.nil
theorem links_bad {l : List Entry} (h : ¬ regB l = true) : linksL l = [] := by unfold linksL; rw [if_neg h]
theorem way_bad {back : Bool} {a b : ByteArray} : ¬ WayT (Edge [] back) a b := by
  intro h
  induction h with
  | edge e => obtain ⟨x, hx, _⟩ := e; simp at hx
  | snoc _ e _ => obtain ⟨x, hx, _⟩ := e; simp at hx
theorem reach_walk (l : List Entry) (s : ByteArray) : Asc ltB (reachN l s) ∧ ∀ x, x ∈ reachN l s ↔ WayT (Edge (linksL l) false) s x := by
  unfold reachN
  split
  · rename_i h
    split
    · rename_i k hk
      obtain ⟨h1, h2⟩ := find_is hk
      refine ⟨names_asc h _, fun x => ?_⟩
      rw [names_mem, way_links h]
      constructor
      · rintro ⟨i, h3, h4, h5⟩; exact ⟨k, i, h1, h3, h4, h2, h5⟩
      · rintro ⟨j, i, h3, h4, h5, h6, h7⟩
        have : j = k := reg_inj h h3 h1 (by rw [h6, h2])
        subst this
        exact ⟨i, h4, h5, h7⟩
    · rename_i hk
      refine ⟨asc_nil, fun x => ?_⟩
      rw [way_links h]
      simp only [List.not_mem_nil, false_iff]
      rintro ⟨j, i, h3, h4, h5, h6, h7⟩
      exact find_none hk h3 h6
  · rename_i h
    rw [links_bad h]
    exact ⟨asc_nil, fun x => by simp [way_bad]⟩
theorem need_walk (l : List Entry) (s : ByteArray) : Asc ltB (needersN l s) ∧ ∀ x, x ∈ needersN l s ↔ WayT (Edge (linksL l) true) s x := by
  have hf : ∀ x, WayT (Edge (linksL l) true) s x ↔ WayT (Edge (linksL l) false) x s := fun x => ⟨WayT.flip fun h => edge_back.1 h, WayT.flip fun h => edge_back.2 h⟩
  unfold needersN
  split
  · rename_i h
    split
    · rename_i k hk
      obtain ⟨h1, h2⟩ := find_is hk
      refine ⟨names_asc h _, fun x => ?_⟩
      rw [hf, names_mem, way_links h]
      constructor
      · rintro ⟨i, h3, h4, h5⟩; exact ⟨i, k, h3, h1, h4, h5, h2⟩
      · rintro ⟨i, j, h3, h4, h5, h6, h7⟩
        have : j = k := reg_inj h h4 h1 (by rw [h7, h2])
        subst this
        exact ⟨i, h3, h5, h6⟩
    · rename_i hk
      refine ⟨asc_nil, fun x => ?_⟩
      rw [hf, way_links h]
      simp only [List.not_mem_nil, false_iff]
      rintro ⟨i, j, h3, h4, h5, h6, h7⟩
      exact find_none hk h4 h7
  · rename_i h
    rw [links_bad h]
    exact ⟨asc_nil, fun x => by simp [way_bad]⟩
end Go.Proofs.YtgaeigomhhbkfaaGreat
/- A registry of which the last need of the first stuck entry is taken away, until none is stuck. No program in sight but the entries' data. -/
namespace Go.Proofs.YtgaeigomhhbkfaaGreat
open Go.RowKit Go
set_option linter.unusedVariables false
set_option linter.unusedSimpArgs false
set_option linter.unusedSectionVars false
variable [GC]
def trimE (e : Entry) : Entry := { e with needs := e.needs.dropLast }
def trim1 (l : List Entry) (k : Nat) : List Entry := l.set k (trimE (nth l k))
def tot (l : List Entry) : Nat := (l.map fun e => e.needs.length).sum
def trimN : Nat → List Entry → List Entry
  | 0, l => l
  | n + 1, l => match stuckN l with
    | [] => l
    | s :: _ => trimN n (trim1 l (findI l s).toNat)
theorem trim_len (l : List Entry) (k : Nat) : (trim1 l k).length = l.length := by simp [trim1]
theorem nth_set {α : Type} [Inhabited α] (l : List α) (k i : Nat) (x : α) (hk : k < l.length) : nth (l.set k x) i = if i = k then x else nth l i := by
  unfold nth
  simp only [List.getD_eq_getElem?_getD, List.getElem?_set]
  by_cases e : k = i
  · subst e; simp [hk]
  · rw [if_neg e, if_neg (fun h => e h.symm)]
theorem nth_trim {l : List Entry} {k i : Nat} (hk : k < l.length) : nth (trim1 l k) i = if i = k then trimE (nth l k) else nth l i := nth_set l k i _ hk
theorem trim_name {l : List Entry} {k i : Nat} (hk : k < l.length) : (nth (trim1 l k) i).name = (nth l i).name := by
  rw [nth_trim hk]
  split
  · rename_i e; subst e; rfl
  · rfl
theorem nth_dropLast {α : Type} [Inhabited α] (l : List α) {i : Nat} (h : i < l.length - 1) : nth l.dropLast i = nth l i := by
  unfold nth
  simp only [List.getD_eq_getElem?_getD, List.getElem?_dropLast, if_pos h]
theorem trimE_ok {e : Entry} (h : entryB e = true) : entryB (trimE e) = true := by
  unfold entryB at *
  simp only [Bool.and_eq_true, decide_eq_true_eq, allTo_iff] at *
  obtain ⟨⟨⟨⟨h1, h2⟩, h3⟩, h4⟩, h5⟩ := h
  refine ⟨⟨⟨⟨h1, h2⟩, h3⟩, ?_⟩, fun k hk => ?_⟩
  · show e.needs.dropLast.length ≤ 3
    rw [List.length_dropLast]; omega
  · have hk' : k < e.needs.length - 1 := by
      have : (trimE e).needs.length = e.needs.length - 1 := List.length_dropLast
      omega
    have := h5 k (by omega)
    unfold needAt at *
    show (needB (nth e.needs.dropLast k) && !decide ((nth e.needs.dropLast k).frm = e.name)) = true
    rw [nth_dropLast _ hk']; exact this
theorem trim_reg {l : List Entry} (h : regB l = true) {k : Nat} (hk : k < l.length) : regB (trim1 l k) = true := by
  have hp := reg_parts h
  unfold regB
  rw [Bool.and_eq_true, decide_eq_true_eq, allTo_iff, trim_len]
  refine ⟨hp.1, fun i hi => ?_⟩
  have h1 := hp.2 i hi
  unfold entryAt at *
  rw [trim_name hk, trim_name hk]
  simp only [Bool.and_eq_true] at h1 ⊢
  refine ⟨?_, h1.2⟩
  rw [nth_trim hk]
  split
  · rename_i e; subst e; exact trimE_ok h1.1
  · exact h1.1
theorem tot_set : ∀ (l : List Entry) (k : Nat) (x : Entry), k < l.length → tot (l.set k x) + (nth l k).needs.length = tot l + x.needs.length
  | [], k, x, h => by simp at h
  | e :: l, 0, x, _ => by
    show (x.needs.length + tot l) + e.needs.length = (e.needs.length + tot l) + x.needs.length
    omega
  | e :: l, k + 1, x, h => by
    have := tot_set l k x (by simpa using h)
    show (e.needs.length + tot (l.set k x)) + (nth l k).needs.length = (e.needs.length + tot l) + x.needs.length
    omega
theorem tot_trim {l : List Entry} {k : Nat} (hk : k < l.length) (hn : 0 < (nth l k).needs.length) : tot (trim1 l k) + 1 = tot l := by
  have := tot_set l k (trimE (nth l k)) hk
  have h2 : (trimE (nth l k)).needs.length = (nth l k).needs.length - 1 := List.length_dropLast
  unfold trim1
  omega
theorem stuck_needs {l : List Entry} {i : Nat} (hi : i < l.length) (h : stuckS l i = true) : 0 < (nth l i).needs.length := by
  refine Nat.pos_of_ne_zero fun e => ?_
  have hm : missS l i = false := by
    cases hb : missS l i with
    | false => rfl
    | true => obtain ⟨k, hk, _⟩ := miss_iff.1 hb; omega
  have hr : ∀ j, j < l.length → reachS l i j = false := fun j hj => by
    cases hb : reachS l i j with
    | false => rfl
    | true =>
      obtain ⟨c, _, h1, _⟩ := (reach_iff hi hj).1 hb
      obtain ⟨k, hk, _⟩ := need_iff.1 h1
      omega
  rcases (stuck_why hi).1 h with h1 | h1 | ⟨j, hj, h1, _⟩
  · rw [hm] at h1; cases h1
  · rw [hr i hi] at h1; cases h1
  · rw [hr j hj] at h1; cases h1
theorem findI_of {l : List Entry} (h : regB l = true) {k : Nat} (hk : k < l.length) : findI l (nth l k).name = k := by
  unfold findI
  rw [find_some h hk]
/-- The first stuck entry. -/
theorem stuck_first {l : List Entry} (h : regB l = true) {s : ByteArray} {r : List ByteArray} (hs : stuckN l = s :: r) : ∃ k, k < l.length ∧ findI l s = (k : Int) ∧ 0 < (nth l k).needs.length := by
  unfold stuckN at hs
  rw [if_pos h] at hs
  have : s ∈ namesOf l (stuckS l) := by rw [hs]; simp
  obtain ⟨i, h1, h2, rfl⟩ := names_mem.1 this
  exact ⟨i, h1, findI_of h h1, stuck_needs h1 h2⟩
theorem trimN_step {l : List Entry} (h : regB l = true) {s : ByteArray} {r : List ByteArray} (hs : stuckN l = s :: r) {k : Nat} (hk : findI l s = (k : Int)) (hkl : k < l.length) (hn : 0 < (nth l k).needs.length) :
    trimN (tot l) l = trimN (tot (trim1 l k)) (trim1 l k) := by
  have := tot_trim hkl hn
  rw [← this]
  conv => lhs; unfold trimN
  rw [hs]
  show trimN _ (trim1 l (findI l s).toNat) = _
  rw [hk]
  rfl
theorem trimN_end {l : List Entry} (hs : stuckN l = []) : ∀ n, trimN n l = l
  | 0 => rfl
  | n + 1 => by unfold trimN; rw [hs]
theorem trimN_good {l : List Entry} : ∀ {n : Nat}, regB l = true → (∀ e ∈ l, e.recipe.length ≤ 5 ∧ e.needs.length ≤ 3) → regB (trimN n l) = true ∧ (∀ e ∈ trimN n l, e.recipe.length ≤ 5 ∧ e.needs.length ≤ 3)
  | 0, h, hf => ⟨h, hf⟩
  | n + 1, h, hf => by
    unfold trimN
    split
    · exact ⟨h, hf⟩
    · rename_i s r hs
      obtain ⟨k, h1, h2, h3⟩ := stuck_first h hs
      rw [h2, Int.toNat_natCast]
      refine trimN_good (trim_reg h h1) fun e he => ?_
      rcases List.mem_or_eq_of_mem_set he with h4 | rfl
      · exact hf e h4
      · have h4 := hf (nth l k) (nth_mem h1)
        have h5 : (trimE (nth l k)).needs.length = (nth l k).needs.length - 1 := List.length_dropLast
        exact ⟨h4.1, by omega⟩
end Go.Proofs.YtgaeigomhhbkfaaGreat
