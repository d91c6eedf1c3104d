/- Reaching, being stuck, the order of the start: what holds of them. No program in sight but the entries' data. -/
import Derived.Test.YthoafgehfgblaaaBWire
import Derived.Test.YthoafgehfgblaaaBReg
import Derived.Test.YthoafgehfgblaaaBHas
namespace Go.Proofs.Ythoafgehfgblaaa
open Go.RowKit Go
set_option linter.unusedVariables false
set_option linter.unusedSimpArgs false
set_option linter.unusedSectionVars false
variable [GC]
theorem needS_lt {l : List Entry} {a c : Nat} (h : needS l a c = true) : c < l.length := by
  unfold needS needTo at h
  obtain ⟨k, _, hk⟩ := anyT_iff.1 h
  exact prv_lt (by simpa using hk)
theorem Way.lt {l : List Entry} {n a b : Nat} (h : Way (needS l) n a b) : b < l.length := by
  induction h with
  | edge h => exact needS_lt h
  | step _ _ _ _ ih2 => exact ih2
theorem reach_way {l : List Entry} {a b : Nat} (ha : a < l.length) (hb : b < l.length) : reachS l a b = true ↔ Way (needS l) l.length a b := fwK_spec _ _ _ (Nat.le_refl _) a b ha hb
theorem Way.first {S : Nat → Nat → Bool} {n a b : Nat} (h : Way S n a b) : ∃ c, S a c = true ∧ (c = b ∨ Way S n c b) := by
  induction h with
  | @edge a b h => exact ⟨b, h, .inl rfl⟩
  | @step a m b hm _ h2 ih1 _ =>
    obtain ⟨c, h1, h3⟩ := ih1
    rcases h3 with rfl | h3
    · exact ⟨c, h1, .inr h2⟩
    · exact ⟨c, h1, .inr (.step hm h3 h2)⟩
theorem reach_iff {l : List Entry} {a b : Nat} (ha : a < l.length) (hb : b < l.length) : reachS l a b = true ↔ ∃ c, c < l.length ∧ needS l a c = true ∧ (c = b ∨ reachS l c b = true) := by
  rw [reach_way ha hb]
  constructor
  · intro h
    obtain ⟨c, h1, h2⟩ := h.first
    have hc := needS_lt h1
    exact ⟨c, hc, h1, h2.imp id fun h => (reach_way hc hb).2 h⟩
  · rintro ⟨c, hc, h1, rfl | h2⟩
    · exact .edge h1
    · exact .step hc (.edge h1) ((reach_way hc hb).1 h2)
theorem reach_trans {l : List Entry} {a b c : Nat} (ha : a < l.length) (hb : b < l.length) (hc : c < l.length) (h1 : reachS l a b = true) (h2 : reachS l b c = true) : reachS l a c = true :=
  (reach_way ha hc).2 (.step hb ((reach_way ha hb).1 h1) ((reach_way hb hc).1 h2))
theorem reach_need {l : List Entry} {a c : Nat} (ha : a < l.length) (h : needS l a c = true) : reachS l a c = true := (reach_way ha (needS_lt h)).2 (.edge h)
/-- What stops the start of an entry. -/
def badS (l : List Entry) (j : Nat) : Bool := missS l j || reachS l j j
def stuckS (l : List Entry) (i : Nat) : Bool := badS l i || anyT (fun j => reachS l i j && badS l j) l.length
theorem stuck_iff {l : List Entry} {i : Nat} : stuckS l i = true ↔ badS l i = true ∨ ∃ j, j < l.length ∧ reachS l i j = true ∧ badS l j = true := by
  unfold stuckS
  rw [Bool.or_eq_true, anyT_iff]
  simp only [Bool.and_eq_true]
theorem stuck_why {l : List Entry} {i : Nat} (hi : i < l.length) : stuckS l i = true ↔ missS l i = true ∨ reachS l i i = true ∨ ∃ j, j < l.length ∧ reachS l i j = true ∧ stuckS l j = true := by
  rw [stuck_iff]
  constructor
  · rintro (h | ⟨j, hj, h1, h2⟩)
    · unfold badS at h
      rw [Bool.or_eq_true] at h
      exact h.imp id .inl
    · exact .inr (.inr ⟨j, hj, h1, stuck_iff.2 (.inl h2)⟩)
  · rintro (h | h | ⟨j, hj, h1, h2⟩)
    · exact .inl (by unfold badS; rw [h]; rfl)
    · exact .inl (by unfold badS; rw [h]; simp)
    · rcases stuck_iff.1 h2 with h | ⟨k, hk, h3, h4⟩
      · exact .inr ⟨j, hj, h1, h⟩
      · exact .inr ⟨k, hk, reach_trans hi hj hk h1 h3, h4⟩
/-! The order of the start -/
def readyB (l : List Entry) (o : List Nat) (i : Nat) : Bool := !o.contains i && !missS l i && allTo (fun k => !needS l i k || o.contains k) l.length
def ordTo (l : List Entry) : Nat → List Nat
  | 0 => []
  | k + 1 => match firstTo (readyB l (ordTo l k)) l.length with
    | some i => ordTo l k ++ [i]
    | none => ordTo l k
def ordL (l : List Entry) : List Nat := ordTo l l.length
theorem ready_iff' {l : List Entry} {o : List Nat} {i : Nat} : readyB l o i = true ↔ i ∉ o ∧ missS l i = false ∧ ∀ k, k < l.length → needS l i k = true → k ∈ o := by
  unfold readyB
  simp only [Bool.and_eq_true, Bool.not_eq_true', allTo_iff, Bool.or_eq_true, List.contains_eq_mem, decide_eq_false_iff_not, decide_eq_true_eq]
  constructor
  · rintro ⟨⟨h1, h2⟩, h3⟩
    refine ⟨h1, h2, fun k hk hn => ?_⟩
    rcases h3 k hk with h | h
    · rw [hn] at h; cases h
    · exact h
  · rintro ⟨h1, h2, h3⟩
    refine ⟨⟨h1, h2⟩, fun k hk => ?_⟩
    cases hn : needS l i k with
    | false => exact .inl rfl
    | true => exact .inr (h3 k hk hn)
/-- Each one in the order was the first one ready there. -/
theorem ord_pre {l : List Entry} : ∀ {k : Nat} {pre post : List Nat} {i : Nat}, ordTo l k = pre ++ i :: post → firstTo (readyB l pre) l.length = some i
  | 0, pre, post, i, h => by simp [ordTo] at h
  | k + 1, pre, post, i, h => by
    simp only [ordTo] at h
    split at h
    · rename_i j hj
      rcases List.eq_nil_or_concat post with rfl | ⟨p', x, rfl⟩
      · have h2 : ordTo l k ++ [j] = pre ++ [i] := h
        obtain ⟨e1, e2⟩ := List.append_inj' h2 rfl
        simp only [List.cons.injEq, and_true] at e2
        rw [← e1, ← e2]; exact hj
      · have h2 : ordTo l k ++ [j] = (pre ++ i :: p') ++ [x] := by rw [h]; simp
        obtain ⟨e1, e2⟩ := List.append_inj' h2 rfl
        exact ord_pre e1
    · exact ord_pre h
theorem ord_nodup (l : List Entry) : ∀ k, (ordTo l k).Nodup
  | 0 => by simp [ordTo]
  | k + 1 => by
    simp only [ordTo]
    split
    · rename_i j hj
      have h1 := (ready_iff'.1 (firstTo_lt hj).2.1).1
      rw [List.nodup_append]
      refine ⟨ord_nodup l k, by simp, fun a ha b hb e => ?_⟩
      simp at hb; subst hb; subst e; exact h1 ha
    · exact ord_nodup l k
theorem ord_lt {l : List Entry} : ∀ {k i : Nat}, i ∈ ordTo l k → i < l.length
  | 0, i, h => by simp [ordTo] at h
  | k + 1, i, h => by
    simp only [ordTo] at h
    split at h
    · rename_i j hj
      rcases List.mem_append.1 h with h | h
      · exact ord_lt h
      · simp at h; subst h; exact (firstTo_lt hj).1
    · exact ord_lt h
theorem nodup_sub_len : ∀ {a b : List Nat}, a.Nodup → (∀ x ∈ a, x ∈ b) → a.length ≤ b.length
  | [], b, _, _ => by simp
  | x :: a, b, hn, hs => by
    have hx : x ∈ b := hs x (by simp)
    rw [List.nodup_cons] at hn
    have := nodup_sub_len (a := a) (b := b.erase x) hn.2 fun y hy => by
      have hne : y ≠ x := fun e => hn.1 (e ▸ hy)
      exact (List.mem_erase_of_ne hne).2 (hs y (by simp [hy]))
    rw [List.length_erase_of_mem hx] at this
    have hp : 0 < b.length := List.length_pos_of_mem hx
    simp only [List.length_cons]; omega
theorem ord_len_le (l : List Entry) (k : Nat) : (ordTo l k).length ≤ l.length := by
  have := nodup_sub_len (b := List.range l.length) (ord_nodup l k) fun x hx => by simpa using ord_lt hx
  simpa using this
theorem ord_stop {l : List Entry} {k : Nat} (h : firstTo (readyB l (ordTo l k)) l.length = none) : ∀ m, ordTo l (k + m) = ordTo l k
  | 0 => rfl
  | m + 1 => by
    show ordTo l ((k + m) + 1) = _
    simp only [ordTo]
    rw [ord_stop h m, h]
theorem ord_len {l : List Entry} : ∀ {k : Nat}, firstTo (readyB l (ordTo l k)) l.length ≠ none → (ordTo l k).length = k
  | 0, _ => rfl
  | k + 1, h => by
    cases hk : firstTo (readyB l (ordTo l k)) l.length with
    | none =>
      have e := ord_stop hk 1
      rw [e] at h
      exact absurd hk h
    | some i =>
      have := ord_len (k := k) (by rw [hk]; simp)
      simp only [ordTo, hk, List.length_append, List.length_cons, List.length_nil, this]
theorem ord_end (l : List Entry) : firstTo (readyB l (ordL l)) l.length = none := by
  cases h : firstTo (readyB l (ordL l)) l.length with
  | none => rfl
  | some i =>
    have h1 : (ordTo l l.length).length = l.length := ord_len (by unfold ordL at h; rw [h]; simp)
    have h2 : (ordTo l (l.length + 1)).length = l.length + 1 := by
      have h : firstTo (readyB l (ordTo l l.length)) l.length = some i := h
      simp only [ordTo, h, List.length_append, List.length_cons, List.length_nil, h1]
    have := ord_len_le l (l.length + 1)
    omega
theorem ord_done {l : List Entry} {k : Nat} (h : firstTo (readyB l (ordTo l k)) l.length = none) : ordTo l k = ordL l := by
  unfold ordL
  rcases Nat.le_total k l.length with hk | hk
  · rw [show l.length = k + (l.length - k) by omega, ord_stop h]
  · have := ord_stop (ord_end l) (k - l.length)
    rw [show l.length + (k - l.length) = k by omega] at this
    exact this
/-- Behind all that it reaches. -/
theorem ord_reach {l : List Entry} : ∀ (m : Nat) {pre post : List Nat} {i c : Nat}, pre.length ≤ m → ordL l = pre ++ i :: post → c < l.length → reachS l i c = true → c ∈ pre
  | m, pre, post, i, c, hm, h, hc, hr => by
    have hi : i < l.length := ord_lt (k := l.length) (by show i ∈ ordL l; rw [h]; simp)
    have hf := (ready_iff'.1 (firstTo_lt (ord_pre h)).2.1).2.2
    obtain ⟨d, hd, h1, h2⟩ := (reach_iff hi hc).1 hr
    have hdp := hf d hd h1
    rcases h2 with rfl | h2
    · exact hdp
    · obtain ⟨p1, p2, rfl⟩ := List.append_of_mem hdp
      match m, hm with
      | 0, hm => simp at hm
      | m + 1, hm =>
        have := ord_reach m (pre := p1) (post := p2 ++ i :: post) (i := d) (c := c) (by simp at hm; omega) (by rw [h]; simp) hc h2
        simp [this]
theorem ord_sound {l : List Entry} {i : Nat} (h : i ∈ ordL l) : stuckS l i = false := by
  have key : ∀ {j : Nat}, j ∈ ordL l → badS l j = false := by
    intro j hj
    have hjl : j < l.length := ord_lt hj
    obtain ⟨pre, post, e⟩ := List.append_of_mem hj
    have hr := ready_iff'.1 (firstTo_lt (ord_pre e)).2.1
    unfold badS
    rw [hr.2.1, Bool.false_or]
    cases hq : reachS l j j with
    | false => rfl
    | true => exact absurd (ord_reach _ (Nat.le_refl _) e hjl hq) hr.1
  cases hs : stuckS l i with
  | false => rfl
  | true =>
    rcases stuck_iff.1 hs with h1 | ⟨j, hj, h1, h2⟩
    · rw [key h] at h1; cases h1
    · obtain ⟨pre, post, e⟩ := List.append_of_mem h
      have := ord_reach _ (Nat.le_refl _) e hj h1
      rw [key (by rw [e]; simp [this])] at h2; cases h2
def cnt (p : Nat → Bool) : Nat → Nat
  | 0 => 0
  | n + 1 => cnt p n + if p n then 1 else 0
theorem cnt_le {p q : Nat → Bool} : ∀ {n : Nat}, (∀ i, i < n → p i = true → q i = true) → cnt p n ≤ cnt q n
  | 0, _ => Nat.le_refl _
  | n + 1, h => by
    simp only [cnt]
    have := cnt_le (n := n) fun i hi => h i (by omega)
    have := h n (by omega)
    by_cases hp : p n = true
    · rw [if_pos hp, if_pos (this hp)]; omega
    · rw [if_neg hp]; split <;> omega
theorem cnt_lt {p q : Nat → Bool} : ∀ {n : Nat}, (∀ i, i < n → p i = true → q i = true) → (∃ i, i < n ∧ p i = false ∧ q i = true) → cnt p n < cnt q n
  | 0, _, ⟨i, hi, _⟩ => by omega
  | n + 1, h, ⟨i, hi, h1, h2⟩ => by
    simp only [cnt]
    by_cases e : i = n
    · subst e
      have := cnt_le (n := i) fun j hj => h j (by omega)
      rw [h1, h2]; simp; omega
    · have h3 := cnt_lt (n := n) (fun j hj => h j (by omega)) ⟨i, by omega, h1, h2⟩
      have h4 := h n (by omega)
      by_cases hp : p n = true
      · rw [if_pos hp, if_pos (h4 hp)]; omega
      · rw [if_neg hp]; split <;> omega
theorem ord_all {l : List Entry} : ∀ (m : Nat) {i : Nat}, cnt (reachS l i) l.length ≤ m → i < l.length → stuckS l i = false → i ∈ ordL l
  | m, i, hm, hi, hs => by
    by_cases hmem : i ∈ ordL l
    · exact hmem
    · exfalso
      have hnb : badS l i = false := by
        cases hb : badS l i with
        | false => rfl
        | true => rw [stuck_iff.2 (.inl hb)] at hs; cases hs
      have hnr := firstTo_no (ord_end l) i hi
      have hmiss : missS l i = false := by
        unfold badS at hnb; simp at hnb; exact hnb.1
      -- a need that is not in
      have : ∃ c, c < l.length ∧ needS l i c = true ∧ c ∉ ordL l := by
        refine Classical.byContradiction fun hno => ?_
        have : readyB l (ordL l) i = true := ready_iff'.2 ⟨hmem, hmiss, fun k hk hn => Classical.byContradiction fun hk2 => hno ⟨k, hk, hn, hk2⟩⟩
        rw [this] at hnr; cases hnr
      obtain ⟨c, hc, h1, h2⟩ := this
      have hic := reach_need hi h1
      have hsc : stuckS l c = false := by
        cases hb : stuckS l c with
        | false => rfl
        | true => rw [(stuck_why hi).2 (.inr (.inr ⟨c, hc, hic, hb⟩))] at hs; cases hs
      have hcc : reachS l c c = false := by
        cases hb : reachS l c c with
        | false => rfl
        | true => rw [(stuck_why hc).2 (.inr (.inl hb))] at hsc; cases hsc
      have hlt : cnt (reachS l c) l.length < cnt (reachS l i) l.length := cnt_lt (fun j hj h => reach_trans hi hc hj hic h) ⟨c, hc, hcc, hic⟩
      match m, hm with
      | 0, hm => omega
      | m + 1, hm => exact h2 (ord_all m (by omega) hc hsc)
theorem ord_mem {l : List Entry} {i : Nat} (hi : i < l.length) : i ∈ ordL l ↔ stuckS l i = false := ⟨ord_sound, ord_all _ (Nat.le_refl _) hi⟩
theorem ord_count (l : List Entry) : (ordL l).length + ((List.range l.length).filter (stuckS l)).length = l.length := by
  have h1 : (ordL l).length = ((List.range l.length).filter fun i => !stuckS l i).length := by
    refine Nat.le_antisymm (nodup_sub_len (ord_nodup l _) fun x hx => ?_) (nodup_sub_len (List.nodup_range.filter _) fun x hx => ?_)
    · simp only [List.mem_filter, List.mem_range]
      exact ⟨ord_lt hx, by rw [ord_sound hx]; rfl⟩
    · simp only [List.mem_filter, List.mem_range, Bool.not_eq_true'] at hx
      exact (ord_mem hx.1).2 hx.2
  rw [h1]
  have := List.length_eq_countP_add_countP (stuckS l) (l := List.range l.length)
  simp only [List.length_range] at this
  rw [← List.countP_eq_length_filter, ← List.countP_eq_length_filter]
  have e : List.countP (fun i => !stuckS l i) (List.range l.length) = List.countP (fun a => decide ¬stuckS l a = true) (List.range l.length) := by
    congr 1; funext i; simp
  omega
/-! Names -/
theorem reg_parts {l : List Entry} (h : regB l = true) : l.length ≤ 6 ∧ ∀ k, k < l.length → entryAt l k = true := by
  unfold regB at h
  rw [Bool.and_eq_true, decide_eq_true_eq, allTo_iff] at h
  exact h
theorem bl_trans : ∀ {a b c : List UInt8}, Op.bytesLess a b = true → Op.bytesLess b c = true → Op.bytesLess a c = true
  | _, [], _, h, _ => by simp [Op.bytesLess] at h
  | _, _ :: _, [], _, h => by simp [Op.bytesLess] at h
  | [], _ :: _, _ :: _, _, _ => by simp [Op.bytesLess]
  | x :: a, y :: b, z :: c, h1, h2 => by
    have ih := @bl_trans a b c
    simp only [Op.bytesLess, Bool.or_eq_true, Bool.and_eq_true, decide_eq_true_eq, beq_iff_eq] at h1 h2 ⊢
    grind
theorem ltB_trans {a b c : ByteArray} (h1 : ltB a b = true) (h2 : ltB b c = true) : ltB a c = true := bl_trans h1 h2
theorem ltB_irrefl (a : ByteArray) : ltB a a = false := by
  cases h : ltB a a with
  | false => rfl
  | true => rw [ltB_asymm h] at h; cases h
theorem reg_lt {l : List Entry} (h : regB l = true) {i : Nat} : ∀ {j : Nat}, i < j → j < l.length → ltB (nth l i).name (nth l j).name = true
  | 0, hij, _ => by omega
  | j + 1, hij, hj => by
    have h1 := (reg_parts h).2 (j + 1) hj
    unfold entryAt at h1
    simp only [Bool.and_eq_true, Bool.or_eq_true] at h1
    have h2 : ltB (nth l j).name (nth l (j + 1)).name = true := by
      rcases h1.2 with h | h
      · simp at h
      · simpa using h
    rcases Nat.lt_or_ge i j with h3 | h3
    · exact ltB_trans (reg_lt h h3 (by omega)) h2
    · obtain rfl : i = j := by omega
      exact h2
theorem reg_inj {l : List Entry} (h : regB l = true) {i j : Nat} (hi : i < l.length) (hj : j < l.length) (e : (nth l i).name = (nth l j).name) : i = j := by
  rcases Nat.lt_trichotomy i j with h1 | h1 | h1
  · have := reg_lt h h1 hj
    rw [e, ltB_irrefl] at this; cases this
  · exact h1
  · have := reg_lt h h1 hi
    rw [e, ltB_irrefl] at this; cases this
def namesTo (l : List Entry) (p : Nat → Bool) (k : Nat) : List ByteArray := ((List.range k).filter p).map fun i => (nth l i).name
def namesOf (l : List Entry) (p : Nat → Bool) : List ByteArray := namesTo l p l.length
theorem namesTo_succ (l : List Entry) (p : Nat → Bool) (k : Nat) : namesTo l p (k + 1) = if p k = true then namesTo l p k ++ [(nth l k).name] else namesTo l p k := by
  unfold namesTo
  rw [List.range_succ, List.filter_append, List.map_append]
  cases h : p k <;> simp [h]
theorem namesTo_len (l : List Entry) (p : Nat → Bool) (k : Nat) : (namesTo l p k).length ≤ k := by
  unfold namesTo
  rw [List.length_map]
  have := List.length_filter_le p (List.range k)
  simpa using this
theorem names_has {l : List Entry} (h : regB l = true) {p : Nat → Bool} {k : Nat} (hk : k < l.length) : hasB (namesOf l p) (nth l k).name = p k := by
  rw [Bool.eq_iff_iff]
  unfold hasB namesOf namesTo
  simp only [List.any_eq_true, List.mem_map, List.mem_filter, List.mem_range, decide_eq_true_eq]
  constructor
  · rintro ⟨t, ⟨i, ⟨h1, h2⟩, rfl⟩, e⟩
    rw [← reg_inj h h1 hk e]; exact h2
  · intro hp
    exact ⟨_, ⟨k, ⟨hk, hp⟩, rfl⟩, rfl⟩
end Go.Proofs.Ythoafgehfgblaaa
