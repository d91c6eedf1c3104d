/- Registries: copies, finding, adding: what the program and the reference compute. -/
import Derived.Test.YtgaeigomhhbkfaaGreatBEntry
namespace Go.Proofs.YtgaeigomhhbkfaaGreat
open Go.RowKit Go
set_option linter.unusedVariables false
set_option linter.unusedSimpArgs false
set_option maxRecDepth 100000
set_option linter.unusedSectionVars false
variable [GC]
def Entry.fit (e : Entry) : Prop := e.recipe.length ≤ 1048576 ∧ e.needs.length ≤ 1048576
theorem take_snoc {α : Type} [Inhabited α] (l : List α) {k : Nat} (h : k < l.length) : l.take (k + 1) = l.take k ++ [nth l k] := by
  rw [List.take_succ_eq_append_getElem h]
  simp [nth, List.getD_eq_getElem?_getD, List.getElem?_eq_getElem h]
theorem encS_snoc {α : Type} [Enc α] (l : List α) (x : α) : D.sl (l.map Enc.cells ++ [Enc.cells x]) = encS (l ++ [x]) := by simp [encS]
def findO (l : List Entry) (s : ByteArray) : Option Nat := firstTo (fun k => decide ((nth l k).name = s)) l.length
def findI (l : List Entry) (s : ByteArray) : Int := match findO l s with | some k => k | none => -1
theorem c_impl_FindEntry (l : List Entry) (s : ByteArray) : Fun Tryz.prog 33 none [encS l, .str s] (.int .i64 (findI l s)) [] := by
  refine Fun.ofV vc_impl_FindEntry_ok ty_impl_FindEntry_ok rfl ?_ (fun hfit => ?_)
  · exact ⟨ty_EntryS l, trivial, trivial⟩
  have hl : l.length ≤ 9223372036854775807 := fits_encS hfit.1
  unfold vc_impl_FindEntry
  refine den_for l.length (fun k => [.int .i64 k]) (fun k => ∀ i, i < k → decide ((nth l i).name = s) = false) rfl (by omega) ?_
  intro k hk hI _
  simp only [List.cons_append, List.nil_append]
  refine den_ite (fun h2 => ?_) (fun h2 => ?_)
  · simp only [E.den, dEq, iEq, sEq] at h2
    have h2 : k < l.length := by simp at h2; exact h2
    (refine den_cond (fun hg => ?_) ?_; (focus (simp only [gsH, List.mem_cons, List.not_mem_nil, or_false, forall_eq_or_imp, forall_eq, E.den, dEq, iEq, sEq] at hg ⊢; (try simp only [D.bool.injEq] at hg); (try simp only [D.bool.injEq]); grind)))
    refine den_ite (fun h3 => ?_) (fun h3 => ?_)
    · simp only [E.den, dEq, iEq, sEq, row_Entry, cells_Entry] at h3
      refine den_ret ?_
      simp [E.den, findI, findO, firstTo_some (p := fun k => decide ((nth l k).name = s)) h3 hI h2]
    · simp only [E.den, dEq, iEq, sEq, row_Entry, cells_Entry] at h3
      refine den_next h2 ?_ fun i hi => ?_
      · simp only [E.den, dEq, iEq, sEq]
        rw [ar_add (by omega) (by omega)]; rfl
      · rcases Nat.lt_or_ge i k with h | h
        · exact hI i h
        · obtain rfl : i = k := by omega
          exact h3
  · simp only [E.den, dEq, iEq, sEq] at h2
    obtain rfl : k = l.length := by simp at h2; omega
    exact den_ret (by simp [E.den, findI, findO, firstTo_none hI])

theorem c_spec_FindEntry (l : List Entry) (s : ByteArray) : Fun Tryz.prog 19 none [encS l, .str s] (.int .i64 (findI l s)) [] := by
  refine Fun.ofV vc_spec_FindEntry_ok ty_spec_FindEntry_ok rfl ?_ (fun hfit => ?_)
  · exact ⟨ty_EntryS l, trivial, trivial⟩
  have hl : l.length ≤ 9223372036854775807 := fits_encS hfit.1
  unfold vc_spec_FindEntry
  refine den_for l.length (fun k => [.int .i64 k]) (fun k => ∀ i, i < k → decide ((nth l i).name = s) = false) rfl (by omega) ?_
  intro k hk hI _
  simp only [List.cons_append, List.nil_append]
  refine den_ite (fun h2 => ?_) (fun h2 => ?_)
  · simp only [E.den, dEq, iEq, sEq] at h2
    have h2 : k < l.length := by simp at h2; exact h2
    (refine den_cond (fun hg => ?_) ?_; (focus (simp only [gsH, List.mem_cons, List.not_mem_nil, or_false, forall_eq_or_imp, forall_eq, E.den, dEq, iEq, sEq] at hg ⊢; (try simp only [D.bool.injEq] at hg); (try simp only [D.bool.injEq]); grind)))
    refine den_ite (fun h3 => ?_) (fun h3 => ?_)
    · simp only [E.den, dEq, iEq, sEq, row_Entry, cells_Entry] at h3
      refine den_ret ?_
      simp [E.den, findI, findO, firstTo_some (p := fun k => decide ((nth l k).name = s)) h3 hI h2]
    · simp only [E.den, dEq, iEq, sEq, row_Entry, cells_Entry] at h3
      refine den_next h2 ?_ fun i hi => ?_
      · simp only [E.den, dEq, iEq, sEq]
        rw [ar_add (by omega) (by omega)]; rfl
      · rcases Nat.lt_or_ge i k with h | h
        · exact hI i h
        · obtain rfl : i = k := by omega
          exact h3
  · simp only [E.den, dEq, iEq, sEq] at h2
    obtain rfl : k = l.length := by simp at h2; omega
    exact den_ret (by simp [E.den, findI, findO, firstTo_none hI])

/-- Where an entry is put in. -/
def atP (l : List Entry) (s : ByteArray) (k : Nat) : Bool := !ltB (nth l k).name s
def atOf (l : List Entry) (s : ByteArray) : Nat := (firstTo (atP l s) l.length).getD l.length
def insE (l : List Entry) (e : Entry) : List Entry := l.take (atOf l e.name) ++ [e] ++ l.drop (atOf l e.name)
def addOk (l : List Entry) (e : Entry) : Bool := regB l && entryB e && decide (findI l e.name < 0) && decide (l.length < 6)
def addL (l : List Entry) (e : Entry) : List Entry := if addOk l e then insE l e else l
theorem bl_asymm : ∀ {a b : List UInt8}, Op.bytesLess a b = true → Op.bytesLess b a = false
  | [], [], h => by simp [Op.bytesLess] at h
  | [], _ :: _, _ => by simp [Op.bytesLess]
  | _ :: _, [], h => by simp [Op.bytesLess] at h
  | x :: a, y :: b, h => by
    simp only [Op.bytesLess] at h ⊢
    by_cases e : x = y
    · subst e; simp at h ⊢; exact bl_asymm h
    · have e' : ¬ y = x := fun h => e h.symm
      simp [e, e'] at h ⊢
      exact UInt8.le_of_lt h
theorem bl_total : ∀ {a b : List UInt8}, a ≠ b → Op.bytesLess a b = false → Op.bytesLess b a = true
  | [], [], h, _ => by simp at h
  | [], _ :: _, _, h => by simp [Op.bytesLess] at h
  | _ :: _, [], _, _ => by simp [Op.bytesLess]
  | x :: a, y :: b, hn, h => by
    simp only [Op.bytesLess] at h ⊢
    by_cases e : x = y
    · subst e; simp at h hn ⊢; exact bl_total hn h
    · have e' : ¬ y = x := fun h => e h.symm
      simp [e, e'] at h ⊢
      exact UInt8.lt_of_le_of_ne h e'
theorem ltB_asymm {a b : ByteArray} (h : ltB a b = true) : ltB b a = false := bl_asymm h
theorem ltB_total {a b : ByteArray} (hn : a ≠ b) (h : ltB a b = false) : ltB b a = true :=
  bl_total (fun e => hn (by have := toList_eqB a b; rw [e] at this; simpa using this.symm)) h
theorem cmpS_gtr (a b : ByteArray) : cmpS .gtr a b = !(ltB a b || decide (a = b)) := by rw [← toList_eqB]; rfl
theorem firstTo_no {p : Nat → Bool} : ∀ {n : Nat}, firstTo p n = none → ∀ i, i < n → p i = false
  | 0, _, i, h => by omega
  | n + 1, h, i, hi => by
    simp only [firstTo] at h
    split at h
    · cases h
    · rename_i hn
      split at h
      · cases h
      · rename_i hp
        by_cases e : i = n
        · subst e; simpa using hp
        · exact firstTo_no hn i (by omega)
theorem atOf_spec (l : List Entry) (s : ByteArray) : atOf l s ≤ l.length ∧ (∀ i, i < atOf l s → atP l s i = false) ∧ (atOf l s < l.length → atP l s (atOf l s) = true) := by
  unfold atOf
  cases h : firstTo (atP l s) l.length with
  | none => exact ⟨Nat.le_refl _, firstTo_no h, fun h => absurd h (Nat.lt_irrefl _)⟩
  | some k => obtain ⟨h1, h2, h3⟩ := firstTo_lt h; exact ⟨Nat.le_of_lt h1, h3, fun _ => h2⟩
theorem findI_none {l : List Entry} {s : ByteArray} (h : findI l s < 0) {k : Nat} (hk : k < l.length) : (nth l k).name ≠ s := by
  unfold findI at h
  cases hf : findO l s with
  | none => have := firstTo_no hf k hk; simpa using this
  | some j => rw [hf] at h; simp only at h; omega
def outK (l : List Entry) (e : Entry) (k : Nat) : List Entry := if atOf l e.name < k then l.take (atOf l e.name) ++ [e] ++ (l.take k).drop (atOf l e.name) else l.take k
theorem outK_done {l : List Entry} {e : Entry} {k : Nat} (hk : k < l.length) (h : atOf l e.name < k) : outK l e (k + 1) = outK l e k ++ [nth l k] := by
  unfold outK
  rw [if_pos h, if_pos (by omega), take_snoc l hk, List.drop_append_of_le_length (by simp; omega)]
  simp
theorem outK_at {l : List Entry} {e : Entry} {k : Nat} (hk : k < l.length) (h : atOf l e.name = k) : outK l e (k + 1) = outK l e k ++ [e] ++ [nth l k] := by
  unfold outK
  simp only [h]
  rw [if_pos (Nat.lt_succ_self k), if_neg (Nat.lt_irrefl k), take_snoc l hk, List.drop_append_of_le_length (by simp; omega)]
  simp
theorem outK_not {l : List Entry} {e : Entry} {k : Nat} (hk : k < l.length) (h : k < atOf l e.name) : outK l e (k + 1) = outK l e k ++ [nth l k] := by
  unfold outK
  rw [if_neg (by omega), if_neg (by omega), take_snoc l hk]
theorem outK_len (l : List Entry) (e : Entry) (k : Nat) (hk : k ≤ l.length) : (outK l e k).length ≤ k + 1 := by
  unfold outK
  split <;> simp <;> omega
def remOk (l : List Entry) (s : ByteArray) : Bool := regB l && decide (0 ≤ findI l s)
def remL (l : List Entry) (s : ByteArray) : List Entry := if remOk l s then l.take (findI l s).toNat ++ l.drop ((findI l s).toNat + 1) else l
theorem findI_some {l : List Entry} {s : ByteArray} (h : 0 ≤ findI l s) : ∃ i : Nat, findI l s = (i : Int) ∧ i < l.length ∧ (nth l i).name = s := by
  unfold findI at h ⊢
  cases hf : findO l s with
  | none => rw [hf] at h; simp at h
  | some k =>
    obtain ⟨h1, h2, _⟩ := firstTo_lt hf
    exact ⟨k, rfl, h1, by simpa using h2⟩
theorem nth_insE (l : List Entry) (e : Entry) (k : Nat) : nth (insE l e) k = if k < atOf l e.name then nth l k else if k = atOf l e.name then e else nth l (k - 1) := by
  have ha := (atOf_spec l e.name).1
  generalize hA : atOf l e.name = a at ha
  unfold nth insE
  rw [hA]
  simp only [List.getD_eq_getElem?_getD, List.append_assoc, List.singleton_append]
  rw [List.getElem?_append, List.length_take, Nat.min_eq_left ha]
  by_cases h : k < a
  · rw [if_pos h, if_pos h, List.getElem?_take_of_lt h]
  · rw [if_neg h, if_neg h]
    by_cases h2 : k = a
    · rw [if_pos h2, h2]; simp
    · rw [if_neg h2]
      obtain ⟨j, hj⟩ : ∃ j, k - a = j + 1 := ⟨k - a - 1, by omega⟩
      rw [hj, List.getElem?_cons_succ, List.getElem?_drop, show a + j = k - 1 by omega]
theorem len_insE (l : List Entry) (e : Entry) : (insE l e).length = l.length + 1 := by
  have ha := (atOf_spec l e.name).1
  unfold insE
  simp only [List.length_append, List.length_take, List.length_drop, List.length_cons, List.length_nil]
  omega
theorem ltB_ne {a b : ByteArray} (h : ltB a b = true) : a ≠ b := fun e => by
  subst e
  rw [ltB_asymm h] at h; cases h
theorem addOk_parts {l : List Entry} {e : Entry} (h : addOk l e = true) : regB l = true ∧ entryB e = true ∧ findI l e.name < 0 ∧ l.length < 6 := by
  unfold addOk at h
  simp only [Bool.and_eq_true, decide_eq_true_eq] at h
  exact ⟨h.1.1.1, h.1.1.2, h.1.2, h.2⟩
theorem reg_ins {l : List Entry} {e : Entry} (h : addOk l e = true) : regB (insE l e) = true := by
  obtain ⟨h1, h2, h3, h4⟩ := addOk_parts h
  obtain ⟨a1, a2, a3⟩ := atOf_spec l e.name
  have hr : ∀ k, k < l.length → entryB (nth l k) = true ∧ (k = 0 ∨ ltB (nth l (k - 1)).name (nth l k).name = true) := fun k hk => by
    unfold regB at h1
    simp only [Bool.and_eq_true] at h1
    have := allTo_iff.1 h1.2 k hk
    unfold entryAt at this
    simpa using this
  unfold regB
  simp only [Bool.and_eq_true, decide_eq_true_eq]
  refine ⟨by rw [len_insE]; omega, allTo_iff.2 fun k hk => ?_⟩
  rw [len_insE] at hk
  have hlt : ∀ i, i < atOf l e.name → ltB (nth l i).name e.name = true := fun i hi => by
    have := a2 i hi
    unfold atP at this
    simpa using this
  have hge : atOf l e.name < l.length → ltB e.name (nth l (atOf l e.name)).name = true := fun hl => by
    have := a3 hl
    unfold atP at this
    exact ltB_total (findI_none h3 hl) (by simpa using this)
  unfold entryAt
  simp only [Bool.and_eq_true, Bool.or_eq_true, beq_iff_eq]
  simp only [nth_insE]
  by_cases c1 : k < atOf l e.name
  · rw [if_pos c1, if_pos (show k - 1 < atOf l e.name by omega)]
    exact hr k (by omega)
  · rw [if_neg c1]
    by_cases c2 : k = atOf l e.name
    · rw [if_pos c2]
      refine ⟨h2, ?_⟩
      by_cases c0 : k = 0
      · exact .inl c0
      · rw [if_pos (show k - 1 < atOf l e.name by omega)]
        exact .inr (hlt _ (by omega))
    · rw [if_neg c2, if_neg (show ¬ k - 1 < atOf l e.name by omega)]
      refine ⟨(hr (k - 1) (by omega)).1, .inr ?_⟩
      by_cases c3 : k - 1 = atOf l e.name
      · rw [if_pos c3, c3]
        exact hge (by omega)
      · rw [if_neg c3]
        rcases (hr (k - 1) (by omega)).2 with c4 | c4
        · omega
        · exact c4
theorem find_ins {l : List Entry} {e : Entry} : findI (insE l e) e.name = (atOf l e.name : Int) := by
  obtain ⟨a1, a2, a3⟩ := atOf_spec l e.name
  unfold findI findO
  rw [firstTo_some (p := fun k => decide ((nth (insE l e) k).name = e.name)) (k := atOf l e.name) (by simp [nth_insE]) (fun i hi => by
    have := a2 i hi
    unfold atP at this
    have := ltB_ne (a := (nth l i).name) (b := e.name) (by simpa using this)
    simpa [nth_insE, hi] using this) (by rw [len_insE]; omega)]
theorem rem_ins {l : List Entry} {e : Entry} (h : addOk l e = true) : remOk (insE l e) e.name = true ∧ remL (insE l e) e.name = l := by
  have ha := (atOf_spec l e.name).1
  have ho : remOk (insE l e) e.name = true := by
    unfold remOk
    rw [reg_ins h, find_ins]; simp
  refine ⟨ho, ?_⟩
  unfold remL
  rw [if_pos ho, find_ins, Int.toNat_natCast]
  unfold insE
  have h1 : (l.take (atOf l e.name)).length = atOf l e.name := by rw [List.length_take]; omega
  rw [List.append_assoc, List.take_append_of_le_length (by omega), List.take_of_length_le (by omega), List.drop_append, h1, List.drop_eq_nil_of_le (by omega)]
  simp
end Go.Proofs.YtgaeigomhhbkfaaGreat
