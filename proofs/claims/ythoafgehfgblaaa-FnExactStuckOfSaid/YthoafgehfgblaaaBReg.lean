/- Registries: copies, finding, adding: what the program and the reference compute. -/
import Derived.Test.YthoafgehfgblaaaBEntry
namespace Go.Proofs.Ythoafgehfgblaaa
open Go.RowKit Go
set_option linter.unusedVariables false
set_option linter.unusedSimpArgs false
set_option maxRecDepth 100000
set_option linter.unusedSectionVars false
variable [GC]
def Entry.fit (e : Entry) : Prop := e.recipe.length ≤ 1048576 ∧ e.needs.length ≤ 1048576
theorem c_impl_copyTexts (l : List ByteArray) (h : l.length ≤ 1048576) : FunR Try.prog 96 none [encS l] (encS l) [] [(0, 1)] := by
  refine FunR.ofV vc_impl_copyTexts_ok ty_impl_copyTexts_ok rt_impl_copyTexts_ok rfl ?_ (fun hfit => ?_)
  · exact ⟨ty_strS l, trivial⟩
  unfold vc_impl_copyTexts
  refine den_cond (fun _ => ?_) (den_ret ?_)
  · simp [E.den]; omega
  · simp [E.den, encS]

theorem c_spec_l1Texts (l : List ByteArray) (h : l.length ≤ 1048576) : FunR Try.prog 101 none [encS l] (encS l) [] [(0, 1)] := by
  refine FunR.ofV vc_spec_l1Texts_ok ty_spec_l1Texts_ok rt_spec_l1Texts_ok rfl ?_ (fun hfit => ?_)
  · exact ⟨ty_strS l, trivial⟩
  unfold vc_spec_l1Texts
  refine den_cond (fun _ => ?_) (den_ret ?_)
  · simp [E.den]; omega
  · simp [E.den, encS]

theorem c_impl_copyEntry (e : Entry) (h : e.fit) : FunR Try.prog 55 none [enc e] (enc e) [] [(1, 1), (4, 4)] := by
  refine FunR.ofV vc_impl_copyEntry_ok ty_impl_copyEntry_ok rt_impl_copyEntry_ok rfl ?_ (fun hfit => ?_)
  · exact ⟨ty_Entry e, trivial⟩
  unfold vc_impl_copyEntry
  ((first | refine den_call ?_ (c_impl_copyTexts e.recipe h.1) (ty_strS _) ?_ | refine den_callR ?_ (c_impl_copyTexts e.recipe h.1) (ty_strS _) ?_ | refine den_call ?_ (.ofR (c_impl_copyTexts e.recipe h.1)) (ty_strS _) ?_); (focus (simp only [VC.den, E.den, dEq, gsH_nil, and_true, cells_Entry]; try exact rfl)); (simp only [List.cons_append, List.nil_append]))
  have h2 := h.2
  refine den_cond (fun _ => ?_) (den_ret ?_)
  · simp [E.den, cells_Entry]; omega
  · simp [E.den, cells_Entry, enc, encS]

theorem c_spec_l6Copy (e : Entry) (h : e.fit) : FunR Try.prog 60 none [enc e] (enc e) [] [(1, 1), (4, 4)] := by
  refine FunR.ofV vc_spec_l6Copy_ok ty_spec_l6Copy_ok rt_spec_l6Copy_ok rfl ?_ (fun hfit => ?_)
  · exact ⟨ty_Entry e, trivial⟩
  unfold vc_spec_l6Copy
  ((first | refine den_call ?_ (c_spec_l1Texts e.recipe h.1) (ty_strS _) ?_ | refine den_callR ?_ (c_spec_l1Texts e.recipe h.1) (ty_strS _) ?_ | refine den_call ?_ (.ofR (c_spec_l1Texts e.recipe h.1)) (ty_strS _) ?_); (focus (simp only [VC.den, E.den, dEq, gsH_nil, and_true, cells_Entry]; try exact rfl)); (simp only [List.cons_append, List.nil_append]))
  have h2 := h.2
  refine den_cond (fun _ => ?_) (den_ret ?_)
  · simp [E.den, cells_Entry]; omega
  · simp [E.den, cells_Entry, enc, encS]

theorem take_snoc {α : Type} [Inhabited α] (l : List α) {k : Nat} (h : k < l.length) : l.take (k + 1) = l.take k ++ [nth l k] := by
  rw [List.take_succ_eq_append_getElem h]
  simp [nth, List.getD_eq_getElem?_getD, List.getElem?_eq_getElem h]
theorem encS_snoc {α : Type} [Enc α] (l : List α) (x : α) : D.sl (l.map Enc.cells ++ [Enc.cells x]) = encS (l ++ [x]) := by simp [encS]
theorem c_impl_copyEntries (l : List Entry) (hl : l.length ≤ 1048576) (hf : ∀ e ∈ l, e.fit) : FunR Try.prog 54 none [encS l] (encS l) [] [(0, 5)] := by
  refine FunR.ofV vc_impl_copyEntries_ok ty_impl_copyEntries_ok rt_impl_copyEntries_ok rfl ?_ (fun hfit => ?_)
  · exact ⟨ty_EntryS l, trivial⟩
  unfold vc_impl_copyEntries
  refine den_for l.length (fun k => [encS (l.take k), .int .i64 k]) (fun _ => True) rfl trivial ?_
  intro k hk _ _
  simp only [List.cons_append, List.nil_append]
  refine den_ite (fun h2 => ?_) (fun h2 => ?_)
  · simp only [E.den, dEq, iEq, sEq] at h2
    have h2 : k < l.length := by simp at h2; exact h2
    (refine den_cond (fun hg => ?_) ?_; (focus (simp only [gsH, List.mem_cons, List.not_mem_nil, or_false, forall_eq_or_imp, forall_eq, E.den, dEq, iEq, sEq] at hg ⊢; (try simp only [D.bool.injEq] at hg); (try simp only [D.bool.injEq]); grind)))
    ((first | refine den_call ?_ (c_impl_copyEntry (nth l k) (hf _ (nth_mem h2))) (ty_Entry _) ?_ | refine den_callR ?_ (c_impl_copyEntry (nth l k) (hf _ (nth_mem h2))) (ty_Entry _) ?_ | refine den_call ?_ (.ofR (c_impl_copyEntry (nth l k) (hf _ (nth_mem h2)))) (ty_Entry _) ?_); (focus (simp only [VC.den, E.den, dEq, gsH_nil, and_true, row_Entry, Int.toNat_natCast]; try exact rfl)); (simp only [List.cons_append, List.nil_append]))
    refine den_cond (fun _ => ?_) ?_
    · simp [E.den]; omega
    refine den_next h2 ?_ trivial
    simp only [E.den, dEq, iEq, sEq, List.nil_append]
    rw [ar_add (by omega) (by omega), encS_snoc, ← take_snoc l h2]; rfl
  · simp only [E.den, dEq, iEq, sEq] at h2
    obtain rfl : k = l.length := by simp at h2; omega
    exact den_ret (by simp [E.den])

theorem c_spec_l6Copies (l : List Entry) (hl : l.length ≤ 1048576) (hf : ∀ e ∈ l, e.fit) : FunR Try.prog 59 none [encS l] (encS l) [] [(0, 5)] := by
  refine FunR.ofV vc_spec_l6Copies_ok ty_spec_l6Copies_ok rt_spec_l6Copies_ok rfl ?_ (fun hfit => ?_)
  · exact ⟨ty_EntryS l, trivial⟩
  unfold vc_spec_l6Copies
  refine den_for l.length (fun k => [encS (l.take k), .int .i64 k]) (fun _ => True) rfl trivial ?_
  intro k hk _ _
  simp only [List.cons_append, List.nil_append]
  refine den_ite (fun h2 => ?_) (fun h2 => ?_)
  · simp only [E.den, dEq, iEq, sEq] at h2
    have h2 : k < l.length := by simp at h2; exact h2
    (refine den_cond (fun hg => ?_) ?_; (focus (simp only [gsH, List.mem_cons, List.not_mem_nil, or_false, forall_eq_or_imp, forall_eq, E.den, dEq, iEq, sEq] at hg ⊢; (try simp only [D.bool.injEq] at hg); (try simp only [D.bool.injEq]); grind)))
    ((first | refine den_call ?_ (c_spec_l6Copy (nth l k) (hf _ (nth_mem h2))) (ty_Entry _) ?_ | refine den_callR ?_ (c_spec_l6Copy (nth l k) (hf _ (nth_mem h2))) (ty_Entry _) ?_ | refine den_call ?_ (.ofR (c_spec_l6Copy (nth l k) (hf _ (nth_mem h2)))) (ty_Entry _) ?_); (focus (simp only [VC.den, E.den, dEq, gsH_nil, and_true, row_Entry, Int.toNat_natCast]; try exact rfl)); (simp only [List.cons_append, List.nil_append]))
    refine den_cond (fun _ => ?_) ?_
    · simp [E.den]; omega
    refine den_next h2 ?_ trivial
    simp only [E.den, dEq, iEq, sEq, List.nil_append]
    rw [ar_add (by omega) (by omega), encS_snoc, ← take_snoc l h2]; rfl
  · simp only [E.den, dEq, iEq, sEq] at h2
    obtain rfl : k = l.length := by simp at h2; omega
    exact den_ret (by simp [E.den])

def findO (l : List Entry) (s : ByteArray) : Option Nat := firstTo (fun k => decide ((nth l k).name = s)) l.length
def findI (l : List Entry) (s : ByteArray) : Int := match findO l s with | some k => k | none => -1
theorem c_impl_FindEntry (l : List Entry) (s : ByteArray) : Fun Try.prog 24 none [encS l, .str s] (.int .i64 (findI l s)) [] := by
  refine Fun.ofV vc_impl_FindEntry_ok ty_impl_FindEntry_ok rfl ?_ (fun hfit => ?_)
  · exact ⟨ty_EntryS l, trivial, trivial⟩
  have hl : l.length ≤ 9223372036854775807 := fits_encS hfit.1
  unfold vc_impl_FindEntry
  refine den_for l.length (fun k => [.int .i64 k]) (fun k => ∀ i, i < k → decide ((nth l i).name = s) = false) rfl (by omega) ?_
  intro k hk hI _
  simp only [List.cons_append, List.nil_append]
  refine den_ite (fun h2 => ?_) (fun h2 => ?_)
  · simp only [E.den, dEq, iEq, sEq] at h2
    have h2 : k < l.length := by simp at h2; exact h2
    (refine den_cond (fun hg => ?_) ?_; (focus (simp only [gsH, List.mem_cons, List.not_mem_nil, or_false, forall_eq_or_imp, forall_eq, E.den, dEq, iEq, sEq] at hg ⊢; (try simp only [D.bool.injEq] at hg); (try simp only [D.bool.injEq]); grind)))
    refine den_ite (fun h3 => ?_) (fun h3 => ?_)
    · simp only [E.den, dEq, iEq, sEq, row_Entry, cells_Entry] at h3
      refine den_ret ?_
      simp [E.den, findI, findO, firstTo_some (p := fun k => decide ((nth l k).name = s)) h3 hI h2]
    · simp only [E.den, dEq, iEq, sEq, row_Entry, cells_Entry] at h3
      refine den_next h2 ?_ fun i hi => ?_
      · simp only [E.den, dEq, iEq, sEq]
        rw [ar_add (by omega) (by omega)]; rfl
      · rcases Nat.lt_or_ge i k with h | h
        · exact hI i h
        · obtain rfl : i = k := by omega
          exact h3
  · simp only [E.den, dEq, iEq, sEq] at h2
    obtain rfl : k = l.length := by simp at h2; omega
    exact den_ret (by simp [E.den, findI, findO, firstTo_none hI])

theorem c_spec_FindEntry (l : List Entry) (s : ByteArray) : Fun Try.prog 58 none [encS l, .str s] (.int .i64 (findI l s)) [] := by
  refine Fun.ofV vc_spec_FindEntry_ok ty_spec_FindEntry_ok rfl ?_ (fun hfit => ?_)
  · exact ⟨ty_EntryS l, trivial, trivial⟩
  have hl : l.length ≤ 9223372036854775807 := fits_encS hfit.1
  unfold vc_spec_FindEntry
  refine den_for l.length (fun k => [.int .i64 k]) (fun k => ∀ i, i < k → decide ((nth l i).name = s) = false) rfl (by omega) ?_
  intro k hk hI _
  simp only [List.cons_append, List.nil_append]
  refine den_ite (fun h2 => ?_) (fun h2 => ?_)
  · simp only [E.den, dEq, iEq, sEq] at h2
    have h2 : k < l.length := by simp at h2; exact h2
    (refine den_cond (fun hg => ?_) ?_; (focus (simp only [gsH, List.mem_cons, List.not_mem_nil, or_false, forall_eq_or_imp, forall_eq, E.den, dEq, iEq, sEq] at hg ⊢; (try simp only [D.bool.injEq] at hg); (try simp only [D.bool.injEq]); grind)))
    refine den_ite (fun h3 => ?_) (fun h3 => ?_)
    · simp only [E.den, dEq, iEq, sEq, row_Entry, cells_Entry] at h3
      refine den_ret ?_
      simp [E.den, findI, findO, firstTo_some (p := fun k => decide ((nth l k).name = s)) h3 hI h2]
    · simp only [E.den, dEq, iEq, sEq, row_Entry, cells_Entry] at h3
      refine den_next h2 ?_ fun i hi => ?_
      · simp only [E.den, dEq, iEq, sEq]
        rw [ar_add (by omega) (by omega)]; rfl
      · rcases Nat.lt_or_ge i k with h | h
        · exact hI i h
        · obtain rfl : i = k := by omega
          exact h3
  · simp only [E.den, dEq, iEq, sEq] at h2
    obtain rfl : k = l.length := by simp at h2; omega
    exact den_ret (by simp [E.den, findI, findO, firstTo_none hI])

/-- Where an entry is put in. -/
def atP (l : List Entry) (s : ByteArray) (k : Nat) : Bool := !ltB (nth l k).name s
def atOf (l : List Entry) (s : ByteArray) : Nat := (firstTo (atP l s) l.length).getD l.length
def insE (l : List Entry) (e : Entry) : List Entry := l.take (atOf l e.name) ++ [e] ++ l.drop (atOf l e.name)
def addOk (l : List Entry) (e : Entry) : Bool := regB l && entryB e && decide (findI l e.name < 0) && decide (l.length < 6)
def addL (l : List Entry) (e : Entry) : List Entry := if addOk l e then insE l e else l
theorem c_impl_AddEntry (l : List Entry) (e : Entry) (hl : l.length ≤ 1048576) (hf : ∀ e ∈ l, e.fit) (he : e.fit) : FunR Try.prog 17 none [encS l, enc e] (.tup [encS (addL l e), .bool (addOk l e)]) [] [(0, 5)] := by
  refine FunR.ofV vc_impl_AddEntry_ok ty_impl_AddEntry_ok rt_impl_AddEntry_ok rfl ?_ (fun hfit => ?_)
  · exact ⟨ty_EntryS l, ty_Entry e, trivial⟩
  unfold vc_impl_AddEntry
  ((first | refine den_call ?_ (c_impl_IsRegistry l) (trivial) ?_ | refine den_callR ?_ (c_impl_IsRegistry l) (trivial) ?_ | refine den_call ?_ (.ofR (c_impl_IsRegistry l)) (trivial) ?_); (focus (simp only [VC.den, E.den, dEq, gsH_nil, and_true]; try exact rfl)); (simp only [List.cons_append, List.nil_append]))
  ((first | refine den_call ?_ (c_impl_IsEntry e) (trivial) ?_ | refine den_callR ?_ (c_impl_IsEntry e) (trivial) ?_ | refine den_call ?_ (.ofR (c_impl_IsEntry e)) (trivial) ?_); (focus (simp only [VC.den, E.den, dEq, gsH_nil, and_true]; try exact rfl)); (simp only [List.cons_append, List.nil_append]))
  ((first | refine den_call ?_ (c_impl_FindEntry l e.name) (rfl) ?_ | refine den_callR ?_ (c_impl_FindEntry l e.name) (rfl) ?_ | refine den_call ?_ (.ofR (c_impl_FindEntry l e.name)) (rfl) ?_); (focus (simp only [VC.den, E.den, dEq, gsH_nil, and_true, cells_Entry]; try exact rfl)); (simp only [List.cons_append, List.nil_append]))
  refine den_ite (fun h => ?_) (fun h => ?_)
  · simp only [E.den, dEq, iEq, sEq] at h
    have ho : addOk l e = false := by unfold addOk; grind
    ((first | refine den_call ?_ (c_impl_copyEntries l hl hf) (ty_EntryS _) ?_ | refine den_callR ?_ (c_impl_copyEntries l hl hf) (ty_EntryS _) ?_ | refine den_call ?_ (.ofR (c_impl_copyEntries l hl hf)) (ty_EntryS _) ?_); (focus (simp only [VC.den, E.den, dEq, gsH_nil, and_true]; try exact rfl)); (simp only [List.cons_append, List.nil_append]))
    exact den_ret (by simp [E.den, addL, ho])
  simp only [E.den, dEq, iEq, sEq] at h
  have ho : addOk l e = true := by unfold addOk; grind
  refine den_for l.length (fun k => [.int .i64 k]) (fun k => ∀ i, i < k → atP l e.name i = false) rfl (by omega) ?_
  intro k hk hI _
  simp only [List.cons_append, List.nil_append]
  (refine den_cond (fun hg => ?_) ?_; (focus (simp only [gsH, List.mem_cons, List.not_mem_nil, or_false, forall_eq_or_imp, forall_eq, E.den, dEq, iEq, sEq] at hg ⊢; (try simp only [D.bool.injEq] at hg); (try simp only [D.bool.injEq]); grind)))
  refine den_ite (fun h2 => ?_) (fun h2 => ?_)
  · simp only [E.den, dEq, iEq, sEq, row_Entry, cells_Entry] at h2
    have h3 : k < l.length := by simp at h2; exact h2.1
    refine den_next h3 ?_ fun i hi => ?_
    · simp only [E.den, dEq, iEq, sEq]
      rw [ar_add (by omega) (by omega)]; rfl
    · rcases Nat.lt_or_ge i k with h | h
      · exact hI i h
      · obtain rfl : i = k := by omega
        unfold atP; grind
  simp only [E.den, dEq, iEq, sEq, row_Entry, cells_Entry] at h2
  have hat : atOf l e.name = k := by
    unfold atOf
    rcases Nat.lt_or_ge k l.length with hlt | hge
    · rw [firstTo_some (p := atP l e.name) (k := k) (by unfold atP; grind) hI hlt]; rfl
    · obtain rfl : k = l.length := by omega
      rw [firstTo_none hI]; rfl
  have hc1 : cutD (encS l) 0 (k : Int) = encS (l.take k) := by simp [cutD, encS, List.map_take]
  have hc2 : cutD (encS l) (k : Int) (l.length : Int) = encS (l.drop k) := by
    simp [cutD, encS, List.map_drop]
    rw [List.take_of_length_le (by simp)]
  have hz1 : (l.take k).length ≤ 1048576 := by simp; omega
  have hz2 : (l.drop k).length ≤ 1048576 := by simp; omega
  refine den_cond (fun _ => ?_) ?_
  · simp [E.den]; omega
  ((first | refine den_call ?_ (c_impl_copyEntries (l.take k) hz1 (fun x hx => hf x (List.mem_of_mem_take hx))) (ty_EntryS _) ?_ | refine den_callR ?_ (c_impl_copyEntries (l.take k) hz1 (fun x hx => hf x (List.mem_of_mem_take hx))) (ty_EntryS _) ?_ | refine den_call ?_ (.ofR (c_impl_copyEntries (l.take k) hz1 (fun x hx => hf x (List.mem_of_mem_take hx)))) (ty_EntryS _) ?_); (focus (simp only [VC.den, E.den, dEq, gsH_nil, and_true, hc1]; try exact rfl)); (simp only [List.cons_append, List.nil_append]))
  ((first | refine den_call ?_ (c_impl_copyEntry e he) (ty_Entry _) ?_ | refine den_callR ?_ (c_impl_copyEntry e he) (ty_Entry _) ?_ | refine den_call ?_ (.ofR (c_impl_copyEntry e he)) (ty_Entry _) ?_); (focus (simp only [VC.den, E.den, dEq, gsH_nil, and_true]; try exact rfl)); (simp only [List.cons_append, List.nil_append]))
  refine den_cond (fun _ => ?_) ?_
  · simp [E.den]; omega
  refine den_cond (fun _ => ?_) ?_
  · simp [E.den]; omega
  ((first | refine den_call ?_ (c_impl_copyEntries (l.drop k) hz2 (fun x hx => hf x (List.mem_of_mem_drop hx))) (ty_EntryS _) ?_ | refine den_callR ?_ (c_impl_copyEntries (l.drop k) hz2 (fun x hx => hf x (List.mem_of_mem_drop hx))) (ty_EntryS _) ?_ | refine den_call ?_ (.ofR (c_impl_copyEntries (l.drop k) hz2 (fun x hx => hf x (List.mem_of_mem_drop hx)))) (ty_EntryS _) ?_); (focus (simp only [VC.den, E.den, dEq, gsH_nil, and_true, hc2]; try exact rfl)); (simp only [List.cons_append, List.nil_append]))
  refine den_cond (fun _ => ?_) (den_ret ?_)
  · simp [E.den]; omega
  · simp [E.den, addL, ho, insE, hat, encS]
theorem bl_asymm : ∀ {a b : List UInt8}, Op.bytesLess a b = true → Op.bytesLess b a = false
  | [], [], h => by simp [Op.bytesLess] at h
  | [], _ :: _, _ => by simp [Op.bytesLess]
  | _ :: _, [], h => by simp [Op.bytesLess] at h
  | x :: a, y :: b, h => by
    simp only [Op.bytesLess] at h ⊢
    by_cases e : x = y
    · subst e; simp at h ⊢; exact bl_asymm h
    · have e' : ¬ y = x := fun h => e h.symm
      simp [e, e'] at h ⊢
      exact UInt8.le_of_lt h
theorem bl_total : ∀ {a b : List UInt8}, a ≠ b → Op.bytesLess a b = false → Op.bytesLess b a = true
  | [], [], h, _ => by simp at h
  | [], _ :: _, _, h => by simp [Op.bytesLess] at h
  | _ :: _, [], _, _ => by simp [Op.bytesLess]
  | x :: a, y :: b, hn, h => by
    simp only [Op.bytesLess] at h ⊢
    by_cases e : x = y
    · subst e; simp at h hn ⊢; exact bl_total hn h
    · have e' : ¬ y = x := fun h => e h.symm
      simp [e, e'] at h ⊢
      exact UInt8.lt_of_le_of_ne h e'
theorem ltB_asymm {a b : ByteArray} (h : ltB a b = true) : ltB b a = false := bl_asymm h
theorem ltB_total {a b : ByteArray} (hn : a ≠ b) (h : ltB a b = false) : ltB b a = true :=
  bl_total (fun e => hn (by have := toList_eqB a b; rw [e] at this; simpa using this.symm)) h
theorem cmpS_gtr (a b : ByteArray) : cmpS .gtr a b = !(ltB a b || decide (a = b)) := by rw [← toList_eqB]; rfl
theorem firstTo_no {p : Nat → Bool} : ∀ {n : Nat}, firstTo p n = none → ∀ i, i < n → p i = false
  | 0, _, i, h => by omega
  | n + 1, h, i, hi => by
    simp only [firstTo] at h
    split at h
    · cases h
    · rename_i hn
      split at h
      · cases h
      · rename_i hp
        by_cases e : i = n
        · subst e; simpa using hp
        · exact firstTo_no hn i (by omega)
theorem atOf_spec (l : List Entry) (s : ByteArray) : atOf l s ≤ l.length ∧ (∀ i, i < atOf l s → atP l s i = false) ∧ (atOf l s < l.length → atP l s (atOf l s) = true) := by
  unfold atOf
  cases h : firstTo (atP l s) l.length with
  | none => exact ⟨Nat.le_refl _, firstTo_no h, fun h => absurd h (Nat.lt_irrefl _)⟩
  | some k => obtain ⟨h1, h2, h3⟩ := firstTo_lt h; exact ⟨Nat.le_of_lt h1, h3, fun _ => h2⟩
theorem findI_none {l : List Entry} {s : ByteArray} (h : findI l s < 0) {k : Nat} (hk : k < l.length) : (nth l k).name ≠ s := by
  unfold findI at h
  cases hf : findO l s with
  | none => have := firstTo_no hf k hk; simpa using this
  | some j => rw [hf] at h; simp only at h; omega
def outK (l : List Entry) (e : Entry) (k : Nat) : List Entry := if atOf l e.name < k then l.take (atOf l e.name) ++ [e] ++ (l.take k).drop (atOf l e.name) else l.take k
theorem outK_done {l : List Entry} {e : Entry} {k : Nat} (hk : k < l.length) (h : atOf l e.name < k) : outK l e (k + 1) = outK l e k ++ [nth l k] := by
  unfold outK
  rw [if_pos h, if_pos (by omega), take_snoc l hk, List.drop_append_of_le_length (by simp; omega)]
  simp
theorem outK_at {l : List Entry} {e : Entry} {k : Nat} (hk : k < l.length) (h : atOf l e.name = k) : outK l e (k + 1) = outK l e k ++ [e] ++ [nth l k] := by
  unfold outK
  simp only [h]
  rw [if_pos (Nat.lt_succ_self k), if_neg (Nat.lt_irrefl k), take_snoc l hk, List.drop_append_of_le_length (by simp; omega)]
  simp
theorem outK_not {l : List Entry} {e : Entry} {k : Nat} (hk : k < l.length) (h : k < atOf l e.name) : outK l e (k + 1) = outK l e k ++ [nth l k] := by
  unfold outK
  rw [if_neg (by omega), if_neg (by omega), take_snoc l hk]
theorem outK_len (l : List Entry) (e : Entry) (k : Nat) (hk : k ≤ l.length) : (outK l e k).length ≤ k + 1 := by
  unfold outK
  split <;> simp <;> omega
theorem c_spec_AddEntry (l : List Entry) (e : Entry) (hl : l.length ≤ 1048576) (hf : ∀ e ∈ l, e.fit) (he : e.fit) : FunR Try.prog 18 none [encS l, enc e] (.tup [encS (addL l e), .bool (addOk l e)]) [] [(0, 5)] := by
  refine FunR.ofV vc_spec_AddEntry_ok ty_spec_AddEntry_ok rt_spec_AddEntry_ok rfl ?_ (fun hfit => ?_)
  · exact ⟨ty_EntryS l, ty_Entry e, trivial⟩
  unfold vc_spec_AddEntry
  ((first | refine den_call ?_ (c_spec_IsRegistry l) (trivial) ?_ | refine den_callR ?_ (c_spec_IsRegistry l) (trivial) ?_ | refine den_call ?_ (.ofR (c_spec_IsRegistry l)) (trivial) ?_); (focus (simp only [VC.den, E.den, dEq, gsH_nil, and_true]; try exact rfl)); (simp only [List.cons_append, List.nil_append]))
  ((first | refine den_call ?_ (c_spec_IsEntry e) (trivial) ?_ | refine den_callR ?_ (c_spec_IsEntry e) (trivial) ?_ | refine den_call ?_ (.ofR (c_spec_IsEntry e)) (trivial) ?_); (focus (simp only [VC.den, E.den, dEq, gsH_nil, and_true]; try exact rfl)); (simp only [List.cons_append, List.nil_append]))
  ((first | refine den_call ?_ (c_spec_FindEntry l e.name) (rfl) ?_ | refine den_callR ?_ (c_spec_FindEntry l e.name) (rfl) ?_ | refine den_call ?_ (.ofR (c_spec_FindEntry l e.name)) (rfl) ?_); (focus (simp only [VC.den, E.den, dEq, gsH_nil, and_true, cells_Entry]; try exact rfl)); (simp only [List.cons_append, List.nil_append]))
  have hreg : regB l = true → l.length ≤ 6 := fun h => by unfold regB at h; grind
  refine den_ite (fun h => ?_) (fun h => ?_)
  · simp only [E.den, dEq, iEq, sEq] at h
    have ho : addOk l e = false := by unfold addOk; grind
    ((first | refine den_call ?_ (c_spec_l6Copies l hl hf) (ty_EntryS _) ?_ | refine den_callR ?_ (c_spec_l6Copies l hl hf) (ty_EntryS _) ?_ | refine den_call ?_ (.ofR (c_spec_l6Copies l hl hf)) (ty_EntryS _) ?_); (focus (simp only [VC.den, E.den, dEq, gsH_nil, and_true]; try exact rfl)); (simp only [List.cons_append, List.nil_append]))
    exact den_ret (by simp [E.den, addL, ho])
  simp only [E.den, dEq, iEq, sEq] at h
  have ho : addOk l e = true := by unfold addOk; grind
  have hno : findI l e.name < 0 := by grind
  obtain ⟨a1, a2, a3⟩ := atOf_spec l e.name
  refine den_for l.length (fun k => [.bool (decide (atOf l e.name < k)), encS (outK l e k), .int .i64 k]) (fun _ => True) (by simp [E.den, outK, encS]) trivial ?_
  intro k hk _ _
  simp only [List.cons_append, List.nil_append]
  have hol := outK_len l e k hk
  refine den_ite (fun h2 => ?_) (fun h2 => ?_)
  · simp only [E.den, dEq, iEq, sEq] at h2
    have h2 : k < l.length := by simp at h2; exact h2
    have hne := findI_none hno h2
    (refine den_cond (fun hg => ?_) ?_; (focus (simp only [gsH, List.mem_cons, List.not_mem_nil, or_false, forall_eq_or_imp, forall_eq, E.den, dEq, iEq, sEq] at hg ⊢; (try simp only [D.bool.injEq] at hg); (try simp only [D.bool.injEq]); grind)))
    refine den_ite (fun h3 => ?_) (fun h3 => ?_)
    · simp only [E.den, dEq, iEq, sEq, row_Entry, cells_Entry, cmpS_gtr] at h3
      have h4 : k ≤ atOf l e.name := by grind
      have h5 : ltB (nth l k).name e.name = false := by grind
      have h6 : atOf l e.name = k := by
        rcases Nat.lt_or_ge k (atOf l e.name) with h | h
        · have := a2 k h; unfold atP at this; rw [h5] at this; cases this
        · omega
      ((first | refine den_call ?_ (c_spec_l6Copy e he) (ty_Entry _) ?_ | refine den_callR ?_ (c_spec_l6Copy e he) (ty_Entry _) ?_ | refine den_call ?_ (.ofR (c_spec_l6Copy e he)) (ty_Entry _) ?_); (focus (simp only [VC.den, E.den, dEq, gsH_nil, and_true]; try exact rfl)); (simp only [List.cons_append, List.nil_append]))
      refine den_cond (fun _ => ?_) ?_
      · simp [E.den]; omega
      ((first | refine den_call ?_ (c_spec_l6Copy (nth l k) (hf _ (nth_mem h2))) (ty_Entry _) ?_ | refine den_callR ?_ (c_spec_l6Copy (nth l k) (hf _ (nth_mem h2))) (ty_Entry _) ?_ | refine den_call ?_ (.ofR (c_spec_l6Copy (nth l k) (hf _ (nth_mem h2)))) (ty_Entry _) ?_); (focus (simp only [VC.den, E.den, dEq, gsH_nil, and_true, row_Entry, Int.toNat_natCast]; try exact rfl)); (simp only [List.cons_append, List.nil_append]))
      refine den_cond (fun _ => ?_) ?_
      · simp [E.den]; omega
      refine den_next h2 ?_ trivial
      rw [outK_at h2 h6]
      simp [E.den, encS, h6]
      rw [ar_add (by omega) (by omega)]
    · simp only [E.den, dEq, iEq, sEq, row_Entry, cells_Entry, cmpS_gtr] at h3
      ((first | refine den_call ?_ (c_spec_l6Copy (nth l k) (hf _ (nth_mem h2))) (ty_Entry _) ?_ | refine den_callR ?_ (c_spec_l6Copy (nth l k) (hf _ (nth_mem h2))) (ty_Entry _) ?_ | refine den_call ?_ (.ofR (c_spec_l6Copy (nth l k) (hf _ (nth_mem h2)))) (ty_Entry _) ?_); (focus (simp only [VC.den, E.den, dEq, gsH_nil, and_true, row_Entry, Int.toNat_natCast]; try exact rfl)); (simp only [List.cons_append, List.nil_append]))
      refine den_cond (fun _ => ?_) ?_
      · simp [E.den]; omega
      refine den_next h2 ?_ trivial
      rcases Nat.lt_or_ge (atOf l e.name) k with h4 | h4
      · rw [outK_done h2 h4]
        simp [E.den, encS, h4, show atOf l e.name < k + 1 by omega]
        rw [ar_add (by omega) (by omega)]
      · have h5 : ltB (nth l k).name e.name = true := by grind
        have h6 : k < atOf l e.name := by
          rcases Nat.lt_or_ge k (atOf l e.name) with h | h
          · exact h
          · exfalso
            have h7 : atOf l e.name = k := by omega
            have := a3 (by omega)
            rw [h7] at this
            unfold atP at this; rw [h5] at this; cases this
        rw [outK_not h2 h6]
        simp [E.den, encS, show ¬ atOf l e.name < k by omega, show ¬ atOf l e.name < k + 1 by omega]
        rw [ar_add (by omega) (by omega)]
  · simp only [E.den, dEq, iEq, sEq] at h2
    obtain rfl : k = l.length := by simp at h2; omega
    refine den_ite (fun h3 => ?_) (fun h3 => ?_)
    · simp only [E.den, dEq, iEq, sEq] at h3
      have h4 : atOf l e.name = l.length := by
        have : ¬ atOf l e.name < l.length := by grind
        omega
      ((first | refine den_call ?_ (c_spec_l6Copy e he) (ty_Entry _) ?_ | refine den_callR ?_ (c_spec_l6Copy e he) (ty_Entry _) ?_ | refine den_call ?_ (.ofR (c_spec_l6Copy e he)) (ty_Entry _) ?_); (focus (simp only [VC.den, E.den, dEq, gsH_nil, and_true]; try exact rfl)); (simp only [List.cons_append, List.nil_append]))
      refine den_cond (fun _ => ?_) (den_ret ?_)
      · simp [E.den]; omega
      · simp [E.den, addL, ho, insE, h4, outK, encS]
    · simp only [E.den, dEq, iEq, sEq] at h3
      have h4 : atOf l e.name < l.length := by grind
      refine den_ret ?_
      simp [E.den, addL, ho, insE, outK, h4]
def remOk (l : List Entry) (s : ByteArray) : Bool := regB l && decide (0 ≤ findI l s)
def remL (l : List Entry) (s : ByteArray) : List Entry := if remOk l s then l.take (findI l s).toNat ++ l.drop ((findI l s).toNat + 1) else l
theorem findI_some {l : List Entry} {s : ByteArray} (h : 0 ≤ findI l s) : ∃ i : Nat, findI l s = (i : Int) ∧ i < l.length ∧ (nth l i).name = s := by
  unfold findI at h ⊢
  cases hf : findO l s with
  | none => rw [hf] at h; simp at h
  | some k =>
    obtain ⟨h1, h2, _⟩ := firstTo_lt hf
    exact ⟨k, rfl, h1, by simpa using h2⟩
theorem nth_insE (l : List Entry) (e : Entry) (k : Nat) : nth (insE l e) k = if k < atOf l e.name then nth l k else if k = atOf l e.name then e else nth l (k - 1) := by
  have ha := (atOf_spec l e.name).1
  generalize hA : atOf l e.name = a at ha
  unfold nth insE
  rw [hA]
  simp only [List.getD_eq_getElem?_getD, List.append_assoc, List.singleton_append]
  rw [List.getElem?_append, List.length_take, Nat.min_eq_left ha]
  by_cases h : k < a
  · rw [if_pos h, if_pos h, List.getElem?_take_of_lt h]
  · rw [if_neg h, if_neg h]
    by_cases h2 : k = a
    · rw [if_pos h2, h2]; simp
    · rw [if_neg h2]
      obtain ⟨j, hj⟩ : ∃ j, k - a = j + 1 := ⟨k - a - 1, by omega⟩
      rw [hj, List.getElem?_cons_succ, List.getElem?_drop, show a + j = k - 1 by omega]
theorem len_insE (l : List Entry) (e : Entry) : (insE l e).length = l.length + 1 := by
  have ha := (atOf_spec l e.name).1
  unfold insE
  simp only [List.length_append, List.length_take, List.length_drop, List.length_cons, List.length_nil]
  omega
theorem ltB_ne {a b : ByteArray} (h : ltB a b = true) : a ≠ b := fun e => by
  subst e
  rw [ltB_asymm h] at h; cases h
theorem addOk_parts {l : List Entry} {e : Entry} (h : addOk l e = true) : regB l = true ∧ entryB e = true ∧ findI l e.name < 0 ∧ l.length < 6 := by
  unfold addOk at h
  simp only [Bool.and_eq_true, decide_eq_true_eq] at h
  exact ⟨h.1.1.1, h.1.1.2, h.1.2, h.2⟩
theorem reg_ins {l : List Entry} {e : Entry} (h : addOk l e = true) : regB (insE l e) = true := by
  obtain ⟨h1, h2, h3, h4⟩ := addOk_parts h
  obtain ⟨a1, a2, a3⟩ := atOf_spec l e.name
  have hr : ∀ k, k < l.length → entryB (nth l k) = true ∧ (k = 0 ∨ ltB (nth l (k - 1)).name (nth l k).name = true) := fun k hk => by
    unfold regB at h1
    simp only [Bool.and_eq_true] at h1
    have := allTo_iff.1 h1.2 k hk
    unfold entryAt at this
    simpa using this
  unfold regB
  simp only [Bool.and_eq_true, decide_eq_true_eq]
  refine ⟨by rw [len_insE]; omega, allTo_iff.2 fun k hk => ?_⟩
  rw [len_insE] at hk
  have hlt : ∀ i, i < atOf l e.name → ltB (nth l i).name e.name = true := fun i hi => by
    have := a2 i hi
    unfold atP at this
    simpa using this
  have hge : atOf l e.name < l.length → ltB e.name (nth l (atOf l e.name)).name = true := fun hl => by
    have := a3 hl
    unfold atP at this
    exact ltB_total (findI_none h3 hl) (by simpa using this)
  unfold entryAt
  simp only [Bool.and_eq_true, Bool.or_eq_true, beq_iff_eq]
  simp only [nth_insE]
  by_cases c1 : k < atOf l e.name
  · rw [if_pos c1, if_pos (show k - 1 < atOf l e.name by omega)]
    exact hr k (by omega)
  · rw [if_neg c1]
    by_cases c2 : k = atOf l e.name
    · rw [if_pos c2]
      refine ⟨h2, ?_⟩
      by_cases c0 : k = 0
      · exact .inl c0
      · rw [if_pos (show k - 1 < atOf l e.name by omega)]
        exact .inr (hlt _ (by omega))
    · rw [if_neg c2, if_neg (show ¬ k - 1 < atOf l e.name by omega)]
      refine ⟨(hr (k - 1) (by omega)).1, .inr ?_⟩
      by_cases c3 : k - 1 = atOf l e.name
      · rw [if_pos c3, c3]
        exact hge (by omega)
      · rw [if_neg c3]
        rcases (hr (k - 1) (by omega)).2 with c4 | c4
        · omega
        · exact c4
theorem find_ins {l : List Entry} {e : Entry} : findI (insE l e) e.name = (atOf l e.name : Int) := by
  obtain ⟨a1, a2, a3⟩ := atOf_spec l e.name
  unfold findI findO
  rw [firstTo_some (p := fun k => decide ((nth (insE l e) k).name = e.name)) (k := atOf l e.name) (by simp [nth_insE]) (fun i hi => by
    have := a2 i hi
    unfold atP at this
    have := ltB_ne (a := (nth l i).name) (b := e.name) (by simpa using this)
    simpa [nth_insE, hi] using this) (by rw [len_insE]; omega)]
theorem rem_ins {l : List Entry} {e : Entry} (h : addOk l e = true) : remOk (insE l e) e.name = true ∧ remL (insE l e) e.name = l := by
  have ha := (atOf_spec l e.name).1
  have ho : remOk (insE l e) e.name = true := by
    unfold remOk
    rw [reg_ins h, find_ins]; simp
  refine ⟨ho, ?_⟩
  unfold remL
  rw [if_pos ho, find_ins, Int.toNat_natCast]
  unfold insE
  have h1 : (l.take (atOf l e.name)).length = atOf l e.name := by rw [List.length_take]; omega
  rw [List.append_assoc, List.take_append_of_le_length (by omega), List.take_of_length_le (by omega), List.drop_append, h1, List.drop_eq_nil_of_le (by omega)]
  simp
end Go.Proofs.Ythoafgehfgblaaa
