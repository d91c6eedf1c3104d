/- Needs, entries, registries, providers: what the program and the reference compute. -/
import Derived.Test.YtgaeigomhhbkfaaGreatBPart
namespace Go.Proofs.YtgaeigomhhbkfaaGreat
open Go.RowKit Go
set_option linter.unusedVariables false
set_option linter.unusedSimpArgs false
set_option maxRecDepth 100000
set_option linter.unusedSectionVars false
variable [GC]
def noText : ByteArray := ⟨#[]⟩
def needB (n : Need) : Bool := isFaceB n.face && !decide (n.face = 0) && (decide (n.frm = noText) || nameB n.frm) && n.least.ok
theorem c_impl_IsNeed (n : Need) : Fun Tryz.prog 95 none [enc n] (.bool (needB n)) [] := by
  refine Fun.ofV vc_impl_IsNeed_ok ty_impl_IsNeed_ok rfl ?_ (fun hfit => ?_)
  · exact ⟨ty_Need n, trivial⟩
  unfold vc_impl_IsNeed
  ((first | refine den_call ?_ (c_impl_IsFace n.face) (trivial) ?_ | refine den_callR ?_ (c_impl_IsFace n.face) (trivial) ?_ | refine den_call ?_ (.ofR (c_impl_IsFace n.face)) (trivial) ?_); (focus (simp only [VC.den, E.den, dEq, gsH_nil, and_true, cells_Need]; try exact rfl)); (simp only [List.cons_append, List.nil_append]))
  ((first | refine den_call ?_ (c_impl_IsName n.frm) (trivial) ?_ | refine den_callR ?_ (c_impl_IsName n.frm) (trivial) ?_ | refine den_call ?_ (.ofR (c_impl_IsName n.frm)) (trivial) ?_); (focus (simp only [VC.den, E.den, dEq, gsH_nil, and_true, cells_Need]; try exact rfl)); (simp only [List.cons_append, List.nil_append]))
  ((first | refine den_call ?_ (c_impl_IsVersion n.least) (trivial) ?_ | refine den_callR ?_ (c_impl_IsVersion n.least) (trivial) ?_ | refine den_call ?_ (.ofR (c_impl_IsVersion n.least)) (trivial) ?_); (focus (simp only [VC.den, E.den, dEq, gsH_nil, and_true, cells_Need]; try exact rfl)); (simp only [List.cons_append, List.nil_append]))
  refine den_ret ?_
  simp only [E.den, dEq, iEq, sEq, cells_Need]
  simp only [D.bool.injEq]
  unfold needB noText; grind
theorem c_spec_IsNeed (n : Need) : Fun Tryz.prog 79 none [enc n] (.bool (needB n)) [] := by
  refine Fun.ofV vc_spec_IsNeed_ok ty_spec_IsNeed_ok rfl ?_ (fun hfit => ?_)
  · exact ⟨ty_Need n, trivial⟩
  unfold vc_spec_IsNeed
  ((first | refine den_call ?_ (c_spec_IsFace' n.face) (trivial) ?_ | refine den_callR ?_ (c_spec_IsFace' n.face) (trivial) ?_ | refine den_call ?_ (.ofR (c_spec_IsFace' n.face)) (trivial) ?_); (focus (simp only [VC.den, E.den, dEq, gsH_nil, and_true, cells_Need]; try exact rfl)); (simp only [List.cons_append, List.nil_append]))
  ((first | refine den_call ?_ (c_spec_IsName n.frm) (trivial) ?_ | refine den_callR ?_ (c_spec_IsName n.frm) (trivial) ?_ | refine den_call ?_ (.ofR (c_spec_IsName n.frm)) (trivial) ?_); (focus (simp only [VC.den, E.den, dEq, gsH_nil, and_true, cells_Need]; try exact rfl)); (simp only [List.cons_append, List.nil_append]))
  ((first | refine den_call ?_ (c_spec_IsVersion n.least) (trivial) ?_ | refine den_callR ?_ (c_spec_IsVersion n.least) (trivial) ?_ | refine den_call ?_ (.ofR (c_spec_IsVersion n.least)) (trivial) ?_); (focus (simp only [VC.den, E.den, dEq, gsH_nil, and_true, cells_Need]; try exact rfl)); (simp only [List.cons_append, List.nil_append]))
  refine den_ret ?_
  simp only [E.den, dEq, iEq, sEq, cells_Need]
  simp only [D.bool.injEq]
  unfold needB noText; grind
def needAt (e : Entry) (k : Nat) : Bool := needB (nth e.needs k) && !decide ((nth e.needs k).frm = e.name)
def entryB (e : Entry) : Bool := recOk e.recipe && nameB e.name && e.ver.ok && decide (e.needs.length ≤ 3) && allTo (needAt e) e.needs.length
theorem c_impl_IsEntry (e : Entry) : Fun Tryz.prog 60 none [enc e] (.bool (entryB e)) [] := by
  refine Fun.ofV vc_impl_IsEntry_ok ty_impl_IsEntry_ok rfl ?_ (fun hfit => ?_)
  · exact ⟨ty_Entry e, trivial⟩
  unfold vc_impl_IsEntry
  ((first | refine den_call ?_ (c_impl_RecipeFace e.recipe) (⟨rfl, trivial, trivial⟩) ?_ | refine den_callR ?_ (c_impl_RecipeFace e.recipe) (⟨rfl, trivial, trivial⟩) ?_ | refine den_call ?_ (.ofR (c_impl_RecipeFace e.recipe)) (⟨rfl, trivial, trivial⟩) ?_); (focus (simp only [VC.den, E.den, dEq, gsH_nil, and_true, cells_Entry]; try exact rfl)); (simp only [List.cons_append, List.nil_append]))
  ((first | refine den_call ?_ (c_impl_IsName e.name) (trivial) ?_ | refine den_callR ?_ (c_impl_IsName e.name) (trivial) ?_ | refine den_call ?_ (.ofR (c_impl_IsName e.name)) (trivial) ?_); (focus (simp only [VC.den, E.den, dEq, gsH_nil, and_true, cells_Entry]; try exact rfl)); (simp only [List.cons_append, List.nil_append]))
  ((first | refine den_call ?_ (c_impl_IsVersion e.ver) (trivial) ?_ | refine den_callR ?_ (c_impl_IsVersion e.ver) (trivial) ?_ | refine den_call ?_ (.ofR (c_impl_IsVersion e.ver)) (trivial) ?_); (focus (simp only [VC.den, E.den, dEq, gsH_nil, and_true, cells_Entry]; try exact rfl)); (simp only [List.cons_append, List.nil_append]))
  refine den_ite (fun h => ?_) (fun h => ?_)
  · simp only [E.den, dEq, iEq, sEq, cells_Entry] at h
    refine den_ret ?_
    simp only [E.den, D.bool.injEq]
    unfold entryB; grind
  simp only [E.den, dEq, iEq, sEq, cells_Entry] at h
  have h1 : recOk e.recipe = true := by grind
  have h2 : nameB e.name = true := by grind
  have h3 : e.ver.ok = true := by grind
  have h4 : e.needs.length ≤ 3 := by grind
  refine den_for e.needs.length (fun k => [.int .i64 k]) (fun k => allTo (needAt e) k = true) rfl rfl ?_
  intro k hk hI _
  simp only [List.cons_append, List.nil_append]
  refine den_ite (fun h5 => ?_) (fun h5 => ?_)
  · simp only [E.den, dEq, iEq, sEq, cells_Entry] at h5
    have h5 : k < e.needs.length := by simp at h5; exact h5
    (refine den_cond (fun hg => ?_) ?_; (focus (simp only [gsH, List.mem_cons, List.not_mem_nil, or_false, forall_eq_or_imp, forall_eq, E.den, dEq, iEq, sEq, cells_Entry] at hg ⊢; (try simp only [D.bool.injEq] at hg); (try simp only [D.bool.injEq]); grind)))
    ((first | refine den_call ?_ (c_impl_IsNeed (nth e.needs k)) (trivial) ?_ | refine den_callR ?_ (c_impl_IsNeed (nth e.needs k)) (trivial) ?_ | refine den_call ?_ (.ofR (c_impl_IsNeed (nth e.needs k))) (trivial) ?_); (focus (simp only [VC.den, E.den, dEq, gsH_nil, and_true, cells_Entry, row_Need]; try exact rfl)); (simp only [List.cons_append, List.nil_append]))
    refine den_ite (fun h6 => ?_) (fun h6 => ?_)
    · simp only [E.den, dEq, iEq, sEq, cells_Entry, row_Need, cells_Need] at h6
      have hb : needAt e k = false := by unfold needAt; grind
      refine den_ret ?_
      simp [E.den, entryB, allTo_bad h5 hb]
    · simp only [E.den, dEq, iEq, sEq, cells_Entry, row_Need, cells_Need] at h6
      have hb : needAt e k = true := by unfold needAt; grind
      refine den_next h5 ?_ (show (allTo (needAt e) k && needAt e k) = true by rw [hI, hb]; rfl)
      simp only [E.den, dEq, iEq, sEq]
      rw [ar_add (by omega) (by omega)]; rfl
  · simp only [E.den, dEq, iEq, sEq, cells_Entry] at h5
    obtain rfl : k = e.needs.length := by simp at h5; omega
    exact den_ret (by simp [E.den, entryB, hI, h1, h2, h3, h4])

theorem c_spec_IsEntry (e : Entry) : Fun Tryz.prog 44 none [enc e] (.bool (entryB e)) [] := by
  refine Fun.ofV vc_spec_IsEntry_ok ty_spec_IsEntry_ok rfl ?_ (fun hfit => ?_)
  · exact ⟨ty_Entry e, trivial⟩
  unfold vc_spec_IsEntry
  ((first | refine den_call ?_ (c_spec_RecipeFace e.recipe) (⟨rfl, trivial, trivial⟩) ?_ | refine den_callR ?_ (c_spec_RecipeFace e.recipe) (⟨rfl, trivial, trivial⟩) ?_ | refine den_call ?_ (.ofR (c_spec_RecipeFace e.recipe)) (⟨rfl, trivial, trivial⟩) ?_); (focus (simp only [VC.den, E.den, dEq, gsH_nil, and_true, cells_Entry]; try exact rfl)); (simp only [List.cons_append, List.nil_append]))
  ((first | refine den_call ?_ (c_spec_IsName e.name) (trivial) ?_ | refine den_callR ?_ (c_spec_IsName e.name) (trivial) ?_ | refine den_call ?_ (.ofR (c_spec_IsName e.name)) (trivial) ?_); (focus (simp only [VC.den, E.den, dEq, gsH_nil, and_true, cells_Entry]; try exact rfl)); (simp only [List.cons_append, List.nil_append]))
  ((first | refine den_call ?_ (c_spec_IsVersion e.ver) (trivial) ?_ | refine den_callR ?_ (c_spec_IsVersion e.ver) (trivial) ?_ | refine den_call ?_ (.ofR (c_spec_IsVersion e.ver)) (trivial) ?_); (focus (simp only [VC.den, E.den, dEq, gsH_nil, and_true, cells_Entry]; try exact rfl)); (simp only [List.cons_append, List.nil_append]))
  refine den_ite (fun h => ?_) (fun h => ?_)
  · simp only [E.den, dEq, iEq, sEq, cells_Entry] at h
    refine den_ret ?_
    simp only [E.den, D.bool.injEq]
    unfold entryB; grind
  simp only [E.den, dEq, iEq, sEq, cells_Entry] at h
  have h1 : recOk e.recipe = true := by grind
  have h2 : nameB e.name = true := by grind
  have h3 : e.ver.ok = true := by grind
  have h4 : e.needs.length ≤ 3 := by grind
  refine den_for e.needs.length (fun k => [.int .i64 k]) (fun k => allTo (needAt e) k = true) rfl rfl ?_
  intro k hk hI _
  simp only [List.cons_append, List.nil_append]
  refine den_ite (fun h5 => ?_) (fun h5 => ?_)
  · simp only [E.den, dEq, iEq, sEq, cells_Entry] at h5
    have h5 : k < e.needs.length := by simp at h5; exact h5
    (refine den_cond (fun hg => ?_) ?_; (focus (simp only [gsH, List.mem_cons, List.not_mem_nil, or_false, forall_eq_or_imp, forall_eq, E.den, dEq, iEq, sEq, cells_Entry] at hg ⊢; (try simp only [D.bool.injEq] at hg); (try simp only [D.bool.injEq]); grind)))
    ((first | refine den_call ?_ (c_spec_IsNeed (nth e.needs k)) (trivial) ?_ | refine den_callR ?_ (c_spec_IsNeed (nth e.needs k)) (trivial) ?_ | refine den_call ?_ (.ofR (c_spec_IsNeed (nth e.needs k))) (trivial) ?_); (focus (simp only [VC.den, E.den, dEq, gsH_nil, and_true, cells_Entry, row_Need]; try exact rfl)); (simp only [List.cons_append, List.nil_append]))
    refine den_ite (fun h6 => ?_) (fun h6 => ?_)
    · simp only [E.den, dEq, iEq, sEq, cells_Entry, row_Need, cells_Need] at h6
      have hb : needAt e k = false := by unfold needAt; grind
      refine den_ret ?_
      simp [E.den, entryB, allTo_bad h5 hb]
    · simp only [E.den, dEq, iEq, sEq, cells_Entry, row_Need, cells_Need] at h6
      have hb : needAt e k = true := by unfold needAt; grind
      refine den_next h5 ?_ (show (allTo (needAt e) k && needAt e k) = true by rw [hI, hb]; rfl)
      simp only [E.den, dEq, iEq, sEq]
      rw [ar_add (by omega) (by omega)]; rfl
  · simp only [E.den, dEq, iEq, sEq, cells_Entry] at h5
    obtain rfl : k = e.needs.length := by simp at h5; omega
    exact den_ret (by simp [E.den, entryB, hI, h1, h2, h3, h4])

def meetsB (a b : Ver) : Bool := decide (a.maj = b.maj) && decide (b.min ≤ a.min)
theorem c_impl_Meets (a b : Ver) : Fun Tryz.prog 118 none [enc a, enc b] (.bool (meetsB a b)) [] := by
  refine Fun.ofV vc_impl_Meets_ok ty_impl_Meets_ok rfl ?_ (fun hfit => ?_)
  · exact ⟨ty_Ver a, ty_Ver b, trivial⟩
  unfold vc_impl_Meets
  ((first | refine den_call ?_ (c_impl_CompareVersions a b) (rfl) ?_ | refine den_callR ?_ (c_impl_CompareVersions a b) (rfl) ?_ | refine den_call ?_ (.ofR (c_impl_CompareVersions a b)) (rfl) ?_); (focus (simp only [VC.den, E.den, dEq, gsH_nil, and_true]; try exact rfl)); (simp only [List.cons_append, List.nil_append]))
  refine den_ret ?_
  simp only [E.den, dEq, iEq, sEq, cells_Ver]
  simp only [D.bool.injEq]
  unfold meetsB Ver.cmp
  rw [Bool.eq_iff_iff]
  simp
  intro h
  (repeat' split) <;> omega
theorem c_spec_Meets (a b : Ver) : Fun Tryz.prog 127 none [enc a, enc b] (.bool (meetsB a b)) [] := by
  refine Fun.ofV vc_spec_Meets_ok ty_spec_Meets_ok rfl ?_ (fun hfit => ?_)
  · exact ⟨ty_Ver a, ty_Ver b, trivial⟩
  unfold vc_spec_Meets
  refine den_ret ?_
  simp only [E.den, dEq, iEq, sEq, cells_Ver]
  simp only [D.bool.injEq]
  unfold meetsB; grind
def servesB (e : Entry) (n : Need) : Bool := entryB e && needB n && (decide (n.frm = noText) || decide (n.frm = e.name)) && offersB (recF e.recipe) n.face && meetsB e.ver n.least
theorem c_impl_Serves (e : Entry) (n : Need) : Fun Tryz.prog 96 none [enc e, enc n] (.bool (servesB e n)) [] := by
  refine Fun.ofV vc_impl_Serves_ok ty_impl_Serves_ok rfl ?_ (fun hfit => ?_)
  · exact ⟨ty_Entry e, ty_Need n, trivial⟩
  unfold vc_impl_Serves
  ((first | refine den_call ?_ (c_impl_IsEntry e) (trivial) ?_ | refine den_callR ?_ (c_impl_IsEntry e) (trivial) ?_ | refine den_call ?_ (.ofR (c_impl_IsEntry e)) (trivial) ?_); (focus (simp only [VC.den, E.den, dEq, gsH_nil, and_true]; try exact rfl)); (simp only [List.cons_append, List.nil_append]))
  ((first | refine den_call ?_ (c_impl_IsNeed n) (trivial) ?_ | refine den_callR ?_ (c_impl_IsNeed n) (trivial) ?_ | refine den_call ?_ (.ofR (c_impl_IsNeed n)) (trivial) ?_); (focus (simp only [VC.den, E.den, dEq, gsH_nil, and_true]; try exact rfl)); (simp only [List.cons_append, List.nil_append]))
  refine den_ite (fun h => ?_) (fun h => ?_)
  · simp only [E.den, dEq, iEq, sEq] at h
    refine den_ret ?_
    simp only [E.den, D.bool.injEq]
    unfold servesB; grind
  simp only [E.den, dEq, iEq, sEq] at h
  ((first | refine den_call ?_ (c_impl_RecipeFace e.recipe) (⟨rfl, trivial, trivial⟩) ?_ | refine den_callR ?_ (c_impl_RecipeFace e.recipe) (⟨rfl, trivial, trivial⟩) ?_ | refine den_call ?_ (.ofR (c_impl_RecipeFace e.recipe)) (⟨rfl, trivial, trivial⟩) ?_); (focus (simp only [VC.den, E.den, dEq, gsH_nil, and_true, cells_Entry]; try exact rfl)); (simp only [List.cons_append, List.nil_append]))
  ((first | refine den_call ?_ (c_impl_Offers (recF e.recipe) n.face) (trivial) ?_ | refine den_callR ?_ (c_impl_Offers (recF e.recipe) n.face) (trivial) ?_ | refine den_call ?_ (.ofR (c_impl_Offers (recF e.recipe) n.face)) (trivial) ?_); (focus (simp only [VC.den, E.den, dEq, gsH_nil, and_true, cells_Need]; try exact rfl)); (simp only [List.cons_append, List.nil_append]))
  ((first | refine den_call ?_ (c_impl_Meets e.ver n.least) (trivial) ?_ | refine den_callR ?_ (c_impl_Meets e.ver n.least) (trivial) ?_ | refine den_call ?_ (.ofR (c_impl_Meets e.ver n.least)) (trivial) ?_); (focus (simp only [VC.den, E.den, dEq, gsH_nil, and_true, cells_Need, cells_Entry]; try exact rfl)); (simp only [List.cons_append, List.nil_append]))
  refine den_ret ?_
  simp only [E.den, dEq, iEq, sEq, cells_Need, cells_Entry]
  simp only [D.bool.injEq]
  unfold servesB noText; grind
theorem c_spec_Serves (e : Entry) (n : Need) : Fun Tryz.prog 110 none [enc e, enc n] (.bool (servesB e n)) [] := by
  refine Fun.ofV vc_spec_Serves_ok ty_spec_Serves_ok rfl ?_ (fun hfit => ?_)
  · exact ⟨ty_Entry e, ty_Need n, trivial⟩
  unfold vc_spec_Serves
  ((first | refine den_call ?_ (c_spec_RecipeFace e.recipe) (⟨rfl, trivial, trivial⟩) ?_ | refine den_callR ?_ (c_spec_RecipeFace e.recipe) (⟨rfl, trivial, trivial⟩) ?_ | refine den_call ?_ (.ofR (c_spec_RecipeFace e.recipe)) (⟨rfl, trivial, trivial⟩) ?_); (focus (simp only [VC.den, E.den, dEq, gsH_nil, and_true, cells_Entry]; try exact rfl)); (simp only [List.cons_append, List.nil_append]))
  ((first | refine den_call ?_ (c_spec_IsEntry e) (trivial) ?_ | refine den_callR ?_ (c_spec_IsEntry e) (trivial) ?_ | refine den_call ?_ (.ofR (c_spec_IsEntry e)) (trivial) ?_); (focus (simp only [VC.den, E.den, dEq, gsH_nil, and_true]; try exact rfl)); (simp only [List.cons_append, List.nil_append]))
  ((first | refine den_call ?_ (c_spec_IsNeed n) (trivial) ?_ | refine den_callR ?_ (c_spec_IsNeed n) (trivial) ?_ | refine den_call ?_ (.ofR (c_spec_IsNeed n)) (trivial) ?_); (focus (simp only [VC.den, E.den, dEq, gsH_nil, and_true]; try exact rfl)); (simp only [List.cons_append, List.nil_append]))
  ((first | refine den_call ?_ (c_spec_Offers (recF e.recipe) n.face) (trivial) ?_ | refine den_callR ?_ (c_spec_Offers (recF e.recipe) n.face) (trivial) ?_ | refine den_call ?_ (.ofR (c_spec_Offers (recF e.recipe) n.face)) (trivial) ?_); (focus (simp only [VC.den, E.den, dEq, gsH_nil, and_true, cells_Need]; try exact rfl)); (simp only [List.cons_append, List.nil_append]))
  ((first | refine den_call ?_ (c_spec_Meets e.ver n.least) (trivial) ?_ | refine den_callR ?_ (c_spec_Meets e.ver n.least) (trivial) ?_ | refine den_call ?_ (.ofR (c_spec_Meets e.ver n.least)) (trivial) ?_); (focus (simp only [VC.den, E.den, dEq, gsH_nil, and_true, cells_Need, cells_Entry]; try exact rfl)); (simp only [List.cons_append, List.nil_append]))
  refine den_ret ?_
  simp only [E.den, dEq, iEq, sEq, cells_Need, cells_Entry]
  simp only [D.bool.injEq]
  unfold servesB noText; grind
def entryAt (l : List Entry) (k : Nat) : Bool := entryB (nth l k) && (k == 0 || ltB (nth l (k - 1)).name (nth l k).name)
def regB (l : List Entry) : Bool := decide (l.length ≤ 6) && allTo (entryAt l) l.length
theorem c_impl_IsRegistry (l : List Entry) : Fun Tryz.prog 26 none [encS l] (.bool (regB l)) [] := by
  refine Fun.ofV vc_impl_IsRegistry_ok ty_impl_IsRegistry_ok rfl ?_ (fun hfit => ?_)
  · exact ⟨ty_EntryS l, trivial⟩
  have hl : l.length ≤ 9223372036854775807 := fits_encS hfit.1
  unfold vc_impl_IsRegistry
  refine den_ite (fun h => ?_) (fun h => ?_)
  · simp only [E.den, dEq, iEq, sEq] at h
    refine den_ret ?_
    simp only [E.den, D.bool.injEq]
    unfold regB; grind
  simp only [E.den, dEq, iEq, sEq] at h
  have h4 : l.length ≤ 6 := by grind
  refine den_for l.length (fun k => [.int .i64 k]) (fun k => allTo (entryAt l) k = true) rfl rfl ?_
  intro k hk hI _
  simp only [List.cons_append, List.nil_append]
  refine den_ite (fun h2 => ?_) (fun h2 => ?_)
  · simp only [E.den, dEq, iEq, sEq] at h2
    have h2 : k < l.length := by simp at h2; exact h2
    (refine den_cond (fun hg => ?_) ?_; (focus (simp only [gsH, List.mem_cons, List.not_mem_nil, or_false, forall_eq_or_imp, forall_eq, E.den, dEq, iEq, sEq] at hg ⊢; (try simp only [D.bool.injEq] at hg); (try simp only [D.bool.injEq]); grind)))
    ((first | refine den_call ?_ (c_impl_IsEntry (nth l k)) (trivial) ?_ | refine den_callR ?_ (c_impl_IsEntry (nth l k)) (trivial) ?_ | refine den_call ?_ (.ofR (c_impl_IsEntry (nth l k))) (trivial) ?_); (focus (simp only [VC.den, E.den, dEq, gsH_nil, and_true, row_Entry, Int.toNat_natCast]; try exact rfl)); (simp only [List.cons_append, List.nil_append]))
    refine den_cond (fun hg => ?_) ?_
    · simp [gsH, E.den, cmpI] at hg ⊢
      rw [ar_sub (by omega) (by omega)]; omega
    refine den_ite (fun h3 => ?_) (fun h3 => ?_)
    · simp only [E.den, dEq, iEq, sEq, row_Entry, cells_Entry] at h3
      have hb : entryAt l k = false := by
        unfold entryAt
        by_cases e : 0 < k
        · rw [sub_one e (by omega)] at h3; grind
        · grind
      refine den_ret ?_
      simp [E.den, regB, allTo_bad h2 hb]
    · simp only [E.den, dEq, iEq, sEq, row_Entry, cells_Entry] at h3
      have hb : entryAt l k = true := by
        unfold entryAt
        by_cases e : 0 < k
        · rw [sub_one e (by omega)] at h3; grind
        · grind
      refine den_next h2 ?_ (show (allTo (entryAt l) k && entryAt l k) = true by rw [hI, hb]; rfl)
      simp only [E.den, dEq, iEq, sEq]
      rw [ar_add (by omega) (by omega)]; rfl
  · simp only [E.den, dEq, iEq, sEq] at h2
    obtain rfl : k = l.length := by simp at h2; omega
    exact den_ret (by simp [E.den, regB, hI, h4])
theorem c_spec_IsRegistry (l : List Entry) : Fun Tryz.prog 13 none [encS l] (.bool (regB l)) [] := by
  refine Fun.ofV vc_spec_IsRegistry_ok ty_spec_IsRegistry_ok rfl ?_ (fun hfit => ?_)
  · exact ⟨ty_EntryS l, trivial⟩
  have hl : l.length ≤ 9223372036854775807 := fits_encS hfit.1
  unfold vc_spec_IsRegistry
  refine den_for l.length (fun k => [.int .i64 k]) (fun k => allTo (entryAt l) k = true) rfl rfl ?_
  intro k hk hI _
  simp only [List.cons_append, List.nil_append]
  refine den_ite (fun h2 => ?_) (fun h2 => ?_)
  · simp only [E.den, dEq, iEq, sEq] at h2
    have h2 : k < l.length := by simp at h2; exact h2
    (refine den_cond (fun hg => ?_) ?_; (focus (simp only [gsH, List.mem_cons, List.not_mem_nil, or_false, forall_eq_or_imp, forall_eq, E.den, dEq, iEq, sEq] at hg ⊢; (try simp only [D.bool.injEq] at hg); (try simp only [D.bool.injEq]); grind)))
    ((first | refine den_call ?_ (c_spec_IsEntry (nth l k)) (trivial) ?_ | refine den_callR ?_ (c_spec_IsEntry (nth l k)) (trivial) ?_ | refine den_call ?_ (.ofR (c_spec_IsEntry (nth l k))) (trivial) ?_); (focus (simp only [VC.den, E.den, dEq, gsH_nil, and_true, row_Entry, Int.toNat_natCast]; try exact rfl)); (simp only [List.cons_append, List.nil_append]))
    refine den_cond (fun hg => ?_) ?_
    · simp [gsH, E.den, cmpI] at hg ⊢
      rw [ar_sub (by omega) (by omega)]; omega
    refine den_ite (fun h3 => ?_) (fun h3 => ?_)
    · simp only [E.den, dEq, iEq, sEq, row_Entry, cells_Entry] at h3
      have hb : entryAt l k = false := by
        unfold entryAt
        by_cases e : 0 < k
        · rw [sub_one e (by omega)] at h3; grind
        · grind
      refine den_ret ?_
      simp [E.den, regB, allTo_bad h2 hb]
    · simp only [E.den, dEq, iEq, sEq, row_Entry, cells_Entry] at h3
      have hb : entryAt l k = true := by
        unfold entryAt
        by_cases e : 0 < k
        · rw [sub_one e (by omega)] at h3; grind
        · grind
      refine den_next h2 ?_ (show (allTo (entryAt l) k && entryAt l k) = true by rw [hI, hb]; rfl)
      simp only [E.den, dEq, iEq, sEq]
      rw [ar_add (by omega) (by omega)]; rfl
  · simp only [E.den, dEq, iEq, sEq] at h2
    obtain rfl : k = l.length := by simp at h2; omega
    refine den_ret ?_
    simp only [E.den, dEq, iEq, sEq]
    simp only [regB, hI, Bool.and_true, D.bool.injEq]
    grind
/-- Providers. -/
def provAt (l : List Entry) (s : ByteArray) (n : Need) (k : Nat) : Bool := !decide ((nth l k).name = s) && servesB (nth l k) n
def provO (l : List Entry) (s : ByteArray) (n : Need) : Option Nat := firstTo (provAt l s n) l.length
def provI (l : List Entry) (s : ByteArray) (n : Need) : Int := match provO l s n with | some k => k | none => -1
def provN (l : List Entry) (s : ByteArray) (n : Need) : ByteArray := match provO l s n with | some k => (nth l k).name | none => noText
theorem firstTo_lt {p : Nat → Bool} {k : Nat} : ∀ {n : Nat}, firstTo p n = some k → k < n ∧ p k = true ∧ ∀ i, i < k → p i = false
  | 0, h => by cases h
  | n + 1, h => by
    simp only [firstTo] at h
    split at h
    · rename_i j hj
      cases h
      obtain ⟨h1, h2, h3⟩ := firstTo_lt hj
      exact ⟨by omega, h2, h3⟩
    · rename_i hj
      split at h
      · rename_i hp
        cases h
        refine ⟨by omega, hp, fun i hi => ?_⟩
        cases hb : p i with
        | false => rfl
        | true =>
          exfalso
          have : ∀ {n : Nat}, firstTo p n = none → ∀ i, i < n → p i = false := by
            intro n
            induction n with
            | zero => intro _ i hi; omega
            | succ n ih =>
              intro h i hi
              simp only [firstTo] at h
              split at h
              · cases h
              · rename_i hn
                split at h
                · cases h
                · rename_i hp
                  by_cases e : i = n
                  · subst e; simpa using hp
                  · exact ih hn i (by omega)
          rw [this hj i hi] at hb; cases hb
      · cases h
theorem c_impl_provider (l : List Entry) (s : ByteArray) (n : Need) : Fun Tryz.prog 61 none [encS l, .str s, enc n] (.int .i64 (provI l s n)) [] := by
  refine Fun.ofV vc_impl_provider_ok ty_impl_provider_ok rfl ?_ (fun hfit => ?_)
  · exact ⟨ty_EntryS l, trivial, ty_Need n, trivial⟩
  have hl : l.length ≤ 9223372036854775807 := fits_encS hfit.1
  unfold vc_impl_provider
  refine den_for l.length (fun k => [.int .i64 k]) (fun k => ∀ i, i < k → provAt l s n i = false) rfl (by omega) ?_
  intro k hk hI _
  simp only [List.cons_append, List.nil_append]
  refine den_ite (fun h2 => ?_) (fun h2 => ?_)
  · simp only [E.den, dEq, iEq, sEq] at h2
    have h2 : k < l.length := by simp at h2; exact h2
    (refine den_cond (fun hg => ?_) ?_; (focus (simp only [gsH, List.mem_cons, List.not_mem_nil, or_false, forall_eq_or_imp, forall_eq, E.den, dEq, iEq, sEq] at hg ⊢; (try simp only [D.bool.injEq] at hg); (try simp only [D.bool.injEq]); grind)))
    ((first | refine den_call ?_ (c_impl_Serves (nth l k) n) (trivial) ?_ | refine den_callR ?_ (c_impl_Serves (nth l k) n) (trivial) ?_ | refine den_call ?_ (.ofR (c_impl_Serves (nth l k) n)) (trivial) ?_); (focus (simp only [VC.den, E.den, dEq, gsH_nil, and_true, row_Entry, Int.toNat_natCast]; try exact rfl)); (simp only [List.cons_append, List.nil_append]))
    refine den_ite (fun h3 => ?_) (fun h3 => ?_)
    · simp only [E.den, dEq, iEq, sEq, row_Entry, cells_Entry] at h3
      have hb : provAt l s n k = true := by unfold provAt; grind
      refine den_ret ?_
      simp [E.den, provI, provO, firstTo_some hb hI h2]
    · simp only [E.den, dEq, iEq, sEq, row_Entry, cells_Entry] at h3
      have hb : provAt l s n k = false := by unfold provAt; grind
      refine den_next h2 ?_ fun i hi => ?_
      · simp only [E.den, dEq, iEq, sEq]
        rw [ar_add (by omega) (by omega)]; rfl
      · rcases Nat.lt_or_ge i k with h | h
        · exact hI i h
        · obtain rfl : i = k := by omega
          exact hb
  · simp only [E.den, dEq, iEq, sEq] at h2
    obtain rfl : k = l.length := by simp at h2; omega
    exact den_ret (by simp [E.den, provI, provO, firstTo_none hI])
theorem c_spec_ProviderOf (l : List Entry) (s : ByteArray) (n : Need) : Fun Tryz.prog 80 none [encS l, .str s, enc n] (.str (provN l s n)) [] := by
  refine Fun.ofV vc_spec_ProviderOf_ok ty_spec_ProviderOf_ok rfl ?_ (fun hfit => ?_)
  · exact ⟨ty_EntryS l, trivial, ty_Need n, trivial⟩
  have hl : l.length ≤ 9223372036854775807 := fits_encS hfit.1
  unfold vc_spec_ProviderOf
  refine den_for l.length (fun k => [.int .i64 k]) (fun k => ∀ i, i < k → provAt l s n i = false) rfl (by omega) ?_
  intro k hk hI _
  simp only [List.cons_append, List.nil_append]
  refine den_ite (fun h2 => ?_) (fun h2 => ?_)
  · simp only [E.den, dEq, iEq, sEq] at h2
    have h2 : k < l.length := by simp at h2; exact h2
    (refine den_cond (fun hg => ?_) ?_; (focus (simp only [gsH, List.mem_cons, List.not_mem_nil, or_false, forall_eq_or_imp, forall_eq, E.den, dEq, iEq, sEq] at hg ⊢; (try simp only [D.bool.injEq] at hg); (try simp only [D.bool.injEq]); grind)))
    ((first | refine den_call ?_ (c_spec_Serves (nth l k) n) (trivial) ?_ | refine den_callR ?_ (c_spec_Serves (nth l k) n) (trivial) ?_ | refine den_call ?_ (.ofR (c_spec_Serves (nth l k) n)) (trivial) ?_); (focus (simp only [VC.den, E.den, dEq, gsH_nil, and_true, row_Entry, Int.toNat_natCast]; try exact rfl)); (simp only [List.cons_append, List.nil_append]))
    refine den_ite (fun h3 => ?_) (fun h3 => ?_)
    · simp only [E.den, dEq, iEq, sEq, row_Entry, cells_Entry] at h3
      have hb : provAt l s n k = true := by unfold provAt; grind
      refine den_ret ?_
      simp only [E.den, dEq, iEq, sEq, row_Entry, cells_Entry]
      simp [provN, provO, firstTo_some hb hI h2]
    · simp only [E.den, dEq, iEq, sEq, row_Entry, cells_Entry] at h3
      have hb : provAt l s n k = false := by unfold provAt; grind
      refine den_next h2 ?_ fun i hi => ?_
      · simp only [E.den, dEq, iEq, sEq]
        rw [ar_add (by omega) (by omega)]; rfl
      · rcases Nat.lt_or_ge i k with h | h
        · exact hI i h
        · obtain rfl : i = k := by omega
          exact hb
  · simp only [E.den, dEq, iEq, sEq] at h2
    obtain rfl : k = l.length := by simp at h2; omega
    exact den_ret (by simp [E.den, provN, provO, firstTo_none hI, noText])
theorem rws_strs {w' : World} {M : Addr → Prop} {b : Nat} (hM : ∀ o, ¬ M ⟨b, o, none⟩) : ∀ (l : List ByteArray) (k : Nat), (∀ i (h : i < l.length), w'.cell? ⟨b, k + i, none⟩ = some (.string l[i])) → (∀ s, s ∈ l → s.size ≤ maxLen) → Rws w' M (l.map Enc.cells) b k
  | [], _, _, _ => by simp [Rws]
  | s :: l, k, h, hs => by
    simp only [List.map_cons, Rws, cells_str, Rw, R, and_true]
    refine ⟨⟨_, h 0 (by simp), hM _, rfl, hs s (by simp)⟩, rws_strs hM l (k + 1) (fun i hi => ?_) fun s' h' => hs s' (by simp [h'])⟩
    have := h (i + 1) (by simp; omega)
    rw [show k + (i + 1) = k + 1 + i by omega] at this
    simpa using this
theorem R_strs {w' : World} {M : Addr → Prop} {cs : Array Value} {T b n : Nat} (l : List ByteArray) (h : w'.heap[b]? = some (.cells cs T)) (hcs : cs = (l.map Value.string).toArray) (hn : n = l.length) (hM : ∀ o, ¬ M ⟨b, o, none⟩) (hs : ∀ s, s ∈ l → s.size ≤ maxLen) (hl : l.length ≤ maxLen) :
    R w' M (encS l) (.slice (some ⟨b, 0, none⟩) n n) := by
  subst hn
  refine ⟨_, _, _, rfl, by simp, Nat.le_refl _, hl, fun h => by (cases h), ?_⟩
  intro b' o s e
  cases e
  refine ⟨fun _ => rfl, rws_strs hM l 0 (fun i hi => ?_) hs⟩
  simp [World.cell?, h, hcs, hi]
theorem heap_old {w : World} {o o' : Obj} {b : Nat} (h : w.heap[b]? = some o) : (w.alloc o').heap[b]? = some o := by
  have hb : b < w.heap.size := by
    rcases Nat.lt_or_ge b w.heap.size with h' | h'
    · exact h'
    · rw [Array.getElem?_eq_none h'] at h; cases h
  exact (Below.heap_alloc w o' b hb).trans h
theorem heap_new {w : World} {o : Obj} {b : Nat} (h : b = w.heap.size) : (w.alloc o).heap[b]? = some o := by
  subst h
  show (w.heap.push o)[w.heap.size]? = _
  simp
end Go.Proofs.YtgaeigomhhbkfaaGreat
