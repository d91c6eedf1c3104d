/- Registries: copies, finding, adding: what the program and the reference compute. -/
import Derived.Test.YtjmakbnblpjkhaaD13
import Derived.Test.YtjmakbnblpjkhaaD4
import Derived.Test.YtjmakbnblpjkhaaD11
import Derived.Test.YtjmakbnblpjkhaaD0
import Derived.Still
import Derived.OrdersHeld
import Derived.NoCompiler
import Derived.Deep.RegionHeld
import Derived.Deep.LoopGhost
import Derived.Test.YtjmakbnblpjkhaaD12
import Derived.Maps.AppendAt
import Derived.Deep.Upon
set_option linter.unusedVariables false
set_option linter.unusedSimpArgs false
set_option maxRecDepth 100000
set_option linter.unusedSectionVars false
namespace Go.Proofs.Ytjmakbnblpjkhaa
open Go.RowKit Go
variable [GC]
def Entry.fit (e : Entry) : Prop := e.recipe.length ≤ 1048576 ∧ e.needs.length ≤ 1048576
theorem c_impl_copyTexts (l : List ByteArray) (h : l.length ≤ 1048576) : FunR Try.prog 52 none [encS l] (encS l) [] [(0, 1)] := by
 refine FunR.ofV vc_impl_copyTexts_ok ty_impl_copyTexts_ok rt_impl_copyTexts_ok rfl ?_ (fun hfit => ?_)
 ·exact ⟨ty_strS l, trivial⟩
 unfold vc_impl_copyTexts
 refine den_cond (fun _ => ?_) (den_ret ?_)
 ·simp [E.den]; omega
 ·simp [E.den, encS]
theorem c_spec_l1Texts (l : List ByteArray) (h : l.length ≤ 1048576) : FunR Try.prog 41 none [encS l] (encS l) [] [(0, 1)] := by
 refine FunR.ofV vc_spec_l1Texts_ok ty_spec_l1Texts_ok rt_spec_l1Texts_ok rfl ?_ (fun hfit => ?_)
 ·exact ⟨ty_strS l, trivial⟩
 unfold vc_spec_l1Texts
 refine den_cond (fun _ => ?_) (den_ret ?_)
 ·simp [E.den]; omega
 ·simp [E.den, encS]
theorem c_impl_copyEntry (e : Entry) (h : e.fit) : FunR Try.prog 37 none [enc e] (enc e) [] [(1, 1), (4, 4)] := by
 refine FunR.ofV vc_impl_copyEntry_ok ty_impl_copyEntry_ok rt_impl_copyEntry_ok rfl ?_ (fun hfit => ?_)
 ·exact ⟨ty_Entry e, trivial⟩
 unfold vc_impl_copyEntry
 ((first | refine den_call ?_ (c_impl_copyTexts e.recipe h.1) (ty_strS _) ?_ | refine den_callR ?_ (c_impl_copyTexts e.recipe h.1) (ty_strS _) ?_ | refine den_call ?_ (.ofR (c_impl_copyTexts e.recipe h.1)) (ty_strS _) ?_); (focus (simp only [VC.den, E.den, dEq, gsH_nil, and_true, cells_Entry]; try exact rfl)); (simp only [cA]))
 have h2 := h.2
 refine den_cond (fun _ => ?_) (den_ret ?_)
 ·simp [E.den, cells_Entry]; omega
 ·simp [E.den, cells_Entry, enc, encS]
theorem c_spec_l6Copy (e : Entry) (h : e.fit) : FunR Try.prog 21 none [enc e] (enc e) [] [(1, 1), (4, 4)] := by
 refine FunR.ofV vc_spec_l6Copy_ok ty_spec_l6Copy_ok rt_spec_l6Copy_ok rfl ?_ (fun hfit => ?_)
 ·exact ⟨ty_Entry e, trivial⟩
 unfold vc_spec_l6Copy
 ((first | refine den_call ?_ (c_spec_l1Texts e.recipe h.1) (ty_strS _) ?_ | refine den_callR ?_ (c_spec_l1Texts e.recipe h.1) (ty_strS _) ?_ | refine den_call ?_ (.ofR (c_spec_l1Texts e.recipe h.1)) (ty_strS _) ?_); (focus (simp only [VC.den, E.den, dEq, gsH_nil, and_true, cells_Entry]; try exact rfl)); (simp only [cA]))
 have h2 := h.2
 refine den_cond (fun _ => ?_) (den_ret ?_)
 ·simp [E.den, cells_Entry]; omega
 ·simp [E.den, cells_Entry, enc, encS]
theorem take_snoc {α : Type} [Inhabited α] (l : List α) {k : Nat} (h : k < l.length) : l.take (k + 1) = l.take k ++ [nth l k] := by
 rw [List.take_succ_eq_append_getElem h]
 simp [nth, List.getD_eq_getElem?_getD, List.getElem?_eq_getElem h]
theorem encS_snoc {α : Type} [Enc α] (l : List α) (x : α) : D.sl (l.map Enc.cells ++ [Enc.cells x]) = encS (l ++ [x]) := by simp [encS]
theorem c_spec_l6Copies (l : List Entry) (hl : l.length ≤ 1048576) (hf : ∀ e ∈ l, e.fit) : FunR Try.prog 20 none [encS l] (encS l) [] [(0, 5)] := by
 refine FunR.ofV vc_spec_l6Copies_ok ty_spec_l6Copies_ok rt_spec_l6Copies_ok rfl ?_ (fun hfit => ?_)
 ·exact ⟨ty_EntryS l, trivial⟩
 unfold vc_spec_l6Copies
 refine den_for l.length (fun k => [encS (l.take k), .int .i64 k]) (fun _ => True) rfl trivial ?_
 intro k hk _ _
 simp only [cA]
 refine den_ite (fun h2 => ?_) (fun h2 => ?_)
 ·simp only [E.den, dEq, iEq, sEq] at h2
  have h2 : k < l.length := by simp at h2; exact h2
  (refine den_cond (fun hg => ?_) ?_; (focus (simp only [gsH, gE, E.den, dEq, iEq, sEq] at hg ⊢; (try simp only [D.bool.injEq] at hg); (try simp only [D.bool.injEq]); grind)))
  ((first | refine den_call ?_ (c_spec_l6Copy (nth l k) (hf _ (nth_mem h2))) (ty_Entry _) ?_ | refine den_callR ?_ (c_spec_l6Copy (nth l k) (hf _ (nth_mem h2))) (ty_Entry _) ?_ | refine den_call ?_ (.ofR (c_spec_l6Copy (nth l k) (hf _ (nth_mem h2)))) (ty_Entry _) ?_); (focus (simp only [VC.den, E.den, dEq, gsH_nil, and_true, row_Entry, Int.toNat_natCast]; try exact rfl)); (simp only [cA]))
  refine den_cond (fun _ => ?_) ?_
  ·simp [E.den]; omega
  refine den_next h2 ?_ trivial
  simp only [E.den, dEq, iEq, sEq, List.nil_append]
  rw [ar_add (by omega) (by omega), encS_snoc, ← take_snoc l h2]; rfl
 ·simp only [E.den, dEq, iEq, sEq] at h2
  obtain rfl : k = l.length := by simp at h2; omega
  exact den_ret (by simp [E.den])
def findO (l : List Entry) (s : ByteArray) : Option Nat := firstTo (fun k => decide ((nth l k).name = s)) l.length
def findI (l : List Entry) (s : ByteArray) : Int := match findO l s with | some k => k | none => -1
theorem c_impl_FindEntry (l : List Entry) (s : ByteArray) : Fun Try.prog 22 none [encS l, .str s] (.int .i64 (findI l s)) [] := by
 refine Fun.ofV vc_impl_FindEntry_ok ty_impl_FindEntry_ok rfl ?_ (fun hfit => ?_)
 ·exact ⟨ty_EntryS l, trivial, trivial⟩
 have hl : l.length ≤ 9223372036854775807 := fits_encS hfit.1
 unfold vc_impl_FindEntry
 refine den_for l.length (fun k => [.int .i64 k]) (fun k => ∀ i, i < k → decide ((nth l i).name = s) = false) rfl (by omega) ?_
 intro k hk hI _
 simp only [cA]
 refine den_ite (fun h2 => ?_) (fun h2 => ?_)
 ·simp only [E.den, dEq, iEq, sEq] at h2
  have h2 : k < l.length := by simp at h2; exact h2
  (refine den_cond (fun hg => ?_) ?_; (focus (simp only [gsH, gE, E.den, dEq, iEq, sEq] at hg ⊢; (try simp only [D.bool.injEq] at hg); (try simp only [D.bool.injEq]); grind)))
  refine den_ite (fun h3 => ?_) (fun h3 => ?_)
  ·simp only [E.den, dEq, iEq, sEq, row_Entry, cells_Entry] at h3
   refine den_ret ?_
   simp [E.den, findI, findO, firstTo_some (p := fun k => decide ((nth l k).name = s)) h3 hI h2]
  ·simp only [E.den, dEq, iEq, sEq, row_Entry, cells_Entry] at h3
   refine den_next h2 ?_ fun i hi => ?_
   ·simp only [E.den, dEq, iEq, sEq]
    rw [ar_add (by omega) (by omega)]; rfl
   ·rcases Nat.lt_or_ge i k with h | h
    ·exact hI i h
    ·obtain rfl : i = k := by omega
     exact h3
 ·simp only [E.den, dEq, iEq, sEq] at h2
  obtain rfl : k = l.length := by simp at h2; omega
  exact den_ret (by simp [E.den, findI, findO, firstTo_none hI])
theorem c_spec_FindEntry (l : List Entry) (s : ByteArray) : Fun Try.prog 19 none [encS l, .str s] (.int .i64 (findI l s)) [] := by
 refine Fun.ofV vc_spec_FindEntry_ok ty_spec_FindEntry_ok rfl ?_ (fun hfit => ?_)
 ·exact ⟨ty_EntryS l, trivial, trivial⟩
 have hl : l.length ≤ 9223372036854775807 := fits_encS hfit.1
 unfold vc_spec_FindEntry
 refine den_for l.length (fun k => [.int .i64 k]) (fun k => ∀ i, i < k → decide ((nth l i).name = s) = false) rfl (by omega) ?_
 intro k hk hI _
 simp only [cA]
 refine den_ite (fun h2 => ?_) (fun h2 => ?_)
 ·simp only [E.den, dEq, iEq, sEq] at h2
  have h2 : k < l.length := by simp at h2; exact h2
  (refine den_cond (fun hg => ?_) ?_; (focus (simp only [gsH, gE, E.den, dEq, iEq, sEq] at hg ⊢; (try simp only [D.bool.injEq] at hg); (try simp only [D.bool.injEq]); grind)))
  refine den_ite (fun h3 => ?_) (fun h3 => ?_)
  ·simp only [E.den, dEq, iEq, sEq, row_Entry, cells_Entry] at h3
   refine den_ret ?_
   simp [E.den, findI, findO, firstTo_some (p := fun k => decide ((nth l k).name = s)) h3 hI h2]
  ·simp only [E.den, dEq, iEq, sEq, row_Entry, cells_Entry] at h3
   refine den_next h2 ?_ fun i hi => ?_
   ·simp only [E.den, dEq, iEq, sEq]
    rw [ar_add (by omega) (by omega)]; rfl
   ·rcases Nat.lt_or_ge i k with h | h
    ·exact hI i h
    ·obtain rfl : i = k := by omega
     exact h3
 ·simp only [E.den, dEq, iEq, sEq] at h2
  obtain rfl : k = l.length := by simp at h2; omega
  exact den_ret (by simp [E.den, findI, findO, firstTo_none hI])
def atP (l : List Entry) (s : ByteArray) (k : Nat) : Bool := !ltB (nth l k).name s
def atOf (l : List Entry) (s : ByteArray) : Nat := (firstTo (atP l s) l.length).getD l.length
def insE (l : List Entry) (e : Entry) : List Entry := l.take (atOf l e.name) ++ [e] ++ l.drop (atOf l e.name)
def addOk (l : List Entry) (e : Entry) : Bool := regB l && entryB e && decide (findI l e.name < 0) && decide (l.length < 6)
def addL (l : List Entry) (e : Entry) : List Entry := if addOk l e then insE l e else l
theorem cmpS_gtr (a b : ByteArray) : cmpS .gtr a b = !(ltB a b || decide (a = b)) := by rw [← toList_eqB]; rfl
theorem firstTo_no {p : Nat → Bool} : ∀ {n : Nat}, firstTo p n = none → ∀ i, i < n → p i = false
 | 0, _, i, h => by omega
 | n + 1, h, i, hi => by
  simp only [firstTo] at h
  split at h
  ·cases h
  ·rename_i hn
   split at h
   ·cases h
   ·rename_i hp
    by_cases e : i = n
    ·subst e; simpa using hp
    ·exact firstTo_no hn i (by omega)
theorem atOf_spec (l : List Entry) (s : ByteArray) : atOf l s ≤ l.length ∧ (∀ i, i < atOf l s → atP l s i = false) ∧ (atOf l s < l.length → atP l s (atOf l s) = true) := by
 unfold atOf
 cases h : firstTo (atP l s) l.length with
 | none => exact ⟨Nat.le_refl _, firstTo_no h, fun h => absurd h (Nat.lt_irrefl _)⟩
 | some k => obtain ⟨h1, h2, h3⟩ := firstTo_lt h; exact ⟨Nat.le_of_lt h1, h3, fun _ => h2⟩
theorem findI_none {l : List Entry} {s : ByteArray} (h : findI l s < 0) {k : Nat} (hk : k < l.length) : (nth l k).name ≠ s := by
 unfold findI at h
 cases hf : findO l s with
 | none => have := firstTo_no hf k hk; simpa using this
 | some j => rw [hf] at h; simp only at h; omega
def outK (l : List Entry) (e : Entry) (k : Nat) : List Entry := if atOf l e.name < k then l.take (atOf l e.name) ++ [e] ++ (l.take k).drop (atOf l e.name) else l.take k
theorem outK_done {l : List Entry} {e : Entry} {k : Nat} (hk : k < l.length) (h : atOf l e.name < k) : outK l e (k + 1) = outK l e k ++ [nth l k] := by
 unfold outK
 rw [if_pos h, if_pos (by omega), take_snoc l hk, List.drop_append_of_le_length (by simp; omega)]
 simp
theorem outK_at {l : List Entry} {e : Entry} {k : Nat} (hk : k < l.length) (h : atOf l e.name = k) : outK l e (k + 1) = outK l e k ++ [e] ++ [nth l k] := by
 unfold outK
 simp only [h]
 rw [if_pos (Nat.lt_succ_self k), if_neg (Nat.lt_irrefl k), take_snoc l hk, List.drop_append_of_le_length (by simp; omega)]
 simp
theorem outK_not {l : List Entry} {e : Entry} {k : Nat} (hk : k < l.length) (h : k < atOf l e.name) : outK l e (k + 1) = outK l e k ++ [nth l k] := by
 unfold outK
 rw [if_neg (by omega), if_neg (by omega), take_snoc l hk]
theorem outK_len (l : List Entry) (e : Entry) (k : Nat) (hk : k ≤ l.length) : (outK l e k).length ≤ k + 1 := by
 unfold outK
 split <;> simp <;> omega
theorem c_spec_AddEntry (l : List Entry) (e : Entry) (hl : l.length ≤ 1048576) (hf : ∀ e ∈ l, e.fit) (he : e.fit) : FunR Try.prog 13 none [encS l, enc e] (.tup [encS (addL l e), .bool (addOk l e)]) [] [(0, 5)] := by
 refine FunR.ofV vc_spec_AddEntry_ok ty_spec_AddEntry_ok rt_spec_AddEntry_ok rfl ?_ (fun hfit => ?_)
 ·exact ⟨ty_EntryS l, ty_Entry e, trivial⟩
 unfold vc_spec_AddEntry
 ((first | refine den_call ?_ (c_spec_IsRegistry l) (trivial) ?_ | refine den_callR ?_ (c_spec_IsRegistry l) (trivial) ?_ | refine den_call ?_ (.ofR (c_spec_IsRegistry l)) (trivial) ?_); (focus (simp only [VC.den, E.den, dEq, gsH_nil, and_true]; try exact rfl)); (simp only [cA]))
 ((first | refine den_call ?_ (c_spec_IsEntry e) (trivial) ?_ | refine den_callR ?_ (c_spec_IsEntry e) (trivial) ?_ | refine den_call ?_ (.ofR (c_spec_IsEntry e)) (trivial) ?_); (focus (simp only [VC.den, E.den, dEq, gsH_nil, and_true]; try exact rfl)); (simp only [cA]))
 ((first | refine den_call ?_ (c_spec_FindEntry l e.name) (rfl) ?_ | refine den_callR ?_ (c_spec_FindEntry l e.name) (rfl) ?_ | refine den_call ?_ (.ofR (c_spec_FindEntry l e.name)) (rfl) ?_); (focus (simp only [VC.den, E.den, dEq, gsH_nil, and_true, cells_Entry]; try exact rfl)); (simp only [cA]))
 have hreg : regB l = true → l.length ≤ 6 := fun h => by unfold regB at h; grind
 refine den_ite (fun h => ?_) (fun h => ?_)
 ·simp only [E.den, dEq, iEq, sEq] at h
  have ho : addOk l e = false := by unfold addOk; grind
  ((first | refine den_call ?_ (c_spec_l6Copies l hl hf) (ty_EntryS _) ?_ | refine den_callR ?_ (c_spec_l6Copies l hl hf) (ty_EntryS _) ?_ | refine den_call ?_ (.ofR (c_spec_l6Copies l hl hf)) (ty_EntryS _) ?_); (focus (simp only [VC.den, E.den, dEq, gsH_nil, and_true]; try exact rfl)); (simp only [cA]))
  exact den_ret (by simp [E.den, addL, ho])
 simp only [E.den, dEq, iEq, sEq] at h
 have ho : addOk l e = true := by unfold addOk; grind
 have hno : findI l e.name < 0 := by grind
 obtain ⟨a1, a2, a3⟩ := atOf_spec l e.name
 refine den_for l.length (fun k => [.bool (decide (atOf l e.name < k)), encS (outK l e k), .int .i64 k]) (fun _ => True) (by simp [E.den, outK, encS]) trivial ?_
 intro k hk _ _
 simp only [cA]
 have hol := outK_len l e k hk
 refine den_ite (fun h2 => ?_) (fun h2 => ?_)
 ·simp only [E.den, dEq, iEq, sEq] at h2
  have h2 : k < l.length := by simp at h2; exact h2
  have hne := findI_none hno h2
  (refine den_cond (fun hg => ?_) ?_; (focus (simp only [gsH, gE, E.den, dEq, iEq, sEq] at hg ⊢; (try simp only [D.bool.injEq] at hg); (try simp only [D.bool.injEq]); grind)))
  refine den_ite (fun h3 => ?_) (fun h3 => ?_)
  ·simp only [E.den, dEq, iEq, sEq, row_Entry, cells_Entry, cmpS_gtr] at h3
   have h4 : k ≤ atOf l e.name := by grind
   have h5 : ltB (nth l k).name e.name = false := by grind
   have h6 : atOf l e.name = k := by
    rcases Nat.lt_or_ge k (atOf l e.name) with h | h
    ·have := a2 k h; unfold atP at this; rw [h5] at this; cases this
    ·omega
   ((first | refine den_call ?_ (c_spec_l6Copy e he) (ty_Entry _) ?_ | refine den_callR ?_ (c_spec_l6Copy e he) (ty_Entry _) ?_ | refine den_call ?_ (.ofR (c_spec_l6Copy e he)) (ty_Entry _) ?_); (focus (simp only [VC.den, E.den, dEq, gsH_nil, and_true]; try exact rfl)); (simp only [cA]))
   refine den_cond (fun _ => ?_) ?_
   ·simp [E.den]; omega
   ((first | refine den_call ?_ (c_spec_l6Copy (nth l k) (hf _ (nth_mem h2))) (ty_Entry _) ?_ | refine den_callR ?_ (c_spec_l6Copy (nth l k) (hf _ (nth_mem h2))) (ty_Entry _) ?_ | refine den_call ?_ (.ofR (c_spec_l6Copy (nth l k) (hf _ (nth_mem h2)))) (ty_Entry _) ?_); (focus (simp only [VC.den, E.den, dEq, gsH_nil, and_true, row_Entry, Int.toNat_natCast]; try exact rfl)); (simp only [cA]))
   refine den_cond (fun _ => ?_) ?_
   ·simp [E.den]; omega
   refine den_next h2 ?_ trivial
   rw [outK_at h2 h6]
   simp [E.den, encS, h6]
   rw [ar_add (by omega) (by omega)]
  ·simp only [E.den, dEq, iEq, sEq, row_Entry, cells_Entry, cmpS_gtr] at h3
   ((first | refine den_call ?_ (c_spec_l6Copy (nth l k) (hf _ (nth_mem h2))) (ty_Entry _) ?_ | refine den_callR ?_ (c_spec_l6Copy (nth l k) (hf _ (nth_mem h2))) (ty_Entry _) ?_ | refine den_call ?_ (.ofR (c_spec_l6Copy (nth l k) (hf _ (nth_mem h2)))) (ty_Entry _) ?_); (focus (simp only [VC.den, E.den, dEq, gsH_nil, and_true, row_Entry, Int.toNat_natCast]; try exact rfl)); (simp only [cA]))
   refine den_cond (fun _ => ?_) ?_
   ·simp [E.den]; omega
   refine den_next h2 ?_ trivial
   rcases Nat.lt_or_ge (atOf l e.name) k with h4 | h4
   ·rw [outK_done h2 h4]
    simp [E.den, encS, h4, show atOf l e.name < k + 1 by omega]
    rw [ar_add (by omega) (by omega)]
   ·have h5 : ltB (nth l k).name e.name = true := by grind
    have h6 : k < atOf l e.name := by
     rcases Nat.lt_or_ge k (atOf l e.name) with h | h
     ·exact h
     ·exfalso
      have h7 : atOf l e.name = k := by omega
      have := a3 (by omega)
      rw [h7] at this
      unfold atP at this; rw [h5] at this; cases this
    rw [outK_not h2 h6]
    simp [E.den, encS, show ¬ atOf l e.name < k by omega, show ¬ atOf l e.name < k + 1 by omega]
    rw [ar_add (by omega) (by omega)]
 ·simp only [E.den, dEq, iEq, sEq] at h2
  obtain rfl : k = l.length := by simp at h2; omega
  refine den_ite (fun h3 => ?_) (fun h3 => ?_)
  ·simp only [E.den, dEq, iEq, sEq] at h3
   have h4 : atOf l e.name = l.length := by
    have : ¬ atOf l e.name < l.length := by grind
    omega
   ((first | refine den_call ?_ (c_spec_l6Copy e he) (ty_Entry _) ?_ | refine den_callR ?_ (c_spec_l6Copy e he) (ty_Entry _) ?_ | refine den_call ?_ (.ofR (c_spec_l6Copy e he)) (ty_Entry _) ?_); (focus (simp only [VC.den, E.den, dEq, gsH_nil, and_true]; try exact rfl)); (simp only [cA]))
   refine den_cond (fun _ => ?_) (den_ret ?_)
   ·simp [E.den]; omega
   ·simp [E.den, addL, ho, insE, h4, outK, encS]
  ·simp only [E.den, dEq, iEq, sEq] at h3
   have h4 : atOf l e.name < l.length := by grind
   refine den_ret ?_
   simp [E.den, addL, ho, insE, outK, h4]
end Go.Proofs.Ytjmakbnblpjkhaa
/- Whether a list of texts has one; where it stands. -/
namespace Go.Proofs.Ytjmakbnblpjkhaa
open Go.RowKit Go
variable [GC]
end Go.Proofs.Ytjmakbnblpjkhaa
/- Reaching, being stuck, the order of the start: what holds of them. No program in sight but the entries' data. -/
namespace Go.Proofs.Ytjmakbnblpjkhaa
open Go.RowKit Go
variable [GC]
/-! The order of the start -/
/-! Names -/
end Go.Proofs.Ytjmakbnblpjkhaa
/- Names of entries that something holds of: ascending lists; links; ways by links. No program in sight but the entries' data. -/
namespace Go.Proofs.Ytjmakbnblpjkhaa
open Go.RowKit Go
variable [GC]
end Go.Proofs.Ytjmakbnblpjkhaa
/- Contract: an entry is taken out: the reference's side. -/
namespace Go.Proofs.Ytjmakbnblpjkhaa
open Go.RowKit Go
variable [GC]
end Go.Proofs.Ytjmakbnblpjkhaa
/- Walks by hand over an environment: what the slots hold, as a list; one law an operation. No program in sight. -/
namespace Go.Proofs.Ytjmakbnblpjkhaa
open Go.RowKit Go
variable [GC]
abbrev PQ (b : Nat) : Value := .pointer (some ⟨b, 0, none⟩)
def lk : List (Nat × Value) → Nat → Option Value
 | [], _ => none
 | p :: r, t => bif Nat.beq p.1 t then some p.2 else lk r t
structure Env (n : Nat) (a : Act) (E : List (Nat × Value)) : Prop where
 size : a.tmps.size = n
 df : a.defers = []
 at' : ∀ t v, lk E t = some v → a.tmps.getD t undef = v
def ev (E : List (Nat × Value)) : Operand → Option Value
 | .tmp t => lk E t
 | .const v => some v
 | .global g => some (.pointer (some ⟨g, 0, none⟩))
 | .func f => some (.func (.func f) #[] #[])
theorem Env.ev {n : Nat} {a : Act} {E : List (Nat × Value)} (h : Env n a E) {x : Operand} {v : Value} (e : ev E x = some v) : a.eval x = v := by
 cases x with
 | tmp t => exact h.at' t v e
 | const u => simp [Go.Proofs.Ytjmakbnblpjkhaa.ev] at e; exact e
 | global g => simp [Go.Proofs.Ytjmakbnblpjkhaa.ev] at e; exact e
 | func f => simp [Go.Proofs.Ytjmakbnblpjkhaa.ev] at e; exact e
theorem Env.put {n : Nat} {a : Act} {E : List (Nat × Value)} (h : Env n a E) {d : Nat} (hd : d < n) (v : Value) : Env n (a.put (some d) v) ((d, v) :: E) := by
 refine ⟨by simp [Act.put, h.size], h.df, fun t u e => ?_⟩
 have hs := h.size
 simp only [lk] at e
 simp only [Act.put, Array.getD_eq_getD_getElem?, Array.getElem?_setIfInBounds]
 cases hb : Nat.beq d t with
 | true =>
  have : d = t := Nat.eq_of_beq_eq_true hb
  subst this
  rw [hb] at e; simp at e; subst e
  rw [if_pos rfl, if_pos (by omega)]; rfl
 | false =>
  rw [hb] at e; simp at e
  have hne : ¬ d = t := fun x => by subst x; simp at hb
  rw [if_neg hne]
  have := h.at' t u e
  rw [Array.getD_eq_getD_getElem?] at this
  exact this
def allLk (E : List (Nat × Value)) : List (Nat × Value) → Prop
 | [] => True
 | p :: r => lk E p.1 = some p.2 ∧ allLk E r
theorem allLk.get {E : List (Nat × Value)} : ∀ {E' : List (Nat × Value)}, allLk E E' → ∀ {t : Nat} {v : Value}, lk E' t = some v → lk E t = some v
 | [], _, t, v, h => by simp [lk] at h
 | p :: r, ⟨h1, h2⟩, t, v, h => by
  simp only [lk] at h
  cases hb : Nat.beq p.1 t with
  | true =>
   have : p.1 = t := Nat.eq_of_beq_eq_true hb
   subst this
   rw [hb] at h; simp at h; subst h; exact h1
  | false => rw [hb] at h; simp at h; exact h2.get h
theorem Env.sub {n : Nat} {a : Act} {E E' : List (Nat × Value)} (h : Env n a E) (hs : allLk E E') : Env n a E' := ⟨h.size, h.df, fun t v e => h.at' t v (hs.get e)⟩
theorem Env.of {n : Nat} {a : Act} {E : List (Nat × Value)} (h : a.tmps.size = n) (hd : a.defers = []) (hs : ∀ p ∈ E, a.tmps.getD p.1 undef = p.2) : Env n a E := by
 refine ⟨h, hd, fun t v e => ?_⟩
 induction E with
 | nil => simp [lk] at e
 | cons p r ih =>
  simp only [lk] at e
  cases hb : Nat.beq p.1 t with
  | true =>
   have : p.1 = t := Nat.eq_of_beq_eq_true hb
   subst this
   rw [hb] at e; simp at e; subst e
   exact hs p (by simp)
  | false => rw [hb] at e; simp at e; exact ih (fun q hq => hs q (by simp [hq])) e
section
variable {n : Nat} {P : Program} {ops : Array Oper} {Q : Exit → Act → World → Prop} {E : List (Nat × Value)} {w w' : World}
def NX (n : Nat) (K : Act → World → Prop) (E : List (Nat × Value)) (w : World) : Prop := ∀ a, Env n a E → K a w
def WL (n : Nat) (P : Program) (ops : Array Oper) (Q : Exit → Act → World → Prop) (l : List Oper) (E : List (Nat × Value)) (w : World) : Prop := ∀ a, Env n a E → wpList P ops Q l a w
def CW (n : Nat) (P : Program) (c : Code) (Q : Exit → Act → World → Prop) (E : List (Nat × Value)) (w : World) : Prop := ∀ a, Env n a E → c.wp P Q a w
theorem CW.seq {x y : Code} (h : CW n P x (Exit.then (y.wp P Q) Q) E w) : CW n P (.seq x y) Q E w := fun a hE => wp_seq (h a hE)
theorem CW.region {id : Nat} {l : List Oper} (h : WL n P l.toArray Q l E w) : CW n P (.region id l.toArray false) Q E w := fun a hE => wp_region_lit (h a hE)
theorem CW.skip (h : NX n (Q .normal) E w) : CW n P .skip Q E w := fun a hE => wp_skip (h a hE)
theorem CW.ret (h : NX n (Q .ret) E w) : CW n P .ret Q E w := fun a hE => wp_ret (h a hE)
theorem CW.exit {id : Nat} (h : NX n (Q (.exit id)) E w) : CW n P (.exit id) Q E w := fun a hE => wp_exit (h a hE)
theorem CW.block {id : Nat} {c : Code} (h : CW n P c (Exit.inBlock id Q) E w) : CW n P (.block id c) Q E w := fun a hE => wp_block (h a hE)
theorem CW.yes {c : Operand} {x y : Code} (hc : ev E c = some (.bool true)) (h : CW n P x Q E w) : CW n P (.cond c x y) Q E w := fun a hE => wp_cond_true (hE.ev hc) (h a hE)
theorem CW.no {c : Operand} {x y : Code} (hc : ev E c = some (.bool false)) (h : CW n P y Q E w) : CW n P (.cond c x y) Q E w := fun a hE => wp_cond_false (hE.ev hc) (h a hE)
theorem CW.sub {c : Code} {E' : List (Nat × Value)} (hs : allLk E E') (h : CW n P c Q E' w) : CW n P c Q E w := fun a hE => h a (hE.sub hs)
theorem WL.nil (h : NX n (Q .normal) E w) : WL n P ops Q [] E w := fun a hE => wpList_nil (h a hE)
theorem NX.next {y : Code} {Q' : Exit → Act → World → Prop} (h : CW n P y Q E w) : NX n (Exit.then (y.wp P Q) Q' .normal) E w := h
theorem NX.ret {K : Act → World → Prop} (h : NX n (Q .ret) E w) : NX n (Exit.then K Q .ret) E w := h
theorem NX.norB {id : Nat} (h : NX n (Q .normal) E w) : NX n (Exit.inBlock id Q .normal) E w := h
theorem NX.exi {K : Act → World → Prop} {id : Nat} (h : NX n (Q (.exit id)) E w) : NX n (Exit.then K Q (.exit id)) E w := h
theorem NX.exiB {id : Nat} (h : NX n (Q .normal) E w) : NX n (Exit.inBlock id Q (.exit id)) E w := fun a hE => by
 show if id = id then Q .normal a w else Q (.exit id) a w
 rw [if_pos rfl]; exact h a hE
theorem NX.bodyT {fn : Func} {R : Ending → World → Prop} {p : Tmp} {v : Value} (h : fn.results = #[.tmp p]) (hp : lk E p = some v) (hR : R (.returned v) w) : NX n (bodyPost P fn R .ret) E w :=
 fun a hE => ⟨hE.df, _, results_tmp h a.tmps P w, by rw [hE.at' p _ hp]; exact hR⟩
/- Operations. -/
def RunV (n : Nat) (P : Program) (E : List (Nat × Value)) (o : Oper) (w : World) (v : Value) (w' : World) : Prop := ∀ a, Env n a E → (execOp a.eval o).run P w = .ok (.value v) w'
def RunS (n : Nat) (P : Program) (E : List (Nat × Value)) (o : Oper) (w : World) (w' : World) : Prop := ∀ a, Env n a E → (execOp a.eval o).run P w = .ok .skip w'
theorem wanted_none {o : Oper} (hg : o.guard = none) (y : Nat → Option Bool) : Region.wanted o y = true := by simp [Region.wanted, hg]
theorem yielded_of {a : Act} (hE : Env n a E) {j d : Nat} {b : Bool} (hj : (ops[j]?).bind (·.dst) = some d) (hb : lk E d = some (.bool b)) : yielded ops a.tmps j = some b := by
 have h1 := hE.at' d _ hb
 unfold yielded
 rw [hj]
 rw [Array.getD_eq_getD_getElem?] at h1
 cases h2 : a.tmps[d]? with
 | none => rw [h2] at h1; simp [undef] at h1
 | some v => rw [h2] at h1; simp at h1; subst h1; simp [h2]
theorem wanted_yes {o : Oper} {a : Act} (hE : Env n a E) {j d : Nat} {b : Bool} (hg : o.guard = some (j, b)) (hj : (ops[j]?).bind (·.dst) = some d) (hb : lk E d = some (.bool b)) : Region.wanted o (yielded ops a.tmps) = true := by
 simp [Region.wanted, hg, yielded_of hE hj hb]
theorem wanted_no {o : Oper} {a : Act} (hE : Env n a E) {j d : Nat} {b : Bool} (hg : o.guard = some (j, !b)) (hj : (ops[j]?).bind (·.dst) = some d) (hb : lk E d = some (.bool b)) : Region.wanted o (yielded ops a.tmps) = false := by
 cases b <;> simp [Region.wanted, hg, yielded_of hE hj hb]
variable {o : Oper} {rest : List Oper} {v : Value} {d : Nat}
theorem WL.vv (hg : o.guard = none) (hd : o.dst = some d) (hr : RunV n P E o w v w') (hdn : d < n) (h : WL n P ops Q rest ((d, v) :: E) w') : WL n P ops Q (o :: rest) E w := fun a hE =>
 wpList_plain hg fun K hK => by unfold Oper.wp; rw [hr a hE, Oper.upon_value, hd]; exact hK _ _ (h _ (hE.put hdn v))
theorem WL.s (hg : o.guard = none) (hd : o.dst = none) (hr : RunS n P E o w w') (h : WL n P ops Q rest E w') : WL n P ops Q (o :: rest) E w := fun a hE =>
 wpList_plain hg fun K hK => by unfold Oper.wp; rw [hr a hE, Oper.upon_skip, hd]; exact hK _ _ (h _ hE)
theorem WL.vg {j e : Nat} {b : Bool} (hg : o.guard = some (j, b)) (hj : (ops[j]?).bind (·.dst) = some e) (hb : lk E e = some (.bool b)) (hd : o.dst = some d) (hr : RunV n P E o w v w') (hdn : d < n) (h : WL n P ops Q rest ((d, v) :: E) w') : WL n P ops Q (o :: rest) E w := fun a hE =>
 wpList_step fun K hK => by rw [if_pos (wanted_yes hE hg hj hb)]; unfold Oper.wp; rw [hr a hE, Oper.upon_value, hd]; exact hK _ _ (h _ (hE.put hdn v))
theorem WL.no {j e : Nat} {b : Bool} (hg : o.guard = some (j, !b)) (hj : (ops[j]?).bind (·.dst) = some e) (hb : lk E e = some (.bool b)) (hd : o.dst = some d) (hdn : d < n) (h : WL n P ops Q rest ((d, undef) :: E) w) : WL n P ops Q (o :: rest) E w := fun a hE =>
 wpList_step fun K hK => by rw [if_neg (by rw [wanted_no hE hg hj hb]; simp), hd]; exact hK _ _ (h _ (hE.put hdn undef))
def RunC (n : Nat) (P : Program) (E : List (Nat × Value)) (o : Oper) (w : World) (f : FuncId) (args : Array Value) : Prop := ∀ a, Env n a E → (execOp a.eval o).run P w = .ok (.enter f args) w
theorem WL.c {f : FuncId} {args : Array Value} {R : Ending → World → Prop} (hg : o.guard = none) (hd : o.dst = some d) (hr : RunC n P E o w f args) (hdn : d < n) (hC : Calls P f args w R)
  (h : ∀ e w', R e w' → ∃ v, e = .returned v ∧ WL n P ops Q rest ((d, v) :: E) w') : WL n P ops Q (o :: rest) E w := fun a hE =>
 wpList_plain hg fun K hK => by
  unfold Oper.wp
  rw [hr a hE]
  refine hC.mono fun e w' he => ?_
  obtain ⟨v, rfl, hv⟩ := h e w' he
  rw [hd]
  exact hK _ _ (hv _ (hE.put hdn v))
theorem WL.cg {f : FuncId} {args : Array Value} {R : Ending → World → Prop} {j e : Nat} {b : Bool} (hg : o.guard = some (j, b)) (hj : (ops[j]?).bind (·.dst) = some e) (hb : lk E e = some (.bool b)) (hd : o.dst = some d) (hr : RunC n P E o w f args) (hdn : d < n) (hC : Calls P f args w R)
  (h : ∀ e w', R e w' → ∃ v, e = .returned v ∧ WL n P ops Q rest ((d, v) :: E) w') : WL n P ops Q (o :: rest) E w := fun a hE =>
 wpList_step fun K hK => by
  rw [if_pos (wanted_yes hE hg hj hb)]
  unfold Oper.wp
  rw [hr a hE]
  refine hC.mono fun e w' he => ?_
  obtain ⟨v, rfl, hv⟩ := h e w' he
  rw [hd]
  exact hK _ _ (hv _ (hE.put hdn v))
/- What single operations do. -/
theorem r_move {x : Operand} (ho : o.op = .move x) (hx : ev E x = some v) : RunV n P E o w v w := fun a hE => by simp [execOp, ho, hE.ev hx]
theorem r_assign {x : Operand} (ho : o.op = .assign x) (hx : ev E x = some v) : RunV n P E o w v w := fun a hE => by simp [execOp, ho, hE.ev hx]
def aggD : TypeDesc → Bool
 | .struct _ | .array _ _ => true
 | _ => false
theorem isAgg_no {T : TypeId} {ds : TypeDesc} (h : P.underlying T = some ds) (hd : aggD ds = false) : (isAgg T).run P w = .ok false w := by
 cases ds <;> simp [aggD] at hd <;> simp [isAgg, run_underlying h]
theorem r_load {T : TypeId} {ds : TypeDesc} {x : Operand} {ad : Addr} (ho : o.op = .load T x) (hx : ev E x = some (.pointer (some ad))) (hT : P.underlying T = some ds) (hd : aggD ds = false) (hc : w.cell? ad = some v) : RunV n P E o w v w := fun a hE => by
 simp [execOp, ho, hE.ev hx, Instr.loadAt, Instr.sureAddr, loadVar, isAgg_no hT hd, hc]
theorem r_loadS {T : TypeId} {ds : TypeDesc} {x : Operand} {b : Nat} {t : TypeId} {cs : Array Value} (ho : o.op = .load T x) (hx : ev E x = some (.pointer (some ⟨b, 0, none⟩))) (hT : P.underlying T = some ds) (hd : (match ds with | .struct _ | .array _ _ => true | _ => false) = true)
  (hb : RBlk w b t cs) (hi : (P.info? T).map (·.size) = some cs.size) : RunV n P E o w (.agg cs) w := fun a hE => by
 simp [execOp, ho, hE.ev hx, Instr.loadAt, Instr.sureAddr, run_loadVar_row w b t T cs (0, 0) ds hb hT hd hi]
def fieldOff (P : Program) (T : TypeId) (f : Nat) : Option Nat := match P.underlying T with
 | some (.struct fs) => match fs[f]? with
  | some fl => match P.info? fl.type with
   | some i => bif Nat.beq i.size 0 then none else some fl.offset
   | none => none
  | none => none
 | _ => none
theorem r_field {T : TypeId} {x : Operand} {f k b c : Nat} (ho : o.op = .fieldAddr T x f) (hx : ev E x = some (.pointer (some ⟨b, c, none⟩))) (hf : fieldOff P T f = some k) : RunV n P E o w (.pointer (some ⟨b, c + k, none⟩)) w := fun a hE => by
 unfold fieldOff at hf
 split at hf
 ·rename_i fs hu
  split at hf
  ·rename_i fl hfl
   split at hf
   ·rename_i i hi
    cases hz : Nat.beq i.size 0 with
    | true => rw [hz] at hf; simp at hf
    | false =>
     rw [hz] at hf; simp at hf; subst hf
     have hne : ¬ i.size = 0 := fun e => by rw [e] at hz; simp at hz
     have hs : (sizeOf fl.type).run P w = .ok i.size w := run_sizeOf hi
     simp [execOp, ho, hE.ev hx, Instr.fieldAt, run_underlying hu, hfl, Instr.sureAddr, fieldPlace, hs, hne, addr_add]
   ·simp at hf
  ·simp at hf
 ·simp at hf
def elemSize (P : Program) (T : TypeId) : Option Nat := match P.underlying T with
 | some (.slice e) => (P.info? e).map (·.size)
 | _ => none
theorem r_index {T : TypeId} {x i : Operand} {m b c len cap : Nat} {k : IntKind} {j : Int} (ho : o.op = .indexAddr T x i) (hx : ev E x = some (.slice (some ⟨b, c, none⟩) len cap)) (hi : ev E i = some (.int k j)) (h0 : 0 ≤ j) (h1 : j < len) (hT : elemSize P T = some m) :
  RunV n P E o w (.pointer (some ⟨b, c + j.toNat * m, none⟩)) w := fun a hE => by
 unfold elemSize at hT
 split at hT
 ·rename_i e hu
  simp only [Option.map_eq_some_iff] at hT
  obtain ⟨inf, hinf, rfl⟩ := hT
  simp [execOp, ho, hE.ev hx, hE.ev hi, Instr.indexAt, asIntOf, run_underlying hu, run_sizeOf hinf, h0, h1, addr_add]
 ·simp at hT
theorem r_ar {op : BinOp} {T U : TypeId} {x y : Operand} {k : IntKind} {p q : Int} (ho : o.op = .binOp op T x y U) (hop : isAr op = true) (hx : ev E x = some (.int k p)) (hy : ev E y = some (.int k q)) : RunV n P E o w (.int k (arI op k p q)) w := fun a hE => by
 cases op <;> simp [isAr] at hop <;> simp [execOp, ho, hE.ev hx, hE.ev hy, eqGuard, binOp, Op.intArith, Op.intBits, arI]
theorem r_cmp {op : BinOp} {T U : TypeId} {x y : Operand} {k : IntKind} {p q : Int} (ho : o.op = .binOp op T x y U) (hop : isCmp op = true) (hx : ev E x = some (.int k p)) (hy : ev E y = some (.int k q)) : RunV n P E o w (.bool (cmpI op p q)) w := fun a hE => by
 cases op <;> simp [isCmp] at hop <;> simp [execOp, ho, hE.ev hx, hE.ev hy, eqGuard, binOp, Op.intCmp, cmpI]
theorem r_not {T : TypeId} {x : Operand} {b : Bool} (ho : o.op = .unOp .not T x) (hx : ev E x = some (.bool b)) : RunV n P E o w (.bool (!b)) w := fun a hE => by
 simp [execOp, ho, hE.ev hx, Op.unary]
theorem r_pickT {c x y : Operand} (ho : o.op = .pick c x y) (hc : ev E c = some (.bool true)) (hx : ev E x = some v) : RunV n P E o w v w := fun a hE => by
 simp [execOp, ho, hE.ev hc, hE.ev hx, asBool]
theorem r_pickF {c x y : Operand} (ho : o.op = .pick c x y) (hc : ev E c = some (.bool false)) (hy : ev E y = some v) : RunV n P E o w v w := fun a hE => by
 simp [execOp, ho, hE.ev hc, hE.ev hy, asBool]
theorem r_box {T : TypeId} {x : Operand} (ho : o.op = .box T x) (hx : ev E x = some v) : RunV n P E o w (.pointer (some ⟨w.heap.size, 0, none⟩)) (w.alloc (.cells v.cells T)) := fun a hE => by
 simp [execOp, ho, hE.ev hx, Instr.box, newVar, newRow]
theorem r_alloc {T : TypeId} {z : Value} (ho : o.op = .alloc T) (hz : (P.info? T).bind (·.zero) = some z) : RunV n P E o w (.pointer (some ⟨w.heap.size, 0, none⟩)) (w.alloc (.cells z.cells T)) := fun a hE => by
 simp only [Option.bind_eq_some_iff] at hz
 obtain ⟨i, hi, hz⟩ := hz
 simp [execOp, ho, Instr.alloc, zeroValue, run_typeInfo hi, hz, newVar, newRow]
theorem r_call {cl : Go.Call} {f : FuncId} {args : Array Value} (hf : callable P f = true) (ho : o.op = .call cl) (hcl : cl.callee = .value (.func f)) (ha : cl.args.toList.map (ev E) = args.toList.map some) : RunC n P E o w f args := fun a hE => by
 rw [run_call hf ho hcl]
 have : cl.args.map a.eval = args := by
  rw [← Array.toList_inj, Array.toList_map]
  have key : ∀ (l : List Operand) (m : List Value), l.map (ev E) = m.map some → l.map a.eval = m := by
   intro l
   induction l with
   | nil => intro m h; cases m <;> simp_all
   | cons x r ih =>
    intro m h
    cases m with
    | nil => simp at h
    | cons y q =>
     simp only [List.map_cons, List.cons.injEq] at h ⊢
     exact ⟨hE.ev h.1, ih q h.2⟩
  exact key _ _ ha
 rw [this]
theorem r_len {cl : Go.Call} {x : Operand} {a0 : Option Addr} {len cap : Nat} (ho : o.op = .call cl) (hcl : cl.callee = .builtin .len) {T e : TypeId} (ha : cl.args = #[x]) (hat : cl.argTypes = #[T]) (hT : P.underlying T = some (.slice e)) (hx : ev E x = some (.slice a0 len cap)) : RunV n P E o w (.int .i64 len) w := fun a hE => by
 simp [execOp, ho, resolve, hcl, ha, hat, invoke, builtin, Builtin.len_, hE.ev hx, run_underlying hT, goInt]
theorem r_storeS {T : TypeId} {x y : Operand} {b : Nat} {t : TypeId} {C cs : Array Value} (ho : o.op = .store T x y) (hx : ev E x = some (.pointer (some ⟨b, 0, none⟩))) (hy : ev E y = some (.agg cs)) (hsz : (P.info? T).map (·.size) = some cs.size) (hone : ∀ u ∈ cs.toList, u.oneCell' = true) (hC : C.size = cs.size) (hb : RBlk w b t C) :
  ∃ w', RunS n P E o w w' ∧ RBlk w' b t cs ∧ OneBlock w w' b := by
 simp only [Option.map_eq_some_iff] at hsz
 obtain ⟨i, hi, hs⟩ := hsz
 obtain ⟨w', h1, h2, h3⟩ := run_storeCells (P := P) b t cs.toList w C 0 0 hb hone (by simp; omega)
 refine ⟨w', fun a hE => ?_, ?_, h3⟩
 ·have h4 : (storeVar T ⟨b, 0, none⟩ (.agg cs)).run P w = .ok () w' := by
   simp only [storeVar, Value.cells, Sem.run_bind, run_sizeOf hi, Result.andThen_ok, hs]
   simp [h1]
  simp [execOp, ho, hE.ev hx, hE.ev hy, Instr.storeAt, Instr.sureAddr, h4]
 ·have e : setAllA C (0 + 0) cs.toList = cs := by
   rw [← Array.toList_inj, setAllA_toList]
   have key : ∀ (l C : List Value) (k : Nat), C.length = k + l.length → setAll C k l = C.take k ++ l := by
    intro l
    induction l with
    | nil => intro C k h; simp [setAll]; exact (List.take_of_length_le (by simp at h; omega)).symm
    | cons x r ih =>
     intro C k h
     simp only [setAll, List.length_cons] at h ⊢
     rw [ih _ _ (by simp; omega)]
     have hk : k < C.length := by omega
     rw [List.take_add_one]
     simp [List.getElem?_set, hk, List.take_set_of_le]
   rw [key _ _ _ (by simp [hC])]
   simp
  rw [e] at h2
  exact h2
theorem r_cmpB {op : BinOp} {T U : TypeId} {x y : Operand} {k : IntKind} {p q : Int} {b : Bool} (ho : o.op = .binOp op T x y U) (hop : isCmp op = true) (hx : ev E x = some (.int k p)) (hy : ev E y = some (.int k q)) (hb : cmpI op p q = b) : RunV n P E o w (.bool b) w := hb ▸ r_cmp ho hop hx hy
theorem r_arB {op : BinOp} {T U : TypeId} {x y : Operand} {k : IntKind} {p q r : Int} (ho : o.op = .binOp op T x y U) (hop : isAr op = true) (hx : ev E x = some (.int k p)) (hy : ev E y = some (.int k q)) (hb : arI op k p q = r) : RunV n P E o w (.int k r) w := hb ▸ r_ar ho hop hx hy
theorem WL.st {T : TypeId} {x y : Operand} {b : Nat} {t : TypeId} {C cs : Array Value} (hg : o.guard = none) (hd : o.dst = none) (ho : o.op = .store T x y) (hx : ev E x = some (.pointer (some ⟨b, 0, none⟩))) (hy : ev E y = some (.agg cs)) (hb : RBlk w b t C) (hC : C.size = cs.size) (hone : ∀ u ∈ cs.toList, u.oneCell' = true) (hsz : (P.info? T).map (·.size) = some cs.size)
  (h : ∀ w', RBlk w' b t cs → OneBlock w w' b → WL n P ops Q rest E w') : WL n P ops Q (o :: rest) E w := by
 obtain ⟨w', h1, h2, h3⟩ := r_storeS (n := n) (P := P) (E := E) ho hx hy hsz hone hC hb
 exact WL.s hg hd h1 (h w' h2 h3)
theorem below_alloc_one {o : Obj} {w1 : World} (h : OneBlock (w.alloc o) w1 w.heap.size) : Below w.heap.size w w1 := by
 refine ⟨h.os, h.tape, h.output, by rw [h.size, World.size_alloc]; omega, fun i hi => ?_⟩
 rw [h.block i (by omega)]
 exact Below.heap_alloc w o i hi
def WS (n : Nat) (P : Program) (ops : Array Oper) (w : World) (K : Act → Prop) (l : List Oper) (E : List (Nat × Value)) : Prop := ∀ a, Env n a E → wpStill P ops w K l a
theorem CW.still {id : Nat} {l : List Oper} (hm : P.follows .mixedOrders = true) (hB : Region.lexB .any l.toArray = true)
  (h : ∀ wd : World, wd.heap = w.heap → Below w.heap.size w wd → WS n P l.toArray wd (fun a' => Q .normal a' wd) l E) : CW n P (.region id l.toArray true) Q E w := fun a hE =>
 wp_region_still_lit hm hB (h { w with drawn := w.drawn + 1 } rfl ⟨rfl, rfl, rfl, Nat.le_refl _, fun _ _ => rfl⟩ a hE)
theorem WS.fin {wd : World} (h : NX n (Q .normal) E wd) : WS n P ops wd (fun a' => Q .normal a' wd) [] E := fun a hE => wpStill_nil (h a hE)
theorem WS.vv {K : Act → Prop} {o : Oper} {rest : List Oper} {d : Nat} {v : Value} (hg : o.guard = none) (hd : o.dst = some d) (hr : RunV n P E o w v w) (hdn : d < n) (h : WS n P ops w K rest ((d, v) :: E)) : WS n P ops w K (o :: rest) E := fun a hE =>
 wpStill_step fun K' hK => by rw [if_pos (wanted_none hg _)]; unfold Oper.still; rw [hr a hE, Oper.stillUpon_value, hd]; exact hK _ (h _ (hE.put hdn v))
theorem calls_CW {f : FuncId} {fn : Func} {c : Code} {args : Array Value} {R : Ending → World → Prop} {E : List (Nat × Value)} {n : Nat} (hf : P.funcs[f]? = some fn) (hb : fn.body = some c) (hnn : fn.ntmps = n) (hn : args.size ≤ n) (hE : ∀ p ∈ E, args[p.1]? = some p.2)
  (h : CW n P c (bodyPost P fn R) E w) : Calls P f args w R := by
 subst hnn
 refine calls_of_wp hf hb (h _ (Env.of ?_ rfl fun p hp => ?_))
 ·simp; omega
 ·have := hE p hp
  have hlt := (Array.getElem?_eq_some_iff.1 this).1
  simp only [Array.getD_eq_getD_getElem?]
  rw [Array.getElem?_append_left hlt, this]; rfl
/- Regions of a shape. -/
section
variable {l0 f0 m1 m2 t0 t1 t2 t3 t4 t5 t6 t7 t8 t9 t10 : Nat} {T S U A B : TypeId} {dA dB : TypeDesc} {o0 o1 o2 o3 o4 o5 o6 o7 o8 o9 o10 : Oper} {x2 : Nat} {ad ad2 : Addr} {b c b' c' k k' : Nat} {s u s1 u1 : ByteArray}
end
end
end Go.Proofs.Ytjmakbnblpjkhaa
namespace Go.Proofs.Ytjmakbnblpjkhaa
open Go
section
variable {P : Program} {ops : Array Oper} {Q : Exit → Act → World → Prop} {md : Region.Mode} {S : World → Prop} {s : Nat}
def anyU (P : Program) (md : Region.Mode) (ops : Array Oper) (Q : Exit → Act → World → Prop) (S : World → Prop) (s : Nat) : Nat → Array Bool → Act → World → Prop
 | 0, L, a, w => Region.ready md ops L = [] ∧ Q .normal a w
 | n + 1, L, a, w => (Region.ready md ops L = [] → Q .normal a w) ∧
  ∀ i ∈ Region.ready md ops L, wpOp P ops Q i (fun a' w' => (i ≠ s → S w') ∧ anyU P md ops Q S s n (L.setIfInBounds i true) a' w') a w
theorem any_of_U : ∀ (n : Nat) (L : Array Bool) (a : Act) (w : World), anyU P md ops Q S s n L a w → wpAny P md ops Q n L a w
 | 0, _, _, _, h => h
 | n + 1, _, _, _, h => ⟨h.1, fun i hi => wpOp_mono (fun a' w' h' => any_of_U n _ a' w' h'.2) (h.2 i hi)⟩
def ClosedL (md : Region.Mode) (ops : Array Oper) (L : Array Bool) : Prop :=
 ∀ k ok, ops[k]? = some ok → L.getD k false = true → ∀ e ∈ ok.after, Region.binds md e = true → L.getD e.on false = true
theorem ClosedL.put {L : Array Bool} (h : ClosedL md ops L) {i : Nat} (hi : i ∈ Region.ready md ops L) : ClosedL md ops (L.setIfInBounds i true) := fun k ok hk hl e he hb => by
 by_cases hki : i = k
 ·subst hki
  obtain ⟨_, o, ho, hall⟩ := mem_ready.1 hi
  rw [hk] at ho; cases ho
  exact getD_set_true (hall e he hb)
 ·rw [getD_set_ne false hki] at hl
  exact getD_set_true (h k ok hk hl e he hb)
def closedB (md : Region.Mode) (ops : Array Oper) (L : Array Bool) : Bool :=
 (List.range ops.size).all fun k => !(L.getD k false) || ((ops[k]?).map fun o => o.after.all fun e => !Region.binds md e || L.getD e.on false).getD true
theorem closedB_spec {L : Array Bool} (h : closedB md ops L = true) : ClosedL md ops L := fun k ok hk hl e he hb => by
 have h1 := List.all_eq_true.1 h k (List.mem_range.2 (Array.getElem?_eq_some_iff.1 hk).1)
 simp only [hl, hk, Bool.not_true, Bool.false_or, Option.map_some, Option.getD_some] at h1
 have h2 := Array.all_eq_true_iff_forall_mem.1 h1 e he
 simpa [hb] using h2
def preB (md : Region.Mode) (ops : Array Oper) : Nat → Nat → Nat → Bool
 | 0, _, _ => false
 | n + 1, i, s => match ops[s]? with
  | none => false
  | some o => o.after.any fun e => Region.binds md e && (e.on == i || preB md ops n i e.on)
theorem pre_spec {L : Array Bool} (hc : ClosedL md ops L) {i : Nat} : ∀ (n s : Nat), preB md ops n i s = true →
  (∀ o, ops[s]? = some o → ∀ e ∈ o.after, Region.binds md e = true → L.getD e.on false = true) → L.getD i false = true := by
 intro n
 induction n with
 | zero => intro s h; cases h
 | succ n ih =>
  intro s h hs
  simp only [preB] at h
  cases ho : ops[s]? with
  | none => rw [ho] at h; cases h
  | some o =>
   rw [ho] at h
   obtain ⟨e, he, hb⟩ := Array.any_eq_true'.1 h
   simp only [Bool.and_eq_true, Bool.or_eq_true, beq_iff_eq] at hb
   have hl := hs o ho e he hb.1
   rcases hb.2 with h2 | h2
   ·rw [← h2]; exact hl
   ·exact ih e.on h2 (fun o' ho' => hc e.on o' ho' hl)
theorem anyU_first {i : Nat} {oi : Oper} {v : Value} (hi : ops[i]? = some oi) (hsel : ∀ (j : Nat) (o : Oper) cs b, ops[j]? = some o → o.op ≠ .select cs b)
  (hQ : ∀ c a w, Q (.panic c) (a.put oi.dst v) w → Q (.panic c) a w) (his : i ≠ s) (m : Nat) (hp : preB md ops m i s = true) :
  ∀ (n : Nat) (L : Array Bool) (a : Act) (w : World),
   (∀ j oj, ops[j]? = some oj → j ≠ i → L.getD j true = false → (∀ e ∈ oj.after, Region.binds md e = true → e.on ≠ i) → oi.apart ops oj = true) →
   i ∈ Region.ready md ops L → YieldsIf P ops S oi v a → S w → ClosedL md ops L →
   anyU P md ops Q S s n (L.setIfInBounds i true) (a.put oi.dst v) w → anyU P md ops Q S s (n + 1) L a w := by
 intro n
 induction n with
 | zero =>
  intro L a w _ hr hy hS _ H
  refine ⟨fun h => (by rw [h] at hr; cases hr), fun j hj => ?_⟩
  by_cases hji : j = i
  ·subst hji; exact hy.wpOp hi hS ⟨fun _ => hS, H⟩
  ·have := ready_mono hj hji
   rw [H.1] at this
   cases this
 | succ n ih =>
  intro L a w hfree hr hy hS hc H
  refine ⟨fun h => (by rw [h] at hr; cases hr), fun j hj => ?_⟩
  by_cases hji : j = i
  ·subst hji; exact hy.wpOp hi hS ⟨fun _ => hS, H⟩
  ·have hun := (mem_ready.1 hr).1
   have hni : L.getD i false ≠ true := fun h1 => by
    rcases Nat.lt_or_ge i L.size with h' | h'
    ·simp [h'] at hun h1; rw [hun] at h1; cases h1
    ·simp [Array.getElem?_eq_none h'] at h1
   have hjs : j ≠ s := fun e => by
    subst e
    obtain ⟨_, oj, hoj, hall⟩ := mem_ready.1 hj
    exact hni (pre_spec hc m j hp (fun o ho => by rw [hoj] at ho; cases ho; exact hall))
   have h1 := H.2 j (ready_mono hj hji)
   obtain ⟨hjun, oj, hoj, hall⟩ := mem_ready.1 hj
   have hnot : ∀ e ∈ oj.after, Region.binds md e = true → e.on ≠ i := fun e he hb heq => hni (by rw [← heq]; exact hall e he hb)
   have h2 := wpOp_putIf hoj (hfree j oj hoj hji hjun hnot) (fun cs b => hsel i oi cs b hi) (fun cs b => hsel j oj cs b hoj) hQ hy h1
   refine wpOp_mono (fun a' w' h3 => ⟨h3.2.1, ih (L.setIfInBounds j true) a' w' (fun k ok hk hki hun' hno => ?_) (ready_mono hr (Ne.symm hji)) h3.1 (h3.2.1 hjs) (hc.put hj) ?_⟩) h2
   ·refine hfree k ok hk hki ?_ hno
    by_cases hjk : j = k
    ·subst hjk; exact hjun
    ·rw [getD_set_ne true hjk] at hun'; exact hun'
   ·rw [Array.setIfInBounds_comm _ _ hji]
    exact h3.2.2
theorem anyU_take {i : Nat} {oi : Oper} {v : Value} {n : Nat} {L : Array Bool} {a : Act} {w : World} (hi : ops.toList[i]? = some oi)
  (hs : Region.noSelect ops = true) (hf : Region.free md ops L i = true) (hr : (Region.ready md ops L).contains i = true)
  (hp : (preB md ops 30 i s && !(i == s) && closedB md ops L) = true)
  (hQ : ∀ c a w, Q (.panic c) (a.put oi.dst v) w → Q (.panic c) a w) (hy : YieldsIf P ops S oi v a) (hS : S w)
  (h : anyU P md ops Q S s n (L.setIfInBounds i true) (a.put oi.dst v) w) : anyU P md ops Q S s (n + 1) L a w := by
 simp only [Bool.and_eq_true, Bool.not_eq_true', beq_eq_false_iff_ne] at hp
 exact anyU_first (by rw [← Array.getElem?_toList]; exact hi) (Region.noSelect_spec hs) hQ hp.1.2 30 hp.1.1 n L a w (Region.free_spec (by rw [← Array.getElem?_toList]; exact hi) hf) (by simpa using hr) hy hS (closedB_spec hp.2) h
def StepU (P : Program) (md : Region.Mode) (ops : Array Oper) (Q : Exit → Act → World → Prop) (S : World → Prop) (s n : Nat) (L : Array Bool) (a : Act) (w : World) (i : Nat) (o : Oper) : Prop :=
 ∀ K' : Act → World → Prop, (∀ a' w', (i ≠ s → S w') → ((i ≠ s → S w') → anyU P md ops Q S s n (L.setIfInBounds i true) a' w') → K' a' w') →
  if Region.wanted o (yielded ops a.tmps) = true then Oper.wp P o a w K' Q else K' (a.put o.dst undef) w
theorem StepU.op {i : Nat} {o : Oper} {n : Nat} {L : Array Bool} {a : Act} {w : World} (ho : ops[i]? = some o)
  (h : StepU P md ops Q S s n L a w i o) : wpOp P ops Q i (fun a' w' => (i ≠ s → S w') ∧ anyU P md ops Q S s n (L.setIfInBounds i true) a' w') a w := by
 have := h (fun a' w' => (i ≠ s → S w') ∧ anyU P md ops Q S s n (L.setIfInBounds i true) a' w') (fun a' w' h1 h2 => ⟨h1, h2 h1⟩)
 unfold wpOp
 rw [ho]
 show if Region.wanted o (yielded ops a.tmps) = true then _ else _
 split
 ·rename_i hw; rw [if_pos hw] at this; exact .inl this
 ·rename_i hw; rw [if_neg hw] at this; exact this
theorem anyU_one {i : Nat} {o : Oper} {n : Nat} {L : Array Bool} {a : Act} {w : World} (ho : ops.toList[i]? = some o) (hr : Region.ready md ops L = [i])
  (h : StepU P md ops Q S s n L a w i o) : anyU P md ops Q S s (n + 1) L a w :=
 ⟨fun e => (by rw [hr] at e; cases e), fun j hj => by
  have hj' := hj
  rw [hr] at hj'
  cases List.mem_singleton.1 hj'
  exact h.op (by rw [← Array.getElem?_toList]; exact ho)⟩
theorem anyU_done {L : Array Bool} {a : Act} {w : World} (hr : Region.ready md ops L = []) (h : Q .normal a w) : ∀ n, anyU P md ops Q S s n L a w
 | 0 => ⟨hr, h⟩
 | _ + 1 => ⟨fun _ => h, by rw [hr]; simp⟩
theorem wp_region_U {id : Nat} {a : Act} {w : World} (S : World → Prop) (s : Nat) (hm : P.follows .mixedOrders = true) (hS : S w.drew)
  (h : S w.drew → anyU P .any ops Q S s ops.size (Array.replicate ops.size false) a w.drew) : (Code.region id ops true).wp P Q a w :=
 wp_region_any hm (any_of_U _ _ _ _ (h hS))
end
end Go.Proofs.Ytjmakbnblpjkhaa
/- Walks over an environment: regions whose order is left open, with stores and calls. No program in sight. -/
namespace Go.Proofs.Ytjmakbnblpjkhaa
open Go.RowKit Go
variable [GC]
section
variable {n : Nat} {P : Program} {ops : Array Oper} {Q : Exit → Act → World → Prop} {S : World → Prop} {s k : Nat} {L : Array Bool} {E : List (Nat × Value)} {w w' : World} {i d : Nat} {o : Oper} {v : Value}
def AU (n : Nat) (P : Program) (ops : Array Oper) (Q : Exit → Act → World → Prop) (S : World → Prop) (s k : Nat) (L : Array Bool) (E : List (Nat × Value)) (w : World) : Prop := ∀ a, Env n a E → anyU P .any ops Q S s k L a w
theorem CW.any {id : Nat} {l : List Oper} (S : World → Prop) (s : Nat) (hm : P.follows .mixedOrders = true) (h : ∀ wd : World, wd.heap = w.heap → Below w.heap.size w wd → S wd ∧ AU n P l.toArray Q S s l.toArray.size (Array.replicate l.toArray.size false) E wd) : CW n P (.region id l.toArray true) Q E w := fun a hE => by
 have h1 := h w.drew rfl ⟨rfl, rfl, rfl, Nat.le_refl _, fun _ _ => rfl⟩
 exact wp_region_U S s hm h1.1 fun _ => h1.2 a hE
theorem AU.take (i : Nat) (hi : ops.toList[i]? = some o) (hs : Region.noSelect ops = true) (hf : Region.free .any ops L i = true) (hr : (Region.ready .any ops L).contains i = true) (hp : (preB .any ops 30 i s && !(i == s) && closedB .any ops L) = true)
  (hQ : ∀ c a w, Q (.panic c) (a.put o.dst v) w → Q (.panic c) a w) (hg : o.guard = none) (hd : o.dst = some d) (hrun : ∀ W, S W → RunV n P E o W v W) (hdn : d < n) (hS : S w) (h : AU n P ops Q S s k (L.setIfInBounds i true) ((d, v) :: E) w) : AU n P ops Q S s (k + 1) L E w := fun a hE =>
 anyU_take hi hs hf hr hp hQ (.inl ⟨wanted_none hg _, fun W hW => hrun W hW a hE⟩) hS (by rw [hd]; exact h _ (hE.put hdn v))
theorem AU.vv (i : Nat) (ho : ops.toList[i]? = some o) (hr : Region.ready .any ops L = [i]) (hg : o.guard = none) (hd : o.dst = some d) (hrun : RunV n P E o w v w') (hdn : d < n) (hS : i ≠ s → S w') (h : AU n P ops Q S s k (L.setIfInBounds i true) ((d, v) :: E) w') : AU n P ops Q S s (k + 1) L E w := fun a hE =>
 anyU_one ho hr fun K' hK => by
  rw [if_pos (wanted_none hg _)]
  unfold Oper.wp
  rw [hrun a hE, Oper.upon_value, hd]
  exact hK _ _ hS fun _ => h _ (hE.put hdn v)
theorem AU.c (i : Nat) {f : FuncId} {args : Array Value} {R : Ending → World → Prop} (ho : ops.toList[i]? = some o) (hr : Region.ready .any ops L = [i]) (hg : o.guard = none) (hd : o.dst = some d) (hrun : RunC n P E o w f args) (hdn : d < n) (hC : Calls P f args w R)
  (h : ∀ e w', R e w' → ∃ v, e = .returned v ∧ (i ≠ s → S w') ∧ AU n P ops Q S s k (L.setIfInBounds i true) ((d, v) :: E) w') : AU n P ops Q S s (k + 1) L E w := fun a hE =>
 anyU_one ho hr fun K' hK => by
  rw [if_pos (wanted_none hg _)]
  unfold Oper.wp
  rw [hrun a hE]
  refine hC.mono fun e w' he => ?_
  obtain ⟨v, rfl, hS, hv⟩ := h e w' he
  rw [hd]
  exact hK _ _ hS fun _ => hv _ (hE.put hdn v)
theorem AU.done (hr : Region.ready .any ops L = []) (h : NX n (Q .normal) E w) : AU n P ops Q S s k L E w := fun a hE => anyU_done hr (h a hE) k
end
end Go.Proofs.Ytjmakbnblpjkhaa
/- Walks over an environment: loops whose rounds are counted down; a chain of steps each of which is there. No program in sight. -/
namespace Go.Proofs.Ytjmakbnblpjkhaa
open Go.RowKit Go
variable [GC]
section
variable {n : Nat} {P : Program} {Q : Exit → Act → World → Prop} {E : List (Nat × Value)} {w : World}
def Again (n : Nat) (I : Nat → List (Nat × Value) → World → Prop) (m : Nat) (a : Act) (w : World) : Prop := ∃ m' E', m' < m ∧ I m' E' w ∧ Env n a E'
theorem CW.loop {c : Code} (I : Nat → List (Nat × Value) → World → Prop) (n0 : Nat) (h0 : I n0 E w) (round : ∀ m E w, I m E w → CW n P c (Exit.then (Again n I m) Q) E w) : CW n P (.loop c) Q E w := fun a hE =>
 wp_loop_ghost (fun m a w => ∃ E', I m E' w ∧ Env n a E') n0 ⟨E, h0, hE⟩ fun m a w ⟨E', h, hE'⟩ => by
  refine wp_mono (round m E' w h a hE') ?_
  intro e a' w' hq
  cases e with
  | normal =>
   obtain ⟨m', E2, h1, h2, h3⟩ := hq
   exact ⟨m', h1, E2, h2, h3⟩
  | exit id => exact hq
  | goto l => exact hq
  | ret => exact hq
  | panic ch => exact hq
  | outgrown => exact hq
theorem NX.again {I : Nat → List (Nat × Value) → World → Prop} {m : Nat} (m' : Nat) (E' : List (Nat × Value)) (h1 : m' < m) (hs : allLk E E') (h2 : I m' E' w) : NX n (Exit.then (Again n I m) Q .normal) E w := fun a hE => ⟨m', E', h1, h2, hE.sub hs⟩
end
/- Several operations may come up. -/
section
variable {n : Nat} {P : Program} {ops : Array Oper} {Q : Exit → Act → World → Prop} {S : World → Prop} {s k : Nat} {L L' : Array Bool} {E E' : List (Nat × Value)} {w w' : World} {i j d : Nat} {o : Oper} {v : Value}
theorem r_extract {x : Operand} {i : Nat} {vs : Array Value} (ho : o.op = .extract x i) (hx : ev E x = some (.tuple vs)) (hv : vs[i]? = some v) : RunV n P E o w v w := fun a hE => by
 simp [execOp, ho, hE.ev hx, Instr.extract, hv]
end
end Go.Proofs.Ytjmakbnblpjkhaa
/- Walk: an entry is taken out (impl.RemoveEntry): each row in the answer lies in a new block of its own. -/
namespace Go.Proofs.Ytjmakbnblpjkhaa
open Go.RowKit Go
section
variable {n : Nat} {P : Program} {E : List (Nat × Value)} {w w' : World} {o : Oper} {v u : Value}
theorem NX.bodyT2 {fn : Func} {R : Ending → World → Prop} {p q : Tmp} (h : fn.results = #[.tmp p, .tmp q]) (hp : lk E p = some v) (hq : lk E q = some u) (hR : R (.returned (.tuple #[v, u])) w) : NX n (bodyPost P fn R .ret) E w :=
 fun a hE => ⟨hE.df, _, results_tmp2 h a.tmps P w, by rw [hE.at' p _ hp, hE.at' q _ hq]; exact hR⟩
theorem r_append {s x : Operand} {t : TypeId} (hop : o.op = Op.call { callee := Callee.builtin Builtin.append, args := #[s, x], argTypes := #[t, t] }) (hs : ev E s = some v) (hx : ev E x = some u) {y : Value} (hr : (Builtin.append_ #[t, t] o.type #[v, u]).run P w = .ok y w') : RunV n P E o w y w' := fun a hE => by
 unfold execOp
 simp only [hop, resolve, invoke, builtin, Sem.run_bind, Sem.run_pure, Result.andThen_ok, List.map_toArray, List.map_cons, List.map_nil, hE.ev hs, hE.ev hx, hr]
theorem r_slice {T : TypeId} {x : Operand} {lo hi : Option Operand} {m : Nat} {ad : Option Addr} {len cap : Nat} {l h : Int} (ho : o.op = .slice T x lo hi none) (hx : ev E x = some (.slice ad len cap))
  (hlo : (lo = none ∧ l = 0) ∨ ∃ y k, lo = some y ∧ ev E y = some (.int k l)) (hhi : (hi = none ∧ h = len) ∨ ∃ y k, hi = some y ∧ ev E y = some (.int k h)) (h1 : 0 ≤ l) (h2 : l ≤ h) (h3 : h ≤ len) (h4 : len ≤ cap)
  (hT : ∃ e i, P.underlying T = some (.slice e) ∧ P.info? e = some i ∧ i.size = m) : RunV n P E o w (.slice (if cap = l.toNat then ad else ad.map (·.add (l.toNat * m))) (h.toNat - l.toNat) (cap - l.toNat)) w := fun a hE => by
 have hL : (lo.map a.eval = none ∧ l = 0) ∨ ∃ k, lo.map a.eval = some (.int k l) := by
  rcases hlo with ⟨rfl, rfl⟩ | ⟨y, k, rfl, hy⟩
  ·exact .inl ⟨rfl, rfl⟩
  ·exact .inr ⟨k, by simp [hE.ev hy]⟩
 have hH : (hi.map a.eval = none ∧ h = len) ∨ ∃ k, hi.map a.eval = some (.int k h) := by
  rcases hhi with ⟨rfl, rfl⟩ | ⟨y, k, rfl, hy⟩
  ·exact .inl ⟨rfl, rfl⟩
  ·exact .inr ⟨k, by simp [hE.ev hy]⟩
 obtain ⟨e, i, hd1, hj, hjs⟩ := hT
 simp [execOp, ho, hE.ev hx, Instr.sliceAt, Instr.slice, run_underlying hd1, bounds_run hL hH h1 h2 h3 h4, run_sizeOf hj, hjs]
end
theorem below_on {C : Nat} {w w' w'' : World} (h : Below C w w') (h' : Below C w' w'') : Below C w w'' :=
 ⟨h'.os.trans h.os, h'.tape.trans h.tape, h'.output.trans h.output, Nat.le_trans h.size h'.size, fun k hk => (h'.block k hk).trans (h.block k hk)⟩
theorem R_cut {w : World} {M : Addr → Prop} {rows : List (List D)} {ad : Option Addr} {len cap m l h : Nat} (hr : R w M (.sl rows) (.slice ad len cap)) (hn : ∀ r ∈ rows, r.length = m) (h2 : l ≤ h) (h3 : h ≤ len) :
  R w M (.sl ((rows.drop l).take (h - l))) (.slice (if cap = l then ad else ad.map (·.add (l * m))) (h - l) (cap - l)) := by
 obtain ⟨a', len', cap', e, hlen, hcap, hmax, hnone, hcells⟩ := hr
 cases e
 refine ⟨_, _, _, rfl, by simp; omega, by omega, by omega, fun hn => ?_, fun b o' s he => ?_⟩
 ·rcases ad with _ | ad
  ·have := hnone rfl; omega
  ·split at hn
   ·cases hn
   ·simp at hn
 ·by_cases hz : h - l = 0
  ·rw [hz, List.take_zero]; exact ⟨fun h => absurd h (by omega), trivial⟩
  ·have hne : cap ≠ l := by omega
   rw [if_neg hne] at he
   rcases ad with _ | ⟨b1, o1, s1⟩
   ·simp at he
   ·obtain ⟨hs1, hrw⟩ := hcells b1 o1 s1 rfl
    have := hs1 (by omega)
    subst this
    simp only [Option.map_some, addr_add, Option.some.injEq, Addr.mk.injEq] at he
    obtain ⟨rfl, rfl, rfl⟩ := he
    exact ⟨fun _ => rfl, hrw.cut (fun r hr => hn r hr) _ _⟩
theorem owns_low {w : World} {B B' n sz : Nat} {e : TypeId} {v : Value} {xs : List Value} (h : w.ownsRow B e sz v n xs) (hB : B' ≤ B) : w.ownsRow B' e sz v n xs := by
 obtain ⟨h0, h | ⟨g', cap, cur, h1, h2, h3⟩⟩ := h
 ·exact ⟨h0, .inl h⟩
 ·exact ⟨h0, .inr ⟨g', cap, cur, h1, Nat.le_trans hB h2, h3⟩⟩
theorem Rows.low {B B' : Nat} {w : World} {ob : Option Nat} {n : Nat} {l : List Entry} {xs : List Value} {u1 u4 : Nat → Value} {ro no : Nat → Option Nat} (h : Rows B w ob n l xs u1 u4 ro no) (hB : B' ≤ B) : Rows B' w ob n l xs u1 u4 ro no :=
 { h with r1 := fun a ha => (h.r1 a ha).low hB, r4 := fun a ha => (h.r4 a ha).low hB }
def Own (B : Nat) (T : TypeId) (w : World) (l : List Entry) (v : Value) : Prop := ∃ xs u1 u4 ro no, w.ownsRow B T 5 v l.length xs ∧ Rows B w v.ownBlock l.length l xs u1 u4 ro no
theorem Own.below {B : Nat} {T : TypeId} {w w' : World} {l : List Entry} {v : Value} (h : Own B T w l v) (hb : Below w.heap.size w w') : Own B T w' l v := by
 obtain ⟨xs, u1, u4, ro, no, h1, h2⟩ := h
 exact ⟨xs, u1, u4, ro, no, owns_below h1 hb, h2.move hb.size (fun j hj _ => hb.block j hj) (.inl rfl)⟩
theorem Own.low {B B' : Nat} {T : TypeId} {w : World} {l : List Entry} {v : Value} (h : Own B T w l v) (hB : B' ≤ B) : Own B' T w l v := by
 obtain ⟨xs, u1, u4, ro, no, h1, h2⟩ := h
 exact ⟨xs, u1, u4, ro, no, owns_low h1 hB, h2.low hB⟩
theorem Own.one {B : Nat} {T : TypeId} {w : World} {l : List Entry} {v : Value} (h : Own B T w l v) : ∃ a n c, v = .slice a n c ∧ n = l.length ∧ n ≤ c := by
 obtain ⟨xs, u1, u4, ro, no, ⟨_, ⟨rfl, h⟩ | ⟨g, cap, cur, rfl, _, _, h, _⟩⟩, h2⟩ := h
 ·exact ⟨_, _, _, rfl, h.symm, Nat.le_refl _⟩
 ·exact ⟨_, _, _, rfl, rfl, h⟩
theorem own_append {P : Program} {T Tl ty : TypeId} {ti : TypeInfo} {z : Value} (ht : P.underlying Tl = some (.slice T)) (hti : P.info? T = some ti) (hz : ti.zero = some z) (hsz : ti.size = 5) (hby : ti.bytes = 80) (hzs : z.cells.size = 5)
  {B : Nat} {w : World} {w1 : World} {l1 l2 : List Entry} {v1 v2 : Value} (h1 : Own B T w1 l1 v1) (hb : Below w1.heap.size w1 w) (h2 : Own w1.heap.size T w l2 v2) (hB : B ≤ w1.heap.size) (hl1 : l1.length ≤ 1048576) (hl2 : l2.length ≤ 1048576) :
  ∃ v' w', (Builtin.append_ #[Tl, Tl] ty #[v1, v2]).run P w = .ok v' w' ∧ Own B T w' (l1 ++ l2) v' ∧ ∀ C, C ≤ B → Below C w w' := by
 obtain ⟨xs1, u1, u4, ro, no, O1, R1⟩ := h1
 obtain ⟨xs2, p1, p4, ro2, no2, O2, R2⟩ := h2
 have O1' := owns_below O1 hb
 have old1 : ∀ a x, a < l1.length → ro a = some x → x < w1.heap.size := fun a x ha e => ((R1.r1 a ha).le e).2
 have old4 : ∀ a x, a < l1.length → no a = some x → x < w1.heap.size := fun a x ha e => ((R1.r4 a ha).le e).2
 have ob : ∀ x, v1.ownBlock = some x → x < w1.heap.size := fun x e => (owns_base O1 e).2
 have R1' := R1.move hb.size (fun j hj _ => hb.block j hj) (.inl rfl)
 have J := R1'.join R2 hB old1 old4 ob
 have hx2 : ∀ u ∈ xs2, u.oneCell' = true := fun u hu => by
  obtain ⟨j, hj, rfl⟩ := List.getElem_of_mem hu
  have hjl : j < l2.length * 5 := by rw [← R2.xl]; exact hj
  have hdm : j = j / 5 * 5 + j % 5 := by omega
  have hd : j / 5 < l2.length := by omega
  have key : ∀ u, xs2[j]? = some u → u.oneCell' = true := fun u hu => by
   rw [hdm] at hu
   have hm : j % 5 = 0 ∨ j % 5 = 1 ∨ j % 5 = 2 ∨ j % 5 = 3 ∨ j % 5 = 4 := by omega
   have rs : ∀ {rows : List (List D)} {y : Value} {r : Option Nat}, RowIn w1.heap.size w rows y r → y.oneCell' = true := fun {rows y r} h => by
    cases r with
    | none => obtain ⟨a, len, cap, rfl, _⟩ := h; rfl
    | some r => obtain ⟨_, _, a, len, cap, rfl, _⟩ := h; rfl
   rcases hm with e | e | e | e | e
   ·rw [e, Nat.add_zero, (R2.x0 _ hd).1] at hu; cases hu; rfl
   ·rw [e, R2.x1 _ hd] at hu; cases hu; exact rs (R2.r1 _ hd)
   ·rw [e, (R2.x2 _ hd).1] at hu; cases hu; rfl
   ·rw [e, (R2.x3 _ hd).1] at hu; cases hu; rfl
   ·rw [e, R2.x4 _ hd] at hu; cases hu; exact rs (R2.r4 _ hd)
  exact key _ (List.getElem?_eq_getElem hj)
 obtain ⟨hx0, ⟨rfl, hn0⟩ | ⟨g2, cap2, cur2, rfl, hg2, hh2, hc2, hm2, hs2, ht2⟩⟩ := O2
 ·have hl0 : l2 = [] := List.eq_nil_of_length_eq_zero hn0
  subst hl0
  have hx0' : xs2 = [] := List.eq_nil_of_length_eq_zero (by rw [hx0]; simp)
  subst hx0'
  obtain ⟨base, k, c, rfl, hk, hle⟩ : ∃ a n c, v1 = .slice a n c ∧ n = l1.length ∧ n ≤ c := Own.one ⟨_, _, _, _, _, O1, R1⟩
  refine ⟨_, w, run_append_nothing w Tl Tl ty T ti ht hti base k c hle (.slice none 0 0) (Src.ofNil w ht 0), ⟨xs1, u1, u4, ro, no, by rw [List.append_nil]; exact O1', by rw [List.append_nil]; exact R1'⟩, fun C _ => Below.refl _ _⟩
 ·have hnews : ∀ j u, xs2[j]? = some u → w.cell? ((⟨g2, 0, none⟩ : Addr).add j) = some u := fun j u hu => by
   rw [Addr.add_lit]
   unfold World.cell?
   simp only [hh2]
   rw [← ht2, List.getElem?_take] at hu
   split at hu
   ·simpa using hu
   ·cases hu
  have hxl : xs2.length = l2.length * 5 := hx0
  obtain ⟨v', w', hr, q2, q3, q4, q5⟩ := run_append_own_at (P := P) w B Tl ty T ti z 5 80 ht hti hz hsz hby hzs (by decide) v1 l1.length xs1 O1' ⟨g2, 0, none⟩ l2.length cap2 xs2 hxl hnews hx2 (by unfold maxLen; omega) (by omega) (Nat.le_trans hB hb.size)
  refine ⟨v', w', hr, ⟨_, _, _, _, _, by rw [List.length_append]; exact q2, J.move q3.size (fun j hj hne => q3.block j hj hne) ?_⟩, fun C hC => ⟨q3.os, q3.tape, q3.output, q3.size, fun j hj => ?_⟩⟩
  ·rcases q5 with e | e
   ·exact .inl e
   ·exact .inr fun x hx => by rw [e] at hx; cases hx; exact Nat.le_refl _
  ·have : j < w.heap.size := Nat.lt_of_lt_of_le hj (Nat.le_trans hC (Nat.le_trans hB hb.size))
   exact q3.block j this fun e => by have := (owns_base O1 e.symm).1; omega
theorem ca_find : callable Try.prog 22 = true := by kernel_rfl
theorem ca_reg : callable Try.prog 23 = true := by kernel_rfl
theorem ca_ces : callable Try.prog 24 = true := by kernel_rfl
theorem es_T : ∃ e i, Try.prog.underlying 24 = some (.slice e) ∧ Try.prog.info? e = some i ∧ i.size = 5 := by
 obtain ⟨ti, hti, hz, hsz, hby⟩ := info_parts (P := Try.prog) (e := 42) (z := .agg #[.string ⟨#[]⟩, .slice Option.none 0 0, .int .i64 0, .int .i64 0, .slice Option.none 0 0]) (size := 5) (bytes := 80) (by kernel_rfl)
 exact ⟨_, ti, Try.underlying24, hti, hsz⟩
theorem w_copies (l : List Entry) (hl : l.length ≤ 1048576) (hf : ∀ e ∈ l, e.fit) (w : World) (v : Value) (hv : R w (fun _ => False) (encS l) v) :
  Calls Try.prog 24 #[v] w fun e w' => ∃ v', e = .returned v' ∧ Own w.heap.size 42 w' l v' ∧ Below w.heap.size w w' := by
 refine (h_copyEntries l hl (fun k hk => c_impl_copyEntry _ (hf _ (nth_mem hk))) w v hv).mono ?_
 rintro e w' ⟨v', xs, u1, u4, ro, no, rfl, h1, h2, h3⟩
 exact ⟨v', rfl, ⟨xs, u1, u4, ro, no, h1, h2⟩, h3⟩
theorem cut_take {w : World} {l : List Entry} {a : Option Addr} {len cap i : Nat} (hv : R w (fun _ => False) (encS l) (.slice a len cap)) (hi : i ≤ len) : R w (fun _ => False) (encS (l.take i)) (.slice (if cap = 0 then a else a.map (·.add (0 * 5))) (i - 0) (cap - 0)) := by
 have := R_cut (m := 5) (l := 0) (h := i) hv (ent_len l) (Nat.zero_le _) hi
 rw [List.drop_zero, Nat.sub_zero] at this
 show R w _ (.sl ((l.take i).map Enc.cells)) _
 rw [List.map_take]
 simpa using this
theorem cut_drop {w : World} {l : List Entry} {a : Option Addr} {len cap i : Nat} (hv : R w (fun _ => False) (encS l) (.slice a len cap)) (hl : len = l.length) (hi : i ≤ len) : R w (fun _ => False) (encS (l.drop i)) (.slice (if cap = i then a else a.map (·.add (i * 5))) (len - i) (cap - i)) := by
 have := R_cut (m := 5) (l := i) (h := len) hv (ent_len l) hi (Nat.le_refl _)
 rw [List.take_of_length_le (by simp; omega)] at this
 show R w _ (.sl ((l.drop i).map Enc.cells)) _
 rw [List.map_drop]
 exact this
end Go.Proofs.Ytjmakbnblpjkhaa
/- The marks of entries are all there; two rows of entries behind one another. -/
namespace Go.Proofs.Ytjmakbnblpjkhaa
open Go.RowKit Go
theorem c_heldEntryS (l : List Entry) (k : Nat) (hk : k + cntTo l l.length ≤ 1152921504606846970) (hll : l.length ≤ 1152921504606846976) : Fun Try.prog 11 none [encS (mixL k l l.length), .int .i64 k] (.int .i64 ((k + cntTo l l.length : Nat) : Int)) [] := by
 refine Fun.ofV vc_laws_heldEntryS_ok ty_laws_heldEntryS_ok rfl ?_ (fun hfit => ?_)
 ·exact ⟨ty_EntryS _, rfl, trivial⟩
 unfold vc_laws_heldEntryS
 have hml := mixL_len k l l.length
 refine den_for l.length (fun i => [.int .i64 ((k + cntTo l i : Nat) : Int), .int .i64 i]) (fun _ => True) rfl trivial ?_
 intro i hi _ _
 simp only [cA]
 refine den_ite (fun h2 => ?_) (fun h2 => ?_)
 ·simp only [E.den, dEq, iEq, sEq, hml] at h2
  have h2 : i < l.length := by simpa using h2
  have hat : nth (mixL k l l.length) i = markE k l i := by rw [mixL_at h2, if_pos h2]
  have hcm := cntTo_mono l (show i + 1 ≤ l.length by omega)
  simp only [cntTo, cntE] at hcm
  obtain ⟨K, hK⟩ : ∃ K, k + cntTo l i = K := ⟨_, rfl⟩
  rw [hK]
  have hc0 : (markE k l i).name = mkT K := by unfold markE; rw [hK]
  have hc1 : (markE k l i).recipe = mkStr (K + 1) (nth l i).recipe.length := by unfold markE; rw [hK]
  have hc2 : (markE k l i).ver.maj = ((K + 1 + (nth l i).recipe.length : Nat) : Int) := by unfold markE; rw [hK]
  have hc3 : (markE k l i).ver.min = ((K + 1 + (nth l i).recipe.length : Nat) : Int) + 1 := by unfold markE; rw [hK]
  have hc4 : (markE k l i).needs = mkNeed (K + 1 + (nth l i).recipe.length + 2) (nth l i).needs.length := by unfold markE; rw [hK]
  have e1 : arI .add .i64 (K : Int) 1 = ((K + 1 : Nat) : Int) := ar_add (by omega) (by omega)
  have e2 : arI .add .i64 ((K + 1 + (nth l i).recipe.length : Nat) : Int) 1 = ((K + 1 + (nth l i).recipe.length : Nat) : Int) + 1 := ar_add (by omega) (by omega)
  have e3 : arI .add .i64 (((K + 1 + (nth l i).recipe.length : Nat) : Int) + 1) 1 = ((K + 1 + (nth l i).recipe.length + 2 : Nat) : Int) := by rw [ar_add (by omega) (by omega)]; omega
  have H1 := c_heldStringS (nth l i).recipe (K + 1) (by omega)
  rw [mkStr_rows] at H1
  have H4 := c_heldNeedS (nth l i).needs (K + 1 + (nth l i).recipe.length + 2) (by omega)
  rw [mkNeed_rows] at H4
  refine den_cond (fun _ => ?_) ?_
  ·simp only [E.den, dEq, iEq, sEq, hml]; simp; omega
  ((first | refine den_call ?_ (c_markText K (by omega)) (trivial) ?_ | refine den_callR ?_ (c_markText K (by omega)) (trivial) ?_ | refine den_call ?_ (.ofR (c_markText K (by omega))) (trivial) ?_); (focus (simp only [VC.den, E.den, dEq, gsH_nil, and_true]; try exact rfl)); (simp only [cA]))
  refine den_ite (fun h3 => ?_) (fun _ => ?_)
  ·simp only [E.den, dEq, iEq, sEq, row_Entry, hat, cells_Entry, hc0] at h3
   simp at h3
  refine den_cond (fun _ => ?_) ?_
  ·simp only [E.den, dEq, iEq, sEq, hml]; simp; omega
  ((first | refine den_call ?_ (H1) (rfl) ?_ | refine den_callR ?_ (H1) (rfl) ?_ | refine den_call ?_ (.ofR (H1)) (rfl) ?_); (focus (simp only [VC.den, E.den, dEq, gsH_nil, and_true, row_Entry, hat, cells_Entry, hc1, e1, encS, Int.toNat_natCast]; try exact rfl)); (simp only [cA]))
  refine den_ite (fun h3 => ?_) (fun _ => ?_)
  ·simp only [E.den, dEq, iEq, sEq] at h3
   simp at h3; omega
  refine den_cond (fun _ => ?_) ?_
  ·simp only [E.den, dEq, iEq, sEq, hml]; simp; omega
  refine den_ite (fun h3 => ?_) (fun _ => ?_)
  ·simp only [E.den, dEq, iEq, sEq, row_Entry, hat, cells_Entry, hc2] at h3
   simp at h3
  refine den_cond (fun _ => ?_) ?_
  ·simp only [E.den, dEq, iEq, sEq, hml]; simp; omega
  refine den_ite (fun h3 => ?_) (fun _ => ?_)
  ·simp only [E.den, dEq, iEq, sEq, row_Entry, hat, cells_Entry, hc3, e2] at h3
   simp at h3
  refine den_cond (fun _ => ?_) ?_
  ·simp only [E.den, dEq, iEq, sEq, hml]; simp; omega
  ((first | refine den_call ?_ (H4) (rfl) ?_ | refine den_callR ?_ (H4) (rfl) ?_ | refine den_call ?_ (.ofR (H4)) (rfl) ?_); (focus (simp only [VC.den, E.den, dEq, gsH_nil, and_true, row_Entry, hat, cells_Entry, hc4, e2, e3, encS, Int.toNat_natCast]; try exact rfl)); (simp only [cA]))
  refine den_ite (fun h3 => ?_) (fun _ => ?_)
  ·simp only [E.den, dEq, iEq, sEq] at h3
   simp at h3; omega
  refine den_next h2 ?_ trivial
  simp only [E.den, dEq, iEq, sEq]
  rw [ar_add (by omega) (by omega)]
  rw [show K + 1 + (nth l i).recipe.length + 2 + 4 * (nth l i).needs.length = k + cntTo l (i + 1) by simp only [cntTo, cntE]; omega]
  rfl
 ·simp only [E.den, dEq, iEq, sEq, hml] at h2
  obtain rfl : i = l.length := by simp at h2; omega
  exact den_ret rfl
end Go.Proofs.Ytjmakbnblpjkhaa
/- Copies of entries that are owned: how they read, how they are marked. -/
namespace Go.Proofs.Ytjmakbnblpjkhaa
open Go.RowKit Go
theorem Own.alt {A : Addr → Prop} {B : Nat} {T : TypeId} {w w' : World} {l : List Entry} {v : Value} (h : Own B T w l v) (ha : Alt A w w') (hA : ∀ p, A p → p.block < B) : Own B T w' l v := by
 obtain ⟨xs, u1, u4, ro, no, h1, h2⟩ := h
 have hb : ∀ j, j < w.heap.size → B ≤ j → w'.heap[j]? = w.heap[j]? := fun j hj hB => ha.blk j hj fun p hp hq => by have := hA p hq; omega
 refine ⟨xs, u1, u4, ro, no, ?_, ?_⟩
 ·obtain ⟨q0, q | ⟨g, cap, cur, q1, q2, q3, q4⟩⟩ := h1
  ·exact ⟨q0, .inl q⟩
  ·exact ⟨q0, .inr ⟨g, cap, cur, q1, q2, by rw [hb g (Array.getElem?_eq_some_iff.1 q3).1 q2]; exact q3, q4⟩⟩
 ·have key : ∀ {rows : List (List D)} {u : Value} {r : Option Nat}, RowIn B w rows u r → RowIn B w' rows u r := fun {rows u r} h => by
   refine h.keep ha.size (fun p v hp e => ?_) fun p hp e => ?_
   ·have := (h.le e).1
    rw [World.cell?_of_block (hb p.block (block_lt_of_cell hp) this)]
    exact hp
   ·exact fro_of_block (hb p.block hp (h.le e).1)
  exact { h2 with r1 := fun a hA => key (h2.r1 a hA), r4 := fun a hA => key (h2.r4 a hA) }
theorem Own.sep {B : Nat} {T : TypeId} {w : World} {l : List Entry} {v : Value} (h : Own B T w l v) : (v = .slice none 0 0 ∧ l = []) ∨ ∃ g cap rb nb u1 u4, v = .slice (some ⟨g, 0, none⟩) l.length cap ∧ B ≤ g ∧ g < w.heap.size ∧ l.length ≤ cap ∧ cap ≤ maxLen ∧ SepE w g 0 rb nb l u1 u4 ∧ ∀ a, a < l.length → B ≤ rb a ∧ B ≤ nb a := by
 obtain ⟨xs, u1, u4, ro, no, ⟨q0, ⟨rfl, hn⟩ | ⟨g, cap, cur, rfl, q2, q3, q4, q5, q6, q7⟩⟩, h2⟩ := h
 ·exact .inl ⟨rfl, List.eq_nil_of_length_eq_zero hn⟩
 ·have hp := Rows.pre (T := T) (g := g) (cap := cap) (cur := cur) (l := l) (xs := xs) h2 q2 q3 q7
  have hg := (Array.getElem?_eq_some_iff.1 q3).1
  refine .inr ⟨g, cap, _, _, u1, u4, rfl, q2, hg, q4, q5, hp.sep, fun a ha => ⟨?_, ?_⟩⟩
  ·cases e : ro a with
   | none => simp only [Option.getD_none]; omega
   | some x => simp only [Option.getD_some]; exact ((h2.r1 a ha).le e).1
  ·cases e : no a with
   | none => simp only [Option.getD_none]; omega
   | some x => simp only [Option.getD_some]; exact ((h2.r4 a ha).le e).1
theorem R_nilE {w : World} {M : Addr → Prop} : R w M (encS ([] : List Entry)) (.slice none 0 0) := ⟨none, 0, 0, rfl, rfl, Nat.le_refl _, Nat.zero_le _, fun _ => rfl, fun b o s h => by cases h⟩
theorem Own.read {B : Nat} {T : TypeId} {w : World} {l : List Entry} {v : Value} (h : Own B T w l v) : R w (fun _ => False) (encS l) v := by
 rcases h.sep with ⟨rfl, rfl⟩ | ⟨g, cap, rb, nb, u1, u4, rfl, _, _, h4, h5, h6, _⟩
 ·exact R_nilE
 ·exact h6.read h4 h5
theorem m_Own (l : List Entry) (k : Nat) (w : World) {B : Nat} {T : TypeId} {v : Value} (h : Own B T w l v) (hk : k + cntTo l l.length ≤ 1152921504606846970) (hll : l.length ≤ 1152921504606846976) :
  Calls Try.prog 10 #[v, .int .i64 k] w fun e w' => e = .returned (.int .i64 ((k + cntTo l l.length : Nat) : Int)) ∧ Alt (fun p => B ≤ p.block) w w' ∧ R w' (fun _ => False) (encS (mixL k l l.length)) v := by
 rcases h.sep with ⟨rfl, rfl⟩ | ⟨g, cap, rb, nb, u1, u4, rfl, h2, h3, h4, h5, h6, h7⟩
 ·refine (m_EntryS [] k w (fun _ => True) _ R_nilE (fun _ _ => trivial) hk hll).mono ?_
  rintro e w' ⟨rfl, ha⟩
  exact ⟨rfl, ha.mono fun p _ hp => absurd trivial hp, R_nilE⟩
 ·refine (m_EntryX l k w g 0 cap rb nb u1 u4 h6 h3 hk hll).mono ?_
  rintro e w' ⟨rfl, ha, hs⟩
  refine ⟨rfl, ha.mono fun p _ hp => ?_, ?_⟩
  ·rcases hp with hp | ⟨a, ha, hp | hp⟩
   ·rw [hp]; exact h2
   ·rw [hp]; exact (h7 a ha).1
   ·rw [hp]; exact (h7 a ha).2
  ·have := hs.read (cap := cap) (by rw [mixL_len]; exact h4) h5
   rw [mixL_len] at this
   exact this
theorem cnt_fit {l : List Entry} (h : ∀ e ∈ l, e.fit) : ∀ {i : Nat}, i ≤ l.length → cntTo l i ≤ i * 8388608
 | 0, _ => by simp [cntTo]
 | i + 1, hi => by
  have h1 := cnt_fit h (i := i) (by omega)
  have h2 := h _ (nth_mem (show i < l.length by omega))
  have h3 := h2.1
  have h4 := h2.2
  simp only [cntTo, cntE]
  rw [Nat.add_mul]
  omega
theorem fit_of {l : List Entry} (h : Sm.sm l) : ∀ e ∈ l, e.fit := fun e he => by
 obtain ⟨i, hi, rfl⟩ := List.getElem_of_mem he
 have h2 := (sm_list.1 h).2 i hi
 have e : nth l i = l[i] := by simp [nth, hi]
 rw [e] at h2
 exact ⟨(sm_list.1 (h2.2.1)).1, (sm_list.1 (h2.2.2)).1⟩
end Go.Proofs.Ytjmakbnblpjkhaa
