/- Methods, wants, calls, events: what the program and the reference compute. -/
import Derived.Test.YtgaeigomhhbkfaaGreatBEntry
import Derived.Test.YtgaeigomhhbkfaaGreatBHas
namespace Go.Proofs.YtgaeigomhhbkfaaGreat
open Go.RowKit Go
set_option linter.unusedVariables false
set_option linter.unusedSimpArgs false
set_option maxRecDepth 100000
set_option linter.unusedSectionVars false
variable [GC]
def mStart : ByteArray := ⟨#[83, 116, 97, 114, 116]⟩
def mStop : ByteArray := ⟨#[83, 116, 111, 112]⟩
def mGet : ByteArray := ⟨#[71, 101, 116]⟩
def mPut : ByteArray := ⟨#[80, 117, 116]⟩
def mTell : ByteArray := ⟨#[84, 101, 108, 108]⟩
def mHear : ByteArray := ⟨#[72, 101, 97, 114]⟩
def mLoad : ByteArray := ⟨#[76, 111, 97, 100]⟩
def mSave : ByteArray := ⟨#[83, 97, 118, 101]⟩
def mHeal : ByteArray := ⟨#[72, 101, 97, 108]⟩
def methods : Nat → List ByteArray
  | 0 => [mStart, mStop]
  | 1 => [mGet, mPut]
  | 2 => [mTell]
  | 3 => [mHear]
  | 4 => [mLoad, mSave]
  | 5 => [mHeal]
  | _ => []
theorem meth_index (k : Nat) (hk : k < 6) (v0 v1 v2 v3 v4 v5 : Value) (w : World) : (Instr.index 179 (.agg #[v0, v1, v2, v3, v4, v5]) (.int .i64 k)).run Tryz.prog w = .ok ([v0, v1, v2, v3, v4, v5].getD k (.bool false)) w := by
  obtain rfl | rfl | rfl | rfl | rfl | rfl : k = 0 ∨ k = 1 ∨ k = 2 ∨ k = 3 ∨ k = 4 ∨ k = 5 := by omega
  all_goals kernel_rfl
theorem methods_size : ∀ (k : Fin 6), ∀ s, s ∈ methods k.val → s.size ≤ maxLen := by decide
theorem t_impl_methodsOf (k : Nat) (hk : k < 6) (w : World) (M : Addr → Prop) (hM : ∀ p, M p → p.block < w.heap.size) :
    Calls Tryz.prog 119 #[.int .i64 k] w fun e w' => ∃ v, e = .returned v ∧ R w' M (encS (methods k)) v ∧ Below w.heap.size w w' := by
  have hi := meth_index k hk
  go_enter Tryz.func119, Tryz.ntmps119
  go_wp2
  go_returns
  refine ⟨_, rfl, ?_, by go_grown⟩
  have hz := methods_size ⟨k, hk⟩
  have hm : ∀ n, ∀ o, ¬ M ⟨w.heap.size + n, o, none⟩ := fun n o h => by have := hM _ h; simp at this; omega
  obtain rfl | rfl | rfl | rfl | rfl | rfl : k = 0 ∨ k = 1 ∨ k = 2 ∨ k = 3 ∨ k = 4 ∨ k = 5 := by omega
  · exact R_strs _ (heap_old (heap_old (heap_old (heap_old (heap_old (heap_new (by simp))))))) rfl rfl (hm 0) hz (by decide)
  · exact R_strs _ (heap_old (heap_old (heap_old (heap_old (heap_new (by simp)))))) rfl rfl (hm 1) hz (by decide)
  · exact R_strs _ (heap_old (heap_old (heap_old (heap_new (by simp))))) rfl rfl (hm 2) hz (by decide)
  · exact R_strs _ (heap_old (heap_old (heap_new (by simp)))) rfl rfl (hm 3) hz (by decide)
  · exact R_strs _ (heap_old (heap_new (by simp))) rfl rfl (hm 4) hz (by decide)
  · exact R_strs _ (heap_new (by simp)) rfl rfl (hm 5) hz (by decide)
theorem c_impl_methodsOf (k : Nat) (hk : k < 6) : Fun Tryz.prog 119 none [.int .i64 k] (encS (methods k)) [] := by
  refine Fun.of_calls (by kernel_rfl) fun w M vs hM hr => ?_
  obtain ⟨v, q, rfl, ⟨rfl, _⟩, rfl⟩ := hr
  exact t_impl_methodsOf k hk w M hM
theorem c_spec_l2Methods (k : Nat) (hk : k < 6) : FunR Tryz.prog 130 none [.int .i64 k] (encS (methods k)) [] [(0, 1)] := by
  refine FunR.ofV vc_spec_l2Methods_ok ty_spec_l2Methods_ok rt_spec_l2Methods_ok rfl ?_ (fun hfit => ?_)
  · exact ⟨rfl, trivial⟩
  unfold vc_spec_l2Methods
  obtain rfl | rfl | rfl | rfl | rfl | rfl : k = 0 ∨ k = 1 ∨ k = 2 ∨ k = 3 ∨ k = 4 ∨ k = 5 := by omega
  all_goals
    simp [VC.den, E.den, cmpI]
    rfl
def abP (s : ByteArray) (k : Nat) : Bool := hasB (methods k) s
def abM (s : ByteArray) : Int := match firstTo (abP s) 6 with | some k => k | none => -1
theorem c_impl_AbilityOfMethod (s : ByteArray) : Fun Tryz.prog 100 none [.str s] (.int .i64 (abM s)) [] := by
  refine Fun.ofV vc_impl_AbilityOfMethod_ok ty_impl_AbilityOfMethod_ok rfl ?_ (fun hfit => ?_)
  · exact ⟨trivial, trivial⟩
  unfold vc_impl_AbilityOfMethod
  refine den_for 6 (fun k => [.int .i64 k]) (fun k => ∀ i, i < k → abP s i = false) rfl (by omega) ?_
  intro k hk hI _
  simp only [List.cons_append, List.nil_append]
  refine den_ite (fun h2 => ?_) (fun h2 => ?_)
  · simp only [E.den, dEq, iEq, sEq] at h2
    have h2 : k < 6 := by simp at h2; omega
    ((first | refine den_call ?_ (c_impl_methodsOf k h2) (ty_strS _) ?_ | refine den_callR ?_ (c_impl_methodsOf k h2) (ty_strS _) ?_ | refine den_call ?_ (.ofR (c_impl_methodsOf k h2)) (ty_strS _) ?_); (focus (simp only [VC.den, E.den, dEq, gsH_nil, and_true]; try exact rfl)); (simp only [List.cons_append, List.nil_append]))
    ((first | refine den_call ?_ (c_impl_hasText (methods k) s) (trivial) ?_ | refine den_callR ?_ (c_impl_hasText (methods k) s) (trivial) ?_ | refine den_call ?_ (.ofR (c_impl_hasText (methods k) s)) (trivial) ?_); (focus (simp only [VC.den, E.den, dEq, gsH_nil, and_true]; try exact rfl)); (simp only [List.cons_append, List.nil_append]))
    refine den_ite (fun h3 => ?_) (fun h3 => ?_)
    · simp only [E.den, dEq, iEq, sEq] at h3
      refine den_ret ?_
      simp [E.den, abM, firstTo_some h3 hI h2]
    · simp only [E.den, dEq, iEq, sEq] at h3
      refine den_next h2 ?_ fun i hi => ?_
      · simp only [E.den, dEq, iEq, sEq]
        rw [ar_add (by omega) (by omega)]; rfl
      · rcases Nat.lt_or_ge i k with h | h
        · exact hI i h
        · obtain rfl : i = k := by omega
          exact h3
  · simp only [E.den, dEq, iEq, sEq] at h2
    obtain rfl : k = 6 := by simp at h2; omega
    exact den_ret (by simp [E.den, abM, firstTo_none hI])

theorem c_spec_AbilityOfMethod (s : ByteArray) : Fun Tryz.prog 114 none [.str s] (.int .i64 (abM s)) [] := by
  refine Fun.ofV vc_spec_AbilityOfMethod_ok ty_spec_AbilityOfMethod_ok rfl ?_ (fun hfit => ?_)
  · exact ⟨trivial, trivial⟩
  unfold vc_spec_AbilityOfMethod
  refine den_for 6 (fun k => [.int .i64 k]) (fun k => ∀ i, i < k → abP s i = false) rfl (by omega) ?_
  intro k hk hI _
  simp only [List.cons_append, List.nil_append]
  refine den_ite (fun h2 => ?_) (fun h2 => ?_)
  · simp only [E.den, dEq, iEq, sEq] at h2
    have h2 : k < 6 := by simp at h2; omega
    ((first | refine den_call ?_ (c_spec_l2Methods k h2) (ty_strS _) ?_ | refine den_callR ?_ (c_spec_l2Methods k h2) (ty_strS _) ?_ | refine den_call ?_ (.ofR (c_spec_l2Methods k h2)) (ty_strS _) ?_); (focus (simp only [VC.den, E.den, dEq, gsH_nil, and_true]; try exact rfl)); (simp only [List.cons_append, List.nil_append]))
    ((first | refine den_call ?_ (c_spec_l1HasText (methods k) s) (trivial) ?_ | refine den_callR ?_ (c_spec_l1HasText (methods k) s) (trivial) ?_ | refine den_call ?_ (.ofR (c_spec_l1HasText (methods k) s)) (trivial) ?_); (focus (simp only [VC.den, E.den, dEq, gsH_nil, and_true]; try exact rfl)); (simp only [List.cons_append, List.nil_append]))
    refine den_ite (fun h3 => ?_) (fun h3 => ?_)
    · simp only [E.den, dEq, iEq, sEq] at h3
      refine den_ret ?_
      simp [E.den, abM, firstTo_some h3 hI h2]
    · simp only [E.den, dEq, iEq, sEq] at h3
      refine den_next h2 ?_ fun i hi => ?_
      · simp only [E.den, dEq, iEq, sEq]
        rw [ar_add (by omega) (by omega)]; rfl
      · rcases Nat.lt_or_ge i k with h | h
        · exact hI i h
        · obtain rfl : i = k := by omega
          exact h3
  · simp only [E.den, dEq, iEq, sEq] at h2
    obtain rfl : k = 6 := by simp at h2; omega
    exact den_ret (by simp [E.den, abM, firstTo_none hI])

theorem abM_lt (s : ByteArray) : abM s < 6 := by
  unfold abM
  cases h : firstTo (abP s) 6 with
  | none => simp
  | some k => have := (firstTo_lt h).1; simp; omega
def wantZ (s : ByteArray) : Int := if abM s < 0 then 0 else ((2 ^ (abM s).toNat : Nat) : Int)
theorem wantZ_zero (s : ByteArray) : (wantZ s = 0) ↔ abM s < 0 := by
  unfold wantZ
  split
  · simp [*]
  · have := Nat.two_pow_pos (abM s).toNat
    constructor <;> intro h <;> omega
theorem c_spec_WantOf (s : ByteArray) : Fun Tryz.prog 87 none [.str s] (.int .i64 (wantZ s)) [] := by
  refine Fun.ofV vc_spec_WantOf_ok ty_spec_WantOf_ok rfl ?_ (fun hfit => ?_)
  · exact ⟨trivial, trivial⟩
  unfold vc_spec_WantOf
  ((first | refine den_call ?_ (c_spec_AbilityOfMethod s) (rfl) ?_ | refine den_callR ?_ (c_spec_AbilityOfMethod s) (rfl) ?_ | refine den_call ?_ (.ofR (c_spec_AbilityOfMethod s)) (rfl) ?_); (focus (simp only [VC.den, E.den, dEq, gsH_nil, and_true]; try exact rfl)); (simp only [List.cons_append, List.nil_append]))
  refine den_ite (fun h => ?_) (fun h => ?_)
  · simp only [E.den, dEq, iEq, sEq] at h
    have h : abM s < 0 := by simpa using h
    exact den_ret (by simp [E.den, wantZ, h])
  simp only [E.den, dEq, iEq, sEq] at h
  have h : ¬ abM s < 0 := by simpa using h
  have h6 := abM_lt s
  refine den_cond (fun _ => ?_) (den_ret ?_)
  · simp [E.den, cmpI]; omega
  · have e := allow_shl ⟨(abM s).toNat, by omega⟩
    have e2 : (((abM s).toNat : Nat) : Int) = abM s := by omega
    rw [e2] at e
    simp only [E.den, dEq, iEq, sEq, e]
    simp [wantZ, h]
def callB (c : Call) : Bool := !decide (abM c.method < 0) && (decide (c.text = noText) || decide (c.method = mLoad)) &&
  ((decide (c.method = mGet) || decide (c.method = mPut)) && nameB c.key || !(decide (c.method = mGet) || decide (c.method = mPut)) && decide (c.key = noText)) &&
  (decide (c.val = 0) || (decide (c.method = mPut) || decide (c.method = mHear)) && decide (0 < c.val) && decide (c.val ≤ 999))
theorem m_ne : mGet ≠ mPut ∧ mGet ≠ mHear ∧ mPut ≠ mHear := by decide
theorem c_spec_IsCall (c : Call) : Fun Tryz.prog 55 none [enc c] (.bool (callB c)) [] := by
  refine Fun.ofV vc_spec_IsCall_ok ty_spec_IsCall_ok rfl ?_ (fun hfit => ?_)
  · exact ⟨ty_Call c, trivial⟩
  unfold vc_spec_IsCall
  ((first | refine den_call ?_ (c_spec_WantOf c.method) (rfl) ?_ | refine den_callR ?_ (c_spec_WantOf c.method) (rfl) ?_ | refine den_call ?_ (.ofR (c_spec_WantOf c.method)) (rfl) ?_); (focus (simp only [VC.den, E.den, dEq, gsH_nil, and_true, cells_Call]; try exact rfl)); (simp only [List.cons_append, List.nil_append]))
  ((first | refine den_call ?_ (c_spec_IsName c.key) (trivial) ?_ | refine den_callR ?_ (c_spec_IsName c.key) (trivial) ?_ | refine den_call ?_ (.ofR (c_spec_IsName c.key)) (trivial) ?_); (focus (simp only [VC.den, E.den, dEq, gsH_nil, and_true, cells_Call]; try exact rfl)); (simp only [List.cons_append, List.nil_append]))
  refine den_ite (fun h => ?_) (fun h => ?_)
  · simp only [E.den, dEq, iEq, sEq, cells_Call] at h
    have := wantZ_zero c.method
    have := m_ne
    refine den_ret ?_
    simp only [E.den, D.bool.injEq]
    unfold callB mGet mPut mHear mLoad noText at *; grind
  simp only [E.den, dEq, iEq, sEq, cells_Call] at h
  have := wantZ_zero c.method
  have := m_ne
  refine den_ret ?_
  simp only [E.den, dEq, iEq, sEq, cells_Call]
  simp only [D.bool.injEq]
  unfold callB mGet mPut mHear mLoad noText at *; grind
theorem c_impl_IsCall (c : Call) : Fun Tryz.prog 68 none [enc c] (.bool (callB c)) [] := by
  refine Fun.ofV vc_impl_IsCall_ok ty_impl_IsCall_ok rfl ?_ (fun hfit => ?_)
  · exact ⟨ty_Call c, trivial⟩
  have hn := m_ne
  unfold vc_impl_IsCall
  ((first | refine den_call ?_ (c_impl_AbilityOfMethod c.method) (rfl) ?_ | refine den_callR ?_ (c_impl_AbilityOfMethod c.method) (rfl) ?_ | refine den_call ?_ (.ofR (c_impl_AbilityOfMethod c.method)) (rfl) ?_); (focus (simp only [VC.den, E.den, dEq, gsH_nil, and_true, cells_Call]; try exact rfl)); (simp only [List.cons_append, List.nil_append]))
  refine den_ite (fun h => ?_) (fun h => ?_)
  · simp only [E.den, dEq, iEq, sEq, cells_Call] at h
    refine den_ret ?_
    simp only [E.den, D.bool.injEq]
    unfold callB mGet mPut mHear mLoad noText at *; grind
  simp only [E.den, dEq, iEq, sEq, cells_Call] at h
  refine den_ite (fun h1 => ?_) (fun h1 => ?_)
  · simp only [E.den, dEq, iEq, sEq, cells_Call] at h1
    ((first | refine den_call ?_ (c_impl_IsName c.key) (trivial) ?_ | refine den_callR ?_ (c_impl_IsName c.key) (trivial) ?_ | refine den_call ?_ (.ofR (c_impl_IsName c.key)) (trivial) ?_); (focus (simp only [VC.den, E.den, dEq, gsH_nil, and_true, cells_Call]; try exact rfl)); (simp only [List.cons_append, List.nil_append]))
    refine den_ret ?_
    simp only [E.den, dEq, iEq, sEq, cells_Call]
    simp only [D.bool.injEq]
    unfold callB mGet mPut mHear mLoad noText at *; grind
  simp only [E.den, dEq, iEq, sEq, cells_Call] at h1
  refine den_ite (fun h2 => ?_) (fun h2 => ?_)
  · simp only [E.den, dEq, iEq, sEq, cells_Call] at h2
    ((first | refine den_call ?_ (c_impl_IsName c.key) (trivial) ?_ | refine den_callR ?_ (c_impl_IsName c.key) (trivial) ?_ | refine den_call ?_ (.ofR (c_impl_IsName c.key)) (trivial) ?_); (focus (simp only [VC.den, E.den, dEq, gsH_nil, and_true, cells_Call]; try exact rfl)); (simp only [List.cons_append, List.nil_append]))
    ((first | refine den_call ?_ (c_impl_isNumber c.val) (trivial) ?_ | refine den_callR ?_ (c_impl_isNumber c.val) (trivial) ?_ | refine den_call ?_ (.ofR (c_impl_isNumber c.val)) (trivial) ?_); (focus (simp only [VC.den, E.den, dEq, gsH_nil, and_true, cells_Call]; try exact rfl)); (simp only [List.cons_append, List.nil_append]))
    refine den_ret ?_
    simp only [E.den, dEq, iEq, sEq, cells_Call]
    simp only [D.bool.injEq]
    unfold callB mGet mPut mHear mLoad noText numB at *; grind
  simp only [E.den, dEq, iEq, sEq, cells_Call] at h2
  refine den_ite (fun h3 => ?_) (fun h3 => ?_)
  · simp only [E.den, dEq, iEq, sEq, cells_Call] at h3
    ((first | refine den_call ?_ (c_impl_isNumber c.val) (trivial) ?_ | refine den_callR ?_ (c_impl_isNumber c.val) (trivial) ?_ | refine den_call ?_ (.ofR (c_impl_isNumber c.val)) (trivial) ?_); (focus (simp only [VC.den, E.den, dEq, gsH_nil, and_true, cells_Call]; try exact rfl)); (simp only [List.cons_append, List.nil_append]))
    refine den_ret ?_
    simp only [E.den, dEq, iEq, sEq, cells_Call]
    simp only [D.bool.injEq]
    unfold callB mGet mPut mHear mLoad noText numB at *; grind
  simp only [E.den, dEq, iEq, sEq, cells_Call] at h3
  refine den_ret ?_
  simp only [E.den, dEq, iEq, sEq, cells_Call]
  simp only [D.bool.injEq]
  unfold callB mGet mPut mHear mLoad noText at *; grind
def zeroC : Call := ⟨noText, noText, 0, noText⟩
theorem eq_zeroC (c : Call) : eqvL [.str c.method, .str c.key, .int .i64 c.val, .str c.text] [.str ⟨#[]⟩, .str ⟨#[]⟩, .int .i64 0, .str ⟨#[]⟩] = decide (c = zeroC) := eqv_Call c zeroC
theorem c_impl_zeroCall (c : Call) : Fun Tryz.prog 69 none [enc c] (.bool (decide (c = zeroC))) [] := by
  refine Fun.ofV vc_impl_zeroCall_ok ty_impl_zeroCall_ok rfl ?_ (fun hfit => ?_)
  · exact ⟨ty_Call c, trivial⟩
  unfold vc_impl_zeroCall
  refine den_ret ?_
  simp only [E.den, dEq, iEq, sEq, cells_Call, eq_zeroC]
def eventB (e : Event) : Bool := decide (1 ≤ e.kind) && decide (e.kind ≤ 5) && nameB e.name && (decide (e.kind = 3) && callB e.call || !decide (e.kind = 3) && decide (e.call = zeroC)) && (decide (e.kind = 5) && recOk e.recipe || !decide (e.kind = 5) && decide (e.recipe.length = 0))
theorem c_spec_IsEvent (e : Event) : Fun Tryz.prog 21 none [enc e] (.bool (eventB e)) [] := by
  refine Fun.ofV vc_spec_IsEvent_ok ty_spec_IsEvent_ok rfl ?_ (fun hfit => ?_)
  · exact ⟨ty_Event e, trivial⟩
  unfold vc_spec_IsEvent
  ((first | refine den_call ?_ (c_spec_RecipeFace e.recipe) (⟨rfl, trivial, trivial⟩) ?_ | refine den_callR ?_ (c_spec_RecipeFace e.recipe) (⟨rfl, trivial, trivial⟩) ?_ | refine den_call ?_ (.ofR (c_spec_RecipeFace e.recipe)) (⟨rfl, trivial, trivial⟩) ?_); (focus (simp only [VC.den, E.den, dEq, gsH_nil, and_true, cells_Event]; try exact rfl)); (simp only [List.cons_append, List.nil_append]))
  ((first | refine den_call ?_ (c_spec_IsCall e.call) (trivial) ?_ | refine den_callR ?_ (c_spec_IsCall e.call) (trivial) ?_ | refine den_call ?_ (.ofR (c_spec_IsCall e.call)) (trivial) ?_); (focus (simp only [VC.den, E.den, dEq, gsH_nil, and_true, cells_Event, cells_Call]; try exact rfl)); (simp only [List.cons_append, List.nil_append]))
  ((first | refine den_call ?_ (c_spec_IsName e.name) (trivial) ?_ | refine den_callR ?_ (c_spec_IsName e.name) (trivial) ?_ | refine den_call ?_ (.ofR (c_spec_IsName e.name)) (trivial) ?_); (focus (simp only [VC.den, E.den, dEq, gsH_nil, and_true, cells_Event]; try exact rfl)); (simp only [List.cons_append, List.nil_append]))
  refine den_ite (fun h => ?_) (fun h => ?_)
  · simp only [E.den, dEq, iEq, sEq, cells_Event] at h
    refine den_ret ?_
    simp only [E.den, D.bool.injEq]
    unfold eventB; grind
  simp only [E.den, dEq, iEq, sEq, cells_Event] at h
  refine den_ite (fun h1 => ?_) (fun h1 => ?_)
  · simp only [E.den, dEq, iEq, sEq, cells_Event, eq_zeroC] at h1
    refine den_ret ?_
    simp only [E.den, D.bool.injEq]
    unfold eventB; grind
  simp only [E.den, dEq, iEq, sEq, cells_Event, eq_zeroC] at h1
  refine den_ret ?_
  simp only [E.den, dEq, iEq, sEq, cells_Event]
  simp only [D.bool.injEq]
  unfold eventB; grind
theorem c_impl_IsEvent (e : Event) : Fun Tryz.prog 35 none [enc e] (.bool (eventB e)) [] := by
  refine Fun.ofV vc_impl_IsEvent_ok ty_impl_IsEvent_ok rfl ?_ (fun hfit => ?_)
  · exact ⟨ty_Event e, trivial⟩
  unfold vc_impl_IsEvent
  ((first | refine den_call ?_ (c_impl_IsName e.name) (trivial) ?_ | refine den_callR ?_ (c_impl_IsName e.name) (trivial) ?_ | refine den_call ?_ (.ofR (c_impl_IsName e.name)) (trivial) ?_); (focus (simp only [VC.den, E.den, dEq, gsH_nil, and_true, cells_Event]; try exact rfl)); (simp only [List.cons_append, List.nil_append]))
  refine den_ite (fun h => ?_) (fun h => ?_)
  · simp only [E.den, dEq, iEq, sEq, cells_Event] at h
    refine den_ret ?_
    simp only [E.den, D.bool.injEq]
    unfold eventB; grind
  simp only [E.den, dEq, iEq, sEq, cells_Event] at h
  ((first | refine den_call ?_ (c_impl_IsCall e.call) (trivial) ?_ | refine den_callR ?_ (c_impl_IsCall e.call) (trivial) ?_ | refine den_call ?_ (.ofR (c_impl_IsCall e.call)) (trivial) ?_); (focus (simp only [VC.den, E.den, dEq, gsH_nil, and_true, cells_Event, cells_Call]; try exact rfl)); (simp only [List.cons_append, List.nil_append]))
  ((first | refine den_call ?_ (c_impl_zeroCall e.call) (trivial) ?_ | refine den_callR ?_ (c_impl_zeroCall e.call) (trivial) ?_ | refine den_call ?_ (.ofR (c_impl_zeroCall e.call)) (trivial) ?_); (focus (simp only [VC.den, E.den, dEq, gsH_nil, and_true, cells_Event, cells_Call]; try exact rfl)); (simp only [List.cons_append, List.nil_append]))
  refine den_ite (fun h1 => ?_) (fun h1 => ?_)
  · simp only [E.den, dEq, iEq, sEq, cells_Event] at h1
    refine den_ret ?_
    simp only [E.den, D.bool.injEq]
    unfold eventB; grind
  simp only [E.den, dEq, iEq, sEq, cells_Event] at h1
  refine den_ite (fun h2 => ?_) (fun h2 => ?_)
  · simp only [E.den, dEq, iEq, sEq, cells_Event] at h2
    ((first | refine den_call ?_ (c_impl_RecipeFace e.recipe) (⟨rfl, trivial, trivial⟩) ?_ | refine den_callR ?_ (c_impl_RecipeFace e.recipe) (⟨rfl, trivial, trivial⟩) ?_ | refine den_call ?_ (.ofR (c_impl_RecipeFace e.recipe)) (⟨rfl, trivial, trivial⟩) ?_); (focus (simp only [VC.den, E.den, dEq, gsH_nil, and_true, cells_Event]; try exact rfl)); (simp only [List.cons_append, List.nil_append]))
    refine den_ret ?_
    simp only [E.den, dEq, iEq, sEq, cells_Event]
    simp only [D.bool.injEq]
    unfold eventB; grind
  simp only [E.den, dEq, iEq, sEq, cells_Event] at h2
  refine den_ret ?_
  simp only [E.den, dEq, iEq, sEq, cells_Event]
  simp only [D.bool.injEq]
  unfold eventB; grind
end Go.Proofs.YtgaeigomhhbkfaaGreat
