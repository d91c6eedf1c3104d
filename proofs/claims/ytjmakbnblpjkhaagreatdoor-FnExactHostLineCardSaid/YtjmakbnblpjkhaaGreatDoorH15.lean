/- Methods, wants, calls, events: what the program and the reference compute. -/
import Derived.Test.YtjmakbnblpjkhaaGreatDoorH13
import Derived.Test.YtjmakbnblpjkhaaGreatDoorH14
import Derived.Test.YtjmakbnblpjkhaaGreatDoorH12
import Derived.Lib.Split
import Derived.Lib.Join
import Derived.Lib.Atoi
import Derived.Lib.ItoaNum
set_option linter.unusedVariables false
set_option linter.unusedSimpArgs false
set_option maxRecDepth 100000
set_option linter.unusedSectionVars false
namespace Go.Proofs.YtjmakbnblpjkhaaGreatDoor
open Go.RowKit Go
variable [GC]
def mStart : ByteArray := ⟨#[83, 116, 97, 114, 116]⟩
def mStop : ByteArray := ⟨#[83, 116, 111, 112]⟩
def mGet : ByteArray := ⟨#[71, 101, 116]⟩
def mPut : ByteArray := ⟨#[80, 117, 116]⟩
def mTell : ByteArray := ⟨#[84, 101, 108, 108]⟩
def mHear : ByteArray := ⟨#[72, 101, 97, 114]⟩
def mLoad : ByteArray := ⟨#[76, 111, 97, 100]⟩
def mSave : ByteArray := ⟨#[83, 97, 118, 101]⟩
def mHeal : ByteArray := ⟨#[72, 101, 97, 108]⟩
def methods : Nat → List ByteArray
 | 0 => [mStart, mStop]
 | 1 => [mGet, mPut]
 | 2 => [mTell]
 | 3 => [mHear]
 | 4 => [mLoad, mSave]
 | 5 => [mHeal]
 | _ => []
theorem meth_index (k : Nat) (hk : k < 6) (v0 v1 v2 v3 v4 v5 : Value) (w : World) : (Instr.index 237 (.agg #[v0, v1, v2, v3, v4, v5]) (.int .i64 k)).run Tryz.prog w = .ok ([v0, v1, v2, v3, v4, v5].getD k (.bool false)) w := by
 obtain rfl | rfl | rfl | rfl | rfl | rfl : k = 0 ∨ k = 1 ∨ k = 2 ∨ k = 3 ∨ k = 4 ∨ k = 5 := by omega
 all_goals kernel_rfl
theorem methods_size : ∀ (k : Fin 6), ∀ s, s ∈ methods k.val → s.size ≤ maxLen := by decide
theorem t_impl_methodsOf (k : Nat) (hk : k < 6) (w : World) (M : Addr → Prop) (hM : ∀ p, M p → p.block < w.heap.size) :
  Calls Tryz.prog 186 #[.int .i64 k] w fun e w' => ∃ v, e = .returned v ∧ R w' M (encS (methods k)) v ∧ Below w.heap.size w w' := by
 have hi := meth_index k hk
 go_enter Tryz.func186, Tryz.ntmps186
 go_wp2
 go_returns
 refine ⟨_, rfl, ?_, by go_grown⟩
 have hz := methods_size ⟨k, hk⟩
 have hm : ∀ n, ∀ o, ¬ M ⟨w.heap.size + n, o, none⟩ := fun n o h => by have := hM _ h; simp at this; omega
 obtain rfl | rfl | rfl | rfl | rfl | rfl : k = 0 ∨ k = 1 ∨ k = 2 ∨ k = 3 ∨ k = 4 ∨ k = 5 := by omega
 ·exact R_strs _ (heap_old (heap_old (heap_old (heap_old (heap_old (heap_new (by simp))))))) rfl rfl (hm 0) hz (by decide)
 ·exact R_strs _ (heap_old (heap_old (heap_old (heap_old (heap_new (by simp)))))) rfl rfl (hm 1) hz (by decide)
 ·exact R_strs _ (heap_old (heap_old (heap_old (heap_new (by simp))))) rfl rfl (hm 2) hz (by decide)
 ·exact R_strs _ (heap_old (heap_old (heap_new (by simp)))) rfl rfl (hm 3) hz (by decide)
 ·exact R_strs _ (heap_old (heap_new (by simp))) rfl rfl (hm 4) hz (by decide)
 ·exact R_strs _ (heap_new (by simp)) rfl rfl (hm 5) hz (by decide)
theorem c_impl_methodsOf (k : Nat) (hk : k < 6) : Fun Tryz.prog 186 none [.int .i64 k] (encS (methods k)) [] := by
 refine Fun.of_calls (by kernel_rfl) fun w M vs hM hr => ?_
 obtain ⟨v, q, rfl, ⟨rfl, _⟩, rfl⟩ := hr
 exact t_impl_methodsOf k hk w M hM
theorem c_spec_l2Methods (k : Nat) (hk : k < 6) : FunR Tryz.prog 220 none [.int .i64 k] (encS (methods k)) [] [(0, 1)] := by
 refine FunR.ofV vc_spec_l2Methods_ok ty_spec_l2Methods_ok rt_spec_l2Methods_ok rfl ?_ (fun hfit => ?_)
 ·exact ⟨rfl, trivial⟩
 unfold vc_spec_l2Methods
 obtain rfl | rfl | rfl | rfl | rfl | rfl : k = 0 ∨ k = 1 ∨ k = 2 ∨ k = 3 ∨ k = 4 ∨ k = 5 := by omega
 all_goals
  simp [VC.den, E.den, cmpI]
  rfl
def abP (s : ByteArray) (k : Nat) : Bool := hasB (methods k) s
def abM (s : ByteArray) : Int := match firstTo (abP s) 6 with | some k => k | none => -1
theorem c_impl_AbilityOfMethod (s : ByteArray) : Fun Tryz.prog 150 none [.str s] (.int .i64 (abM s)) [] := by
 refine Fun.ofV vc_impl_AbilityOfMethod_ok ty_impl_AbilityOfMethod_ok rfl ?_ (fun hfit => ?_)
 ·exact ⟨trivial, trivial⟩
 unfold vc_impl_AbilityOfMethod
 refine den_for 6 (fun k => [.int .i64 k]) (fun k => ∀ i, i < k → abP s i = false) rfl (by omega) ?_
 intro k hk hI _
 simp only [cA]
 refine den_ite (fun h2 => ?_) (fun h2 => ?_)
 ·simp only [E.den, dEq, iEq, sEq] at h2
  have h2 : k < 6 := by simp at h2; omega
  ((first | refine den_call ?_ (c_impl_methodsOf k h2) (ty_strS _) ?_ | refine den_callR ?_ (c_impl_methodsOf k h2) (ty_strS _) ?_ | refine den_call ?_ (.ofR (c_impl_methodsOf k h2)) (ty_strS _) ?_); (focus (simp only [VC.den, E.den, dEq, gsH_nil, and_true]; try exact rfl)); (simp only [cA]))
  ((first | refine den_call ?_ (c_impl_hasText (methods k) s) (trivial) ?_ | refine den_callR ?_ (c_impl_hasText (methods k) s) (trivial) ?_ | refine den_call ?_ (.ofR (c_impl_hasText (methods k) s)) (trivial) ?_); (focus (simp only [VC.den, E.den, dEq, gsH_nil, and_true]; try exact rfl)); (simp only [cA]))
  refine den_ite (fun h3 => ?_) (fun h3 => ?_)
  ·simp only [E.den, dEq, iEq, sEq] at h3
   refine den_ret ?_
   simp [E.den, abM, firstTo_some h3 hI h2]
  ·simp only [E.den, dEq, iEq, sEq] at h3
   refine den_next h2 ?_ fun i hi => ?_
   ·simp only [E.den, dEq, iEq, sEq]
    rw [ar_add (by omega) (by omega)]; rfl
   ·rcases Nat.lt_or_ge i k with h | h
    ·exact hI i h
    ·obtain rfl : i = k := by omega
     exact h3
 ·simp only [E.den, dEq, iEq, sEq] at h2
  obtain rfl : k = 6 := by simp at h2; omega
  exact den_ret (by simp [E.den, abM, firstTo_none hI])
theorem c_spec_AbilityOfMethod (s : ByteArray) : Fun Tryz.prog 199 none [.str s] (.int .i64 (abM s)) [] := by
 refine Fun.ofV vc_spec_AbilityOfMethod_ok ty_spec_AbilityOfMethod_ok rfl ?_ (fun hfit => ?_)
 ·exact ⟨trivial, trivial⟩
 unfold vc_spec_AbilityOfMethod
 refine den_for 6 (fun k => [.int .i64 k]) (fun k => ∀ i, i < k → abP s i = false) rfl (by omega) ?_
 intro k hk hI _
 simp only [cA]
 refine den_ite (fun h2 => ?_) (fun h2 => ?_)
 ·simp only [E.den, dEq, iEq, sEq] at h2
  have h2 : k < 6 := by simp at h2; omega
  ((first | refine den_call ?_ (c_spec_l2Methods k h2) (ty_strS _) ?_ | refine den_callR ?_ (c_spec_l2Methods k h2) (ty_strS _) ?_ | refine den_call ?_ (.ofR (c_spec_l2Methods k h2)) (ty_strS _) ?_); (focus (simp only [VC.den, E.den, dEq, gsH_nil, and_true]; try exact rfl)); (simp only [cA]))
  ((first | refine den_call ?_ (c_spec_l1HasText (methods k) s) (trivial) ?_ | refine den_callR ?_ (c_spec_l1HasText (methods k) s) (trivial) ?_ | refine den_call ?_ (.ofR (c_spec_l1HasText (methods k) s)) (trivial) ?_); (focus (simp only [VC.den, E.den, dEq, gsH_nil, and_true]; try exact rfl)); (simp only [cA]))
  refine den_ite (fun h3 => ?_) (fun h3 => ?_)
  ·simp only [E.den, dEq, iEq, sEq] at h3
   refine den_ret ?_
   simp [E.den, abM, firstTo_some h3 hI h2]
  ·simp only [E.den, dEq, iEq, sEq] at h3
   refine den_next h2 ?_ fun i hi => ?_
   ·simp only [E.den, dEq, iEq, sEq]
    rw [ar_add (by omega) (by omega)]; rfl
   ·rcases Nat.lt_or_ge i k with h | h
    ·exact hI i h
    ·obtain rfl : i = k := by omega
     exact h3
 ·simp only [E.den, dEq, iEq, sEq] at h2
  obtain rfl : k = 6 := by simp at h2; omega
  exact den_ret (by simp [E.den, abM, firstTo_none hI])
theorem abM_lt (s : ByteArray) : abM s < 6 := by
 unfold abM
 cases h : firstTo (abP s) 6 with
 | none => simp
 | some k => have := (firstTo_lt h).1; simp; omega
def wantZ (s : ByteArray) : Int := if abM s < 0 then 0 else ((2 ^ (abM s).toNat : Nat) : Int)
theorem wantZ_zero (s : ByteArray) : (wantZ s = 0) ↔ abM s < 0 := by
 unfold wantZ
 split
 ·simp [*]
 ·have := Nat.two_pow_pos (abM s).toNat
  constructor <;> intro h <;> omega
theorem c_spec_WantOf (s : ByteArray) : Fun Tryz.prog 168 none [.str s] (.int .i64 (wantZ s)) [] := by
 refine Fun.ofV vc_spec_WantOf_ok ty_spec_WantOf_ok rfl ?_ (fun hfit => ?_)
 ·exact ⟨trivial, trivial⟩
 unfold vc_spec_WantOf
 ((first | refine den_call ?_ (c_spec_AbilityOfMethod s) (rfl) ?_ | refine den_callR ?_ (c_spec_AbilityOfMethod s) (rfl) ?_ | refine den_call ?_ (.ofR (c_spec_AbilityOfMethod s)) (rfl) ?_); (focus (simp only [VC.den, E.den, dEq, gsH_nil, and_true]; try exact rfl)); (simp only [cA]))
 refine den_ite (fun h => ?_) (fun h => ?_)
 ·simp only [E.den, dEq, iEq, sEq] at h
  have h : abM s < 0 := by simpa using h
  exact den_ret (by simp [E.den, wantZ, h])
 simp only [E.den, dEq, iEq, sEq] at h
 have h : ¬ abM s < 0 := by simpa using h
 have h6 := abM_lt s
 refine den_cond (fun _ => ?_) (den_ret ?_)
 ·simp [E.den, cmpI]; omega
 ·have e := allow_shl ⟨(abM s).toNat, by omega⟩
  have e2 : (((abM s).toNat : Nat) : Int) = abM s := by omega
  rw [e2] at e
  simp only [E.den, dEq, iEq, sEq, e]
  simp [wantZ, h]
def callB (c : Call) : Bool := !decide (abM c.method < 0) && (decide (c.text = noText) || decide (c.method = mLoad)) &&
 ((decide (c.method = mGet) || decide (c.method = mPut)) && nameB c.key || !(decide (c.method = mGet) || decide (c.method = mPut)) && decide (c.key = noText)) &&
 (decide (c.val = 0) || (decide (c.method = mPut) || decide (c.method = mHear)) && decide (0 < c.val) && decide (c.val ≤ 999))
theorem m_ne : mGet ≠ mPut ∧ mGet ≠ mHear ∧ mPut ≠ mHear := by decide
theorem c_spec_IsCall (c : Call) : Fun Tryz.prog 129 none [enc c] (.bool (callB c)) [] := by
 refine Fun.ofV vc_spec_IsCall_ok ty_spec_IsCall_ok rfl ?_ (fun hfit => ?_)
 ·exact ⟨ty_Call c, trivial⟩
 unfold vc_spec_IsCall
 ((first | refine den_call ?_ (c_spec_WantOf c.method) (rfl) ?_ | refine den_callR ?_ (c_spec_WantOf c.method) (rfl) ?_ | refine den_call ?_ (.ofR (c_spec_WantOf c.method)) (rfl) ?_); (focus (simp only [VC.den, E.den, dEq, gsH_nil, and_true, cells_Call]; try exact rfl)); (simp only [cA]))
 ((first | refine den_call ?_ (c_spec_IsName c.key) (trivial) ?_ | refine den_callR ?_ (c_spec_IsName c.key) (trivial) ?_ | refine den_call ?_ (.ofR (c_spec_IsName c.key)) (trivial) ?_); (focus (simp only [VC.den, E.den, dEq, gsH_nil, and_true, cells_Call]; try exact rfl)); (simp only [cA]))
 refine den_ite (fun h => ?_) (fun h => ?_)
 ·simp only [E.den, dEq, iEq, sEq, cells_Call] at h
  have := wantZ_zero c.method
  have := m_ne
  refine den_ret ?_
  simp only [E.den, D.bool.injEq]
  unfold callB mGet mPut mHear mLoad noText at *; grind
 simp only [E.den, dEq, iEq, sEq, cells_Call] at h
 have := wantZ_zero c.method
 have := m_ne
 refine den_ret ?_
 simp only [E.den, dEq, iEq, sEq, cells_Call]
 simp only [D.bool.injEq]
 unfold callB mGet mPut mHear mLoad noText at *; grind
theorem c_impl_IsCall (c : Call) : Fun Tryz.prog 98 none [enc c] (.bool (callB c)) [] := by
 refine Fun.ofV vc_impl_IsCall_ok ty_impl_IsCall_ok rfl ?_ (fun hfit => ?_)
 ·exact ⟨ty_Call c, trivial⟩
 have hn := m_ne
 unfold vc_impl_IsCall
 ((first | refine den_call ?_ (c_impl_AbilityOfMethod c.method) (rfl) ?_ | refine den_callR ?_ (c_impl_AbilityOfMethod c.method) (rfl) ?_ | refine den_call ?_ (.ofR (c_impl_AbilityOfMethod c.method)) (rfl) ?_); (focus (simp only [VC.den, E.den, dEq, gsH_nil, and_true, cells_Call]; try exact rfl)); (simp only [cA]))
 refine den_ite (fun h => ?_) (fun h => ?_)
 ·simp only [E.den, dEq, iEq, sEq, cells_Call] at h
  refine den_ret ?_
  simp only [E.den, D.bool.injEq]
  unfold callB mGet mPut mHear mLoad noText at *; grind
 simp only [E.den, dEq, iEq, sEq, cells_Call] at h
 refine den_ite (fun h1 => ?_) (fun h1 => ?_)
 ·simp only [E.den, dEq, iEq, sEq, cells_Call] at h1
  ((first | refine den_call ?_ (c_impl_IsName c.key) (trivial) ?_ | refine den_callR ?_ (c_impl_IsName c.key) (trivial) ?_ | refine den_call ?_ (.ofR (c_impl_IsName c.key)) (trivial) ?_); (focus (simp only [VC.den, E.den, dEq, gsH_nil, and_true, cells_Call]; try exact rfl)); (simp only [cA]))
  refine den_ret ?_
  simp only [E.den, dEq, iEq, sEq, cells_Call]
  simp only [D.bool.injEq]
  unfold callB mGet mPut mHear mLoad noText at *; grind
 simp only [E.den, dEq, iEq, sEq, cells_Call] at h1
 refine den_ite (fun h2 => ?_) (fun h2 => ?_)
 ·simp only [E.den, dEq, iEq, sEq, cells_Call] at h2
  ((first | refine den_call ?_ (c_impl_IsName c.key) (trivial) ?_ | refine den_callR ?_ (c_impl_IsName c.key) (trivial) ?_ | refine den_call ?_ (.ofR (c_impl_IsName c.key)) (trivial) ?_); (focus (simp only [VC.den, E.den, dEq, gsH_nil, and_true, cells_Call]; try exact rfl)); (simp only [cA]))
  ((first | refine den_call ?_ (c_impl_isNumber c.val) (trivial) ?_ | refine den_callR ?_ (c_impl_isNumber c.val) (trivial) ?_ | refine den_call ?_ (.ofR (c_impl_isNumber c.val)) (trivial) ?_); (focus (simp only [VC.den, E.den, dEq, gsH_nil, and_true, cells_Call]; try exact rfl)); (simp only [cA]))
  refine den_ret ?_
  simp only [E.den, dEq, iEq, sEq, cells_Call]
  simp only [D.bool.injEq]
  unfold callB mGet mPut mHear mLoad noText numB at *; grind
 simp only [E.den, dEq, iEq, sEq, cells_Call] at h2
 refine den_ite (fun h3 => ?_) (fun h3 => ?_)
 ·simp only [E.den, dEq, iEq, sEq, cells_Call] at h3
  ((first | refine den_call ?_ (c_impl_isNumber c.val) (trivial) ?_ | refine den_callR ?_ (c_impl_isNumber c.val) (trivial) ?_ | refine den_call ?_ (.ofR (c_impl_isNumber c.val)) (trivial) ?_); (focus (simp only [VC.den, E.den, dEq, gsH_nil, and_true, cells_Call]; try exact rfl)); (simp only [cA]))
  refine den_ret ?_
  simp only [E.den, dEq, iEq, sEq, cells_Call]
  simp only [D.bool.injEq]
  unfold callB mGet mPut mHear mLoad noText numB at *; grind
 simp only [E.den, dEq, iEq, sEq, cells_Call] at h3
 refine den_ret ?_
 simp only [E.den, dEq, iEq, sEq, cells_Call]
 simp only [D.bool.injEq]
 unfold callB mGet mPut mHear mLoad noText at *; grind
def zeroC : Call := ⟨noText, noText, 0, noText⟩
theorem eq_zeroC (c : Call) : eqvL [.str c.method, .str c.key, .int .i64 c.val, .str c.text] [.str ⟨#[]⟩, .str ⟨#[]⟩, .int .i64 0, .str ⟨#[]⟩] = decide (c = zeroC) := eqv_Call c zeroC
theorem c_impl_zeroCall (c : Call) : Fun Tryz.prog 102 none [enc c] (.bool (decide (c = zeroC))) [] := by
 refine Fun.ofV vc_impl_zeroCall_ok ty_impl_zeroCall_ok rfl ?_ (fun hfit => ?_)
 ·exact ⟨ty_Call c, trivial⟩
 unfold vc_impl_zeroCall
 refine den_ret ?_
 simp only [E.den, dEq, iEq, sEq, cells_Call, eq_zeroC]
def eventB (e : Event) : Bool := decide (1 ≤ e.kind) && decide (e.kind ≤ 5) && nameB e.name && (decide (e.kind = 3) && callB e.call || !decide (e.kind = 3) && decide (e.call = zeroC)) && (decide (e.kind = 5) && recOk e.recipe || !decide (e.kind = 5) && decide (e.recipe.length = 0))
theorem c_spec_IsEvent (e : Event) : Fun Tryz.prog 75 none [enc e] (.bool (eventB e)) [] := by
 refine Fun.ofV vc_spec_IsEvent_ok ty_spec_IsEvent_ok rfl ?_ (fun hfit => ?_)
 ·exact ⟨ty_Event e, trivial⟩
 unfold vc_spec_IsEvent
 ((first | refine den_call ?_ (c_spec_RecipeFace e.recipe) (⟨rfl, trivial, trivial⟩) ?_ | refine den_callR ?_ (c_spec_RecipeFace e.recipe) (⟨rfl, trivial, trivial⟩) ?_ | refine den_call ?_ (.ofR (c_spec_RecipeFace e.recipe)) (⟨rfl, trivial, trivial⟩) ?_); (focus (simp only [VC.den, E.den, dEq, gsH_nil, and_true, cells_Event]; try exact rfl)); (simp only [cA]))
 ((first | refine den_call ?_ (c_spec_IsCall e.call) (trivial) ?_ | refine den_callR ?_ (c_spec_IsCall e.call) (trivial) ?_ | refine den_call ?_ (.ofR (c_spec_IsCall e.call)) (trivial) ?_); (focus (simp only [VC.den, E.den, dEq, gsH_nil, and_true, cells_Event, cells_Call]; try exact rfl)); (simp only [cA]))
 ((first | refine den_call ?_ (c_spec_IsName e.name) (trivial) ?_ | refine den_callR ?_ (c_spec_IsName e.name) (trivial) ?_ | refine den_call ?_ (.ofR (c_spec_IsName e.name)) (trivial) ?_); (focus (simp only [VC.den, E.den, dEq, gsH_nil, and_true, cells_Event]; try exact rfl)); (simp only [cA]))
 refine den_ite (fun h => ?_) (fun h => ?_)
 ·simp only [E.den, dEq, iEq, sEq, cells_Event] at h
  refine den_ret ?_
  simp only [E.den, D.bool.injEq]
  unfold eventB; grind
 simp only [E.den, dEq, iEq, sEq, cells_Event] at h
 refine den_ite (fun h1 => ?_) (fun h1 => ?_)
 ·simp only [E.den, dEq, iEq, sEq, cells_Event, eq_zeroC] at h1
  refine den_ret ?_
  simp only [E.den, D.bool.injEq]
  unfold eventB; grind
 simp only [E.den, dEq, iEq, sEq, cells_Event, eq_zeroC] at h1
 refine den_ret ?_
 simp only [E.den, dEq, iEq, sEq, cells_Event]
 simp only [D.bool.injEq]
 unfold eventB; grind
theorem c_impl_IsEvent (e : Event) : Fun Tryz.prog 50 none [enc e] (.bool (eventB e)) [] := by
 refine Fun.ofV vc_impl_IsEvent_ok ty_impl_IsEvent_ok rfl ?_ (fun hfit => ?_)
 ·exact ⟨ty_Event e, trivial⟩
 unfold vc_impl_IsEvent
 ((first | refine den_call ?_ (c_impl_IsName e.name) (trivial) ?_ | refine den_callR ?_ (c_impl_IsName e.name) (trivial) ?_ | refine den_call ?_ (.ofR (c_impl_IsName e.name)) (trivial) ?_); (focus (simp only [VC.den, E.den, dEq, gsH_nil, and_true, cells_Event]; try exact rfl)); (simp only [cA]))
 refine den_ite (fun h => ?_) (fun h => ?_)
 ·simp only [E.den, dEq, iEq, sEq, cells_Event] at h
  refine den_ret ?_
  simp only [E.den, D.bool.injEq]
  unfold eventB; grind
 simp only [E.den, dEq, iEq, sEq, cells_Event] at h
 ((first | refine den_call ?_ (c_impl_IsCall e.call) (trivial) ?_ | refine den_callR ?_ (c_impl_IsCall e.call) (trivial) ?_ | refine den_call ?_ (.ofR (c_impl_IsCall e.call)) (trivial) ?_); (focus (simp only [VC.den, E.den, dEq, gsH_nil, and_true, cells_Event, cells_Call]; try exact rfl)); (simp only [cA]))
 ((first | refine den_call ?_ (c_impl_zeroCall e.call) (trivial) ?_ | refine den_callR ?_ (c_impl_zeroCall e.call) (trivial) ?_ | refine den_call ?_ (.ofR (c_impl_zeroCall e.call)) (trivial) ?_); (focus (simp only [VC.den, E.den, dEq, gsH_nil, and_true, cells_Event, cells_Call]; try exact rfl)); (simp only [cA]))
 refine den_ite (fun h1 => ?_) (fun h1 => ?_)
 ·simp only [E.den, dEq, iEq, sEq, cells_Event] at h1
  refine den_ret ?_
  simp only [E.den, D.bool.injEq]
  unfold eventB; grind
 simp only [E.den, dEq, iEq, sEq, cells_Event] at h1
 refine den_ite (fun h2 => ?_) (fun h2 => ?_)
 ·simp only [E.den, dEq, iEq, sEq, cells_Event] at h2
  ((first | refine den_call ?_ (c_impl_RecipeFace e.recipe) (⟨rfl, trivial, trivial⟩) ?_ | refine den_callR ?_ (c_impl_RecipeFace e.recipe) (⟨rfl, trivial, trivial⟩) ?_ | refine den_call ?_ (.ofR (c_impl_RecipeFace e.recipe)) (⟨rfl, trivial, trivial⟩) ?_); (focus (simp only [VC.den, E.den, dEq, gsH_nil, and_true, cells_Event]; try exact rfl)); (simp only [cA]))
  refine den_ret ?_
  simp only [E.den, dEq, iEq, sEq, cells_Event]
  simp only [D.bool.injEq]
  unfold eventB; grind
 simp only [E.den, dEq, iEq, sEq, cells_Event] at h2
 refine den_ret ?_
 simp only [E.den, dEq, iEq, sEq, cells_Event]
 simp only [D.bool.injEq]
 unfold eventB; grind
end Go.Proofs.YtjmakbnblpjkhaaGreatDoor
/- Equality of hosts: what the program and the reference compute. -/
namespace Go.Proofs.YtjmakbnblpjkhaaGreatDoor
open Go.RowKit Go
variable [GC]
theorem ne_at {α : Type} [Inhabited α] {l l' : List α} {k : Nat} (h : nth l k ≠ nth l' k) : l ≠ l' := fun e => h (by rw [e])
theorem ne_len {α : Type} {l l' : List α} (h : l.length ≠ l'.length) : l ≠ l' := fun e => h (by rw [e])
theorem c_impl_sameTexts (l l' : List ByteArray) : Fun Tryz.prog 86 none [encS l, encS l'] (.bool (decide (l = l'))) [] := by
 refine Fun.ofV vc_impl_sameTexts_ok ty_impl_sameTexts_ok rfl ?_ (fun hfit => ?_)
 ·exact ⟨ty_strS l, ty_strS l', trivial⟩
 have hl : l.length ≤ 9223372036854775807 := fits_encS hfit.1
 unfold vc_impl_sameTexts
 refine den_ite (fun h => ?_) (fun h => ?_)
 ·simp only [E.den, dEq, iEq, sEq] at h
  have h : l.length ≠ l'.length := by grind
  exact den_ret (by simp [E.den, ne_len h])
 simp only [E.den, dEq, iEq, sEq] at h
 have h : l.length = l'.length := by grind
 refine den_for l.length (fun k => [.int .i64 k]) (fun k => ∀ i, i < k → nth l i = nth l' i) rfl (by omega) ?_
 intro k hk hI _
 simp only [cA]
 refine den_ite (fun h2 => ?_) (fun h2 => ?_)
 ·simp only [E.den, dEq, iEq, sEq] at h2
  have h2 : k < l.length := by simp at h2; exact h2
  (refine den_cond (fun hg => ?_) ?_; (focus (simp only [gsH, gE, E.den, dEq, iEq, sEq] at hg ⊢; (try simp only [D.bool.injEq] at hg); (try simp only [D.bool.injEq]); grind)))
  (refine den_cond (fun hg => ?_) ?_; (focus (simp only [gsH, gE, E.den, dEq, iEq, sEq] at hg ⊢; (try simp only [D.bool.injEq] at hg); (try simp only [D.bool.injEq]); grind)))
  refine den_ite (fun h3 => ?_) (fun h3 => ?_)
  ·simp only [E.den, dEq, iEq, sEq, row_str, cells_str] at h3
   have h3 : nth l k ≠ nth l' k := by simpa using h3
   exact den_ret (by simp [E.den, ne_at h3])
  ·simp only [E.den, dEq, iEq, sEq, row_str, cells_str] at h3
   have h3 : nth l k = nth l' k := by simpa using h3
   refine den_next h2 ?_ fun i hi => ?_
   ·simp only [E.den, dEq, iEq, sEq]
    rw [ar_add (by omega) (by omega)]; rfl
   ·rcases Nat.lt_or_ge i k with h' | h'
    ·exact hI i h'
    ·obtain rfl : i = k := by omega
     exact h3
 ·simp only [E.den, dEq, iEq, sEq] at h2
  obtain rfl : k = l.length := by simp at h2; omega
  exact den_ret (by simp [E.den, ext_nth h hI])
theorem c_spec_l1SameTexts (l l' : List ByteArray) : Fun Tryz.prog 73 none [encS l, encS l'] (.bool (decide (l = l'))) [] := by
 refine Fun.ofV vc_spec_l1SameTexts_ok ty_spec_l1SameTexts_ok rfl ?_ (fun hfit => ?_)
 ·exact ⟨ty_strS l, ty_strS l', trivial⟩
 have hl : l.length ≤ 9223372036854775807 := fits_encS hfit.1
 unfold vc_spec_l1SameTexts
 refine den_ite (fun h => ?_) (fun h => ?_)
 ·simp only [E.den, dEq, iEq, sEq] at h
  have h : l.length ≠ l'.length := by grind
  exact den_ret (by simp [E.den, ne_len h])
 simp only [E.den, dEq, iEq, sEq] at h
 have h : l.length = l'.length := by grind
 refine den_for l.length (fun k => [.int .i64 k]) (fun k => ∀ i, i < k → nth l i = nth l' i) rfl (by omega) ?_
 intro k hk hI _
 simp only [cA]
 refine den_ite (fun h2 => ?_) (fun h2 => ?_)
 ·simp only [E.den, dEq, iEq, sEq] at h2
  have h2 : k < l.length := by simp at h2; exact h2
  (refine den_cond (fun hg => ?_) ?_; (focus (simp only [gsH, gE, E.den, dEq, iEq, sEq] at hg ⊢; (try simp only [D.bool.injEq] at hg); (try simp only [D.bool.injEq]); grind)))
  (refine den_cond (fun hg => ?_) ?_; (focus (simp only [gsH, gE, E.den, dEq, iEq, sEq] at hg ⊢; (try simp only [D.bool.injEq] at hg); (try simp only [D.bool.injEq]); grind)))
  refine den_ite (fun h3 => ?_) (fun h3 => ?_)
  ·simp only [E.den, dEq, iEq, sEq, row_str, cells_str] at h3
   have h3 : nth l k ≠ nth l' k := by simpa using h3
   exact den_ret (by simp [E.den, ne_at h3])
  ·simp only [E.den, dEq, iEq, sEq, row_str, cells_str] at h3
   have h3 : nth l k = nth l' k := by simpa using h3
   refine den_next h2 ?_ fun i hi => ?_
   ·simp only [E.den, dEq, iEq, sEq]
    rw [ar_add (by omega) (by omega)]; rfl
   ·rcases Nat.lt_or_ge i k with h' | h'
    ·exact hI i h'
    ·obtain rfl : i = k := by omega
     exact h3
 ·simp only [E.den, dEq, iEq, sEq] at h2
  obtain rfl : k = l.length := by simp at h2; omega
  exact den_ret (by simp [E.den, ext_nth h hI])
end Go.Proofs.YtjmakbnblpjkhaaGreatDoor
/- Contracts: whether a host is valid: what the program and the reference compute. -/
namespace Go.Proofs.YtjmakbnblpjkhaaGreatDoor
open Go.RowKit Go
variable [GC]
/-! The recipe of a part -/
def recTo (p : Part) (k : Nat) : List ByteArray := p.core.kind :: (p.layers.take k).map (·.name)
def recL (p : Part) : List ByteArray := p.core.kind :: p.layers.map (·.name)
theorem recTo_succ (p : Part) {k : Nat} (h : k < p.layers.length) : recTo p (k + 1) = recTo p k ++ [(nth p.layers k).name] := by
 unfold recTo
 rw [take_snoc _ h, List.map_append]
 rfl
theorem recTo_len (p : Part) (k : Nat) : (recTo p k).length ≤ k + 1 := by
 unfold recTo
 simp
 omega
theorem recTo_all (p : Part) : recTo p p.layers.length = recL p := by unfold recTo recL; rw [List.take_length]
theorem c_impl_RecipeOf (p : Part) (h : p.layers.length ≤ 1048576) : FunR Tryz.prog 87 none [enc p] (encS (recL p)) [] [(0, 1)] := by
 refine FunR.ofV vc_impl_RecipeOf_ok ty_impl_RecipeOf_ok rt_impl_RecipeOf_ok rfl ?_ (fun hfit => ?_)
 ·exact ⟨ty_Part p, trivial⟩
 unfold vc_impl_RecipeOf
 refine den_for p.layers.length (fun k => [encS (recTo p k), .int .i64 k]) (fun _ => True) ?_ trivial ?_
 ·simp only [E.den, dEq, iEq, sEq, cells_Part]
  simp [recTo, encS, cells_str]
 intro k hk _ _
 simp only [cA]
 have hl := recTo_len p k
 refine den_ite (fun h2 => ?_) (fun h2 => ?_)
 ·simp only [E.den, dEq, iEq, sEq, cells_Part] at h2
  have h2 : k < p.layers.length := by simp at h2; exact h2
  (refine den_cond (fun hg => ?_) ?_; (focus (simp only [gsH, gE, E.den, dEq, iEq, sEq, cells_Part] at hg ⊢; (try simp only [D.bool.injEq] at hg); (try simp only [D.bool.injEq]); grind)))
  refine den_cond (fun _ => ?_) ?_
  ·simp [E.den]; omega
  refine den_next h2 ?_ trivial
  simp only [E.den, dEq, iEq, sEq, cells_Part, row_Layer, cells_Layer]
  rw [ar_add (by omega) (by omega), nm_snoc, ← recTo_succ p h2]; rfl
 ·simp only [E.den, dEq, iEq, sEq, cells_Part] at h2
  obtain rfl : k = p.layers.length := by simp at h2; omega
  exact den_ret (by rw [← recTo_all]; rfl)
theorem c_spec_RecipeOf (p : Part) (h : p.layers.length ≤ 1048576) : FunR Tryz.prog 74 none [enc p] (encS (recL p)) [] [(0, 1)] := by
 refine FunR.ofV vc_spec_RecipeOf_ok ty_spec_RecipeOf_ok rt_spec_RecipeOf_ok rfl ?_ (fun hfit => ?_)
 ·exact ⟨ty_Part p, trivial⟩
 unfold vc_spec_RecipeOf
 refine den_for p.layers.length (fun k => [encS (recTo p k), .int .i64 k]) (fun _ => True) ?_ trivial ?_
 ·simp only [E.den, dEq, iEq, sEq, cells_Part]
  simp [recTo, encS, cells_str]
 intro k hk _ _
 simp only [cA]
 have hl := recTo_len p k
 refine den_ite (fun h2 => ?_) (fun h2 => ?_)
 ·simp only [E.den, dEq, iEq, sEq, cells_Part] at h2
  have h2 : k < p.layers.length := by simp at h2; exact h2
  (refine den_cond (fun hg => ?_) ?_; (focus (simp only [gsH, gE, E.den, dEq, iEq, sEq, cells_Part] at hg ⊢; (try simp only [D.bool.injEq] at hg); (try simp only [D.bool.injEq]); grind)))
  refine den_cond (fun _ => ?_) ?_
  ·simp [E.den]; omega
  refine den_next h2 ?_ trivial
  simp only [E.den, dEq, iEq, sEq, cells_Part, row_Layer, cells_Layer]
  rw [ar_add (by omega) (by omega), nm_snoc, ← recTo_succ p h2]; rfl
 ·simp only [E.den, dEq, iEq, sEq, cells_Part] at h2
  obtain rfl : k = p.layers.length := by simp at h2; omega
  exact den_ret (by rw [← recTo_all]; rfl)
/-! Ascending texts -/
def sortAt (l : List ByteArray) (k : Nat) : Bool := k == 0 || ltB (nth l (k - 1)) (nth l k)
def sortB (l : List ByteArray) : Bool := allTo (sortAt l) l.length
theorem c_impl_isSorted (l : List ByteArray) : Fun Tryz.prog 82 none [encS l] (.bool (sortB l)) [] := by
 refine Fun.ofV vc_impl_isSorted_ok ty_impl_isSorted_ok rfl ?_ (fun hfit => ?_)
 ·exact ⟨ty_strS l, trivial⟩
 have hl : l.length ≤ 9223372036854775807 := fits_encS hfit.1
 unfold vc_impl_isSorted
 have h0 : ∀ i, i ≤ 0 → i < l.length → sortAt l i = true := fun i hi _ => by
  obtain rfl : i = 0 := by omega
  rfl
 refine den_for (l.length - 1) (fun k => [.int .i64 ((k + 1 : Nat) : Int)]) (fun k => ∀ i, i ≤ k → i < l.length → sortAt l i = true) rfl h0 ?_
 intro k hk hI _
 simp only [cA]
 refine den_ite (fun h2 => ?_) (fun h2 => ?_)
 ·simp only [E.den, dEq, iEq, sEq] at h2
  have h2 : k + 1 < l.length := by simp at h2; omega
  have e1 : arI .sub .i64 ((k + 1 : Nat) : Int) 1 = (k : Int) := by rw [ar_sub (by omega) (by omega)]; omega
  refine den_cond (fun _ => ?_) (den_cond (fun _ => ?_) ?_)
  ·simp only [E.den, dEq, iEq, sEq, e1]; simp; omega
  ·simp only [E.den, dEq, iEq, sEq]; simp; omega
  refine den_ite (fun h3 => ?_) (fun h3 => ?_)
  ·simp only [E.den, dEq, iEq, sEq, row_str, cells_str, e1] at h3
   have hb : sortAt l (k + 1) = false := by unfold sortAt; simpa using h3
   exact den_ret (by simp [E.den, sortB, allTo_bad h2 hb])
  ·simp only [E.den, dEq, iEq, sEq, row_str, cells_str, e1] at h3
   have hb : sortAt l (k + 1) = true := by unfold sortAt; simpa using h3
   refine den_next (by omega) ?_ fun i hi hil => ?_
   ·simp only [E.den, dEq, iEq, sEq]
    rw [ar_add (by omega) (by omega)]; rfl
   ·rcases Nat.lt_or_ge k i with h | h
    ·obtain rfl : i = k + 1 := by omega
     exact hb
    ·exact hI i h hil
 ·simp only [E.den, dEq, iEq, sEq] at h2
  have h2 : ¬ k + 1 < l.length := by simp at h2; omega
  refine den_ret ?_
  have : sortB l = true := by
   unfold sortB
   rw [allTo_iff]
   exact fun i hi => hI i (by omega) hi
  simp [E.den, this]
/-! Who may be up -/
def upAt (l : List Entry) (up : List ByteArray) (j : Nat) : Bool := match findO l (nth up j) with
 | none => false
 | some k => !hasB (up.take j) (nth up j) && allTo (fun i => !needS l k i || hasB (up.take j) (nth l i).name) l.length
def upB (l : List Entry) (up : List ByteArray) : Bool := allTo (upAt l up) up.length
theorem hasB_snoc (l : List ByteArray) (s t : ByteArray) : hasB (l ++ [t]) s = (hasB l s || decide (t = s)) := by
 unfold hasB
 rw [List.any_append]
 simp
theorem c_impl_upFits (h : Host) (hr : regB h.entries = true) : Fun Tryz.prog 88 none [enc h, wireD h.entries] (.bool (upB h.entries h.up)) [] := by
 refine Fun.ofV vc_impl_upFits_ok ty_impl_upFits_ok rfl ?_ (fun hfit => ?_)
 ·exact ⟨ty_Host h, ty_wireD _, trivial⟩
 have hf := hfit.1
 simp only [enc, Fits, cells_Host, FitsL] at hf
 have hul : h.up.length ≤ 9223372036854775807 := fits_encS (show Fits (encS h.up) from hf.2.2.1)
 have h6 := (reg_parts hr).1
 unfold vc_impl_upFits
 refine den_cond (fun _ => ?_) ?_
 ·simp only [E.den, dEq, iEq, sEq, cells_Host]; simp; omega
 generalize hl : h.entries = l at hr h6
 refine den_for h.up.length (fun j => [.int .i64 j, bRow l.length (fun a => hasB (h.up.take j) (nth l a).name)]) (fun j => ∀ i, i < j → upAt l h.up i = true) ?_ (by omega) ?_
 ·simp only [E.den, dEq, iEq, sEq, cells_Host, hl, zeroD]
  simp only [Int.toNat_natCast, List.map_cons, List.map_nil, zeroD, rowsOf_rep]
  rfl
 intro j hj hI _
 simp only [cA]
 refine den_ite (fun h2 => ?_) (fun h2 => ?_)
 ·simp only [E.den, dEq, iEq, sEq, cells_Host] at h2
  have h2 : j < h.up.length := by simp at h2; exact h2
  (refine den_cond (fun hg => ?_) ?_; (focus (simp only [gsH, gE, E.den, dEq, iEq, sEq, cells_Host] at hg ⊢; (try simp only [D.bool.injEq] at hg); (try simp only [D.bool.injEq]); grind)))
  ((first | refine den_call ?_ (c_impl_FindEntry l (nth h.up j)) (rfl) ?_ | refine den_callR ?_ (c_impl_FindEntry l (nth h.up j)) (rfl) ?_ | refine den_call ?_ (.ofR (c_impl_FindEntry l (nth h.up j))) (rfl) ?_); (focus (simp only [VC.den, E.den, dEq, gsH_nil, and_true, cells_Host, hl, row_str, cells_str]; try exact rfl)); (simp only [cA]))
  cases hfo : findO l (nth h.up j) with
  | none =>
   have hfi : findI l (nth h.up j) = -1 := by unfold findI; rw [hfo]
   have hb : upAt l h.up j = false := by unfold upAt; rw [hfo]
   rw [hfi]
   refine den_cond (fun hg => ?_) ?_
   ·simp [gsH, E.den, cmpI] at hg
   refine den_ite (fun _ => ?_) (fun h3 => ?_)
   ·exact den_ret (by simp [E.den, upB, allTo_bad h2 hb])
   ·simp [E.den, cmpI] at h3
  | some k =>
   obtain ⟨hk, hkn⟩ := find_is hfo
   have hfi : findI l (nth h.up j) = (k : Int) := by unfold findI; rw [hfo]
   rw [hfi]
   refine den_cond (fun _ => ?_) ?_
   ·simp only [E.den, dEq, iEq, sEq, cells_Host, hl, lenD_mem]; simp; omega
   refine den_ite (fun h3 => ?_) (fun h3 => ?_)
   ·simp only [E.den, dEq, iEq, sEq, bRow_get hk, hkn] at h3
    have h3 : hasB (h.up.take j) (nth h.up j) = true := by
     simp at h3
     rcases h3 with h3 | h3
     ·omega
     ·exact h3
    have hb : upAt l h.up j = false := by unfold upAt; rw [hfo]; simp [h3]
    exact den_ret (by simp [E.den, upB, allTo_bad h2 hb])
   simp only [E.den, dEq, iEq, sEq, bRow_get hk, hkn] at h3
   have h3 : hasB (h.up.take j) (nth h.up j) = false := by
    cases hq : hasB (h.up.take j) (nth h.up j) with
    | false => rfl
    | true => simp [hq] at h3
   refine den_cond (fun _ => ?_) ?_
   ·simp only [E.den, dEq, iEq, sEq, wireD, bMat_len, hl]; simp; omega
   refine den_for l.length (fun i => [.int .i64 i]) (fun i => ∀ a, a < i → (!needS l k a || hasB (h.up.take j) (nth l a).name) = true) rfl (by omega) ?_
   intro i hi hJ _
   simp only [cA]
   refine den_ite (fun h4 => ?_) (fun h4 => ?_)
   ·simp only [E.den, dEq, iEq, sEq, wireD, hl, bMat_get hk, bRow_len] at h4
    have h4 : i < l.length := by simp at h4; exact h4
    refine den_cond (fun _ => ?_) (den_cond (fun _ => ?_) ?_)
    ·simp only [E.den, dEq, iEq, sEq, wireD, hl, bMat_get hk, bRow_len]; simp; omega
    ·simp only [E.den, dEq, iEq, sEq, cells_Host, hl, lenD_mem]; simp; omega
    refine den_ite (fun h5 => ?_) (fun h5 => ?_)
    ·simp only [E.den, dEq, iEq, sEq, wireD, hl, bMat_get hk, bRow_get h4] at h5
     have h5 : (!needS l k i || hasB (h.up.take j) (nth l i).name) = false := by simpa using h5
     have hb : upAt l h.up j = false := by
      unfold upAt
      rw [hfo]
      show (!hasB (h.up.take j) (nth h.up j) && allTo (fun i => !needS l k i || hasB (h.up.take j) (nth l i).name) l.length) = false
      rw [allTo_bad (p := fun i => !needS l k i || hasB (h.up.take j) (nth l i).name) h4 h5, Bool.and_false]
     exact den_ret (by simp [E.den, upB, allTo_bad h2 hb])
    ·simp only [E.den, dEq, iEq, sEq, wireD, hl, bMat_get hk, bRow_get h4] at h5
     have h5 : (!needS l k i || hasB (h.up.take j) (nth l i).name) = true := by
      cases hq : needS l k i <;> simp [hq] at h5 ⊢
      exact h5
     refine den_next h4 ?_ fun a ha => ?_
     ·simp only [E.den, dEq, iEq, sEq]
      rw [ar_add (by omega) (by omega)]; rfl
     ·rcases Nat.lt_or_ge a i with h6 | h6
      ·exact hJ a h6
      ·obtain rfl : a = i := by omega
       exact h5
   ·simp only [E.den, dEq, iEq, sEq, wireD, hl, bMat_get hk, bRow_len] at h4
    obtain rfl : i = l.length := by simp at h4; omega
    have hb : upAt l h.up j = true := by
     unfold upAt
     rw [hfo]
     simp only [h3, Bool.not_false, Bool.true_and]
     rw [allTo_iff]; exact hJ
    refine den_cond (fun _ => ?_) ?_
    ·simp only [E.den, dEq, iEq, sEq, cells_Host, hl, lenD_mem]; simp; omega
    refine den_next1 h2 ?_ fun a ha => ?_
    ·simp only [E.den, dEq, iEq, sEq, bRow_upd]
     rw [ar_add (by omega) (by omega), show bRow l.length (fun a => hasB (h.up.take (j + 1)) (nth l a).name) = bRow l.length (fun a => if a = k then true else hasB (h.up.take j) (nth l a).name) from bRow_congr fun a ha => by
      rw [take_snoc _ h2, hasB_snoc, ← hkn]
      by_cases e : a = k
      ·subst e; simp
      ·have : (nth l k).name ≠ (nth l a).name := fun e2 => e (reg_inj hr ha hk e2.symm)
       simp [e, this]]
     rfl
    ·rcases Nat.lt_or_ge a j with h6 | h6
     ·exact hI a h6
     ·obtain rfl : a = j := by omega
      exact hb
 ·simp only [E.den, dEq, iEq, sEq, cells_Host] at h2
  obtain rfl : j = h.up.length := by simp at h2; omega
  have : upB l h.up = true := by unfold upB; rw [allTo_iff]; exact hI
  exact den_ret (by simp [E.den, this])
theorem ready_any {l : List Entry} (hr : regB l = true) (done : List ByteArray) {i : Nat} (hi : i < l.length) : readyL (linksL l) (nth l i).name done = allTo (fun k => !needS l i k || hasB done (nth l k).name) l.length := by
 rw [Bool.eq_iff_iff]
 unfold readyL
 rw [allTo_iff, allTo_iff]
 constructor
 ·intro h c hc
  cases hn : needS l i c with
  | false => rfl
  | true =>
   obtain ⟨x, hx, h1, h2⟩ := (link_edge hr).2 ⟨i, c, hi, hc, hn, rfl, rfl⟩
   obtain ⟨k, hk, rfl⟩ := List.getElem_of_mem hx
   have e : nth (linksL l) k = (linksL l)[k] := by simp [nth, List.getD_eq_getElem?_getD, hk]
   have := h k hk
   rw [e] at this
   have h1' : (linksL l)[k].frm = (nth l i).name := h1
   have h2' : (linksL l)[k].to = (nth l c).name := h2
   rw [h1', h2'] at this
   simpa using this
 ·intro h k hk
  cases hd : decide ((nth (linksL l) k).frm = (nth l i).name) with
  | false => rfl
  | true =>
   rw [decide_eq_true_eq] at hd
   obtain ⟨a, c, h1, h2, h3, h4, h5⟩ := (link_edge hr).1 ⟨_, nth_mem hk, hd, rfl⟩
   have ha : a = i := reg_inj hr h1 hi h4
   subst ha
   have h5' : (nth l c).name = (nth (linksL l) k).to := h5
   have := h c h2
   rw [h3] at this
   rw [← h5']
   simpa using this
theorem c_spec_l7Up (l : List Entry) (up : List ByteArray) (hr : regB l = true) (hul : up.length ≤ 4294967296) : Fun Tryz.prog 71 none [encS l, encS up] (.bool (upB l up)) [] := by
 refine Fun.ofV vc_spec_l7Up_ok ty_spec_l7Up_ok rfl ?_ (fun hfit => ?_)
 ·exact ⟨ty_EntryS l, ty_strS up, trivial⟩
 unfold vc_spec_l7Up
 ((first | refine den_call ?_ (c_spec_LinksOf l) (ty_LinkS _) ?_ | refine den_callR ?_ (c_spec_LinksOf l) (ty_LinkS _) ?_ | refine den_call ?_ (.ofR (c_spec_LinksOf l)) (ty_LinkS _) ?_); (focus (simp only [VC.den, E.den, dEq, gsH_nil, and_true]; try exact rfl)); (simp only [cA]))
 refine den_for up.length (fun j => [encS (up.take j), .int .i64 j]) (fun j => ∀ i, i < j → upAt l up i = true) rfl (by omega) ?_
 intro j hj hI _
 simp only [cA]
 refine den_ite (fun h2 => ?_) (fun h2 => ?_)
 ·simp only [E.den, dEq, iEq, sEq] at h2
  have h2 : j < up.length := by simp at h2; exact h2
  (refine den_cond (fun hg => ?_) ?_; (focus (simp only [gsH, gE, E.den, dEq, iEq, sEq] at hg ⊢; (try simp only [D.bool.injEq] at hg); (try simp only [D.bool.injEq]); grind)))
  ((first | refine den_call ?_ (c_spec_FindEntry l (nth up j)) (rfl) ?_ | refine den_callR ?_ (c_spec_FindEntry l (nth up j)) (rfl) ?_ | refine den_call ?_ (.ofR (c_spec_FindEntry l (nth up j))) (rfl) ?_); (focus (simp only [VC.den, E.den, dEq, gsH_nil, and_true, row_str, cells_str]; try exact rfl)); (simp only [cA]))
  ((first | refine den_call ?_ (c_spec_l1HasText (up.take j) (nth up j)) (trivial) ?_ | refine den_callR ?_ (c_spec_l1HasText (up.take j) (nth up j)) (trivial) ?_ | refine den_call ?_ (.ofR (c_spec_l1HasText (up.take j) (nth up j))) (trivial) ?_); (focus (simp only [VC.den, E.den, dEq, gsH_nil, and_true, row_str, cells_str]; try exact rfl)); (simp only [cA]))
  ((first | refine den_call ?_ (c_spec_l6Ready (linksL l) (nth up j) (up.take j)) (trivial) ?_ | refine den_callR ?_ (c_spec_l6Ready (linksL l) (nth up j) (up.take j)) (trivial) ?_ | refine den_call ?_ (.ofR (c_spec_l6Ready (linksL l) (nth up j) (up.take j))) (trivial) ?_); (focus (simp only [VC.den, E.den, dEq, gsH_nil, and_true, row_str, cells_str]; try exact rfl)); (simp only [cA]))
  refine den_ite (fun h3 => ?_) (fun h3 => ?_)
  ·simp only [E.den, dEq, iEq, sEq] at h3
   have hb : upAt l up j = false := by
    unfold upAt
    cases hfo : findO l (nth up j) with
    | none => rfl
    | some k =>
     obtain ⟨hk, hkn⟩ := find_is hfo
     have hfi : findI l (nth up j) = (k : Int) := by unfold findI; rw [hfo]
     have hrd := ready_any hr (up.take j) hk
     rw [hkn] at hrd
     rw [hfi, hrd] at h3
     have h0 : decide ((k : Int) < 0) = false := by rw [decide_eq_false_iff_not]; omega
     rw [h0, Bool.false_or] at h3
     show (!hasB (up.take j) (nth up j) && allTo (fun i => !needS l k i || hasB (up.take j) (nth l i).name) l.length) = false
     revert h3
     cases hasB (up.take j) (nth up j) <;> cases allTo (fun i => !needS l k i || hasB (up.take j) (nth l i).name) l.length <;> simp
   exact den_ret (by simp [E.den, upB, allTo_bad h2 hb])
  ·simp only [E.den, dEq, iEq, sEq] at h3
   have hb : upAt l up j = true := by
    unfold upAt
    cases hfo : findO l (nth up j) with
    | none =>
     have hfi : findI l (nth up j) = -1 := by unfold findI; rw [hfo]
     rw [hfi] at h3; simp at h3
    | some k =>
     obtain ⟨hk, hkn⟩ := find_is hfo
     have hrd := ready_any hr (up.take j) hk
     rw [hkn] at hrd
     rw [hrd] at h3
     show (!hasB (up.take j) (nth up j) && allTo (fun i => !needS l k i || hasB (up.take j) (nth l i).name) l.length) = true
     revert h3
     cases hasB (up.take j) (nth up j) <;> cases allTo (fun i => !needS l k i || hasB (up.take j) (nth l i).name) l.length <;> simp
   refine den_cond (fun _ => ?_) ?_
   ·simp [E.den]; omega
   refine den_next h2 ?_ fun i hi => ?_
   ·simp only [E.den, dEq, iEq, sEq, row_str, cells_str]
    rw [ar_add (by omega) (by omega), nm_snoc, ← take_snoc _ h2]; rfl
   ·rcases Nat.lt_or_ge i j with h6 | h6
    ·exact hI i h6
    ·obtain rfl : i = j := by omega
     exact hb
 ·simp only [E.den, dEq, iEq, sEq] at h2
  obtain rfl : j = up.length := by simp at h2; omega
  have : upB l up = true := by unfold upB; rw [allTo_iff]; exact hI
  exact den_ret (by simp [E.den, this])
/-! Hosts -/
def shutAt (h : Host) (i : Nat) : Bool := !decide (findI h.entries (nth h.shut i) < 0) && !hasB h.up (nth h.shut i)
def partAt (h : Host) (i : Nat) : Bool := partB (nth h.parts i) && decide (recL (nth h.parts i) = (nth h.entries i).recipe)
def logAt (h : Host) (i : Nat) : Bool := eventB (nth h.log i)
def hostB (h : Host) : Bool := regB h.entries && decide (h.parts.length = h.entries.length) && decide (h.log.length ≤ 24) && sortB h.shut && allTo (fun i => !stuckS h.entries i) h.entries.length && allTo (partAt h) h.entries.length &&
 allTo (shutAt h) h.shut.length && allTo (logAt h) h.log.length && upB h.entries h.up
structure HostOk (h : Host) : Prop where
 reg : regB h.entries = true
 len : h.parts.length = h.entries.length
 log : h.log.length ≤ 24
 srt : ∀ i, i < h.shut.length → sortAt h.shut i = true
 stk : ∀ i, i < h.entries.length → stuckS h.entries i = false
 prt : ∀ i, i < h.entries.length → partAt h i = true
 sht : ∀ i, i < h.shut.length → shutAt h i = true
 lgs : ∀ i, i < h.log.length → logAt h i = true
 ups : upB h.entries h.up = true
theorem host_iff {h : Host} : hostB h = true ↔ HostOk h := by
 unfold hostB sortB
 simp only [Bool.and_eq_true, decide_eq_true_eq, allTo_iff, Bool.not_eq_true']
 constructor
 ·rintro ⟨⟨⟨⟨⟨⟨⟨⟨a, b⟩, c⟩, d⟩, e⟩, f⟩, g⟩, i⟩, j⟩
  exact ⟨a, b, c, d, e, f, g, i, j⟩
 ·rintro ⟨a, b, c, d, e, f, g, i, j⟩
  exact ⟨⟨⟨⟨⟨⟨⟨⟨a, b⟩, c⟩, d⟩, e⟩, f⟩, g⟩, i⟩, j⟩
theorem host_no {h : Host} (hn : ¬ HostOk h) : hostB h = false := by
 cases hb : hostB h with
 | false => rfl
 | true => exact absurd (host_iff.1 hb) hn
theorem ret_no {P : Program} {tab : Nat → List CT} {env : List D} {L : List (List D → Prop)} {h : Host} (hn : ¬ HostOk h) : (VC.ret (.lb false) []).den P tab env (fun d bs => d = .bool (hostB h) ∧ bs = []) L :=
 den_ret (by rw [host_no hn]; rfl)
theorem stuck_nil {l : List Entry} (hr : regB l = true) : stuckN l = [] ↔ ∀ i, i < l.length → stuckS l i = false := by
 unfold stuckN
 rw [if_pos hr]
 constructor
 ·intro h i hi
  cases hs : stuckS l i with
  | false => rfl
  | true =>
   have : (nth l i).name ∈ namesOf l (stuckS l) := names_mem.2 ⟨i, hi, hs, rfl⟩
   rw [h] at this; simp at this
 ·intro h
  rw [← names_none l]
  exact names_congr h
theorem c_impl_IsHost (h : Host) (hl : h.entries.length ≤ 1048576) (hp : ∀ i, i < h.parts.length → (nth h.parts i).layers.length ≤ 1048576) : Fun Tryz.prog 34 none [enc h] (.bool (hostB h)) [] := by
 refine Fun.ofV vc_impl_IsHost_ok ty_impl_IsHost_ok rfl ?_ (fun hfit => ?_)
 ·exact ⟨ty_Host h, trivial⟩
 have hf := hfit.1
 simp only [enc, Fits, cells_Host, FitsL] at hf
 have hsl : h.shut.length ≤ 9223372036854775807 := fits_encS (show Fits (encS h.shut) from hf.2.2.2.1)
 unfold vc_impl_IsHost
 ((first | refine den_call ?_ (c_impl_IsRegistry h.entries) (trivial) ?_ | refine den_callR ?_ (c_impl_IsRegistry h.entries) (trivial) ?_ | refine den_call ?_ (.ofR (c_impl_IsRegistry h.entries)) (trivial) ?_); (focus (simp only [VC.den, E.den, dEq, gsH_nil, and_true, cells_Host]; try exact rfl)); (simp only [cA]))
 ((first | refine den_call ?_ (c_impl_isSorted h.shut) (trivial) ?_ | refine den_callR ?_ (c_impl_isSorted h.shut) (trivial) ?_ | refine den_call ?_ (.ofR (c_impl_isSorted h.shut)) (trivial) ?_); (focus (simp only [VC.den, E.den, dEq, gsH_nil, and_true, cells_Host]; try exact rfl)); (simp only [cA]))
 refine den_ite (fun h1 => ?_) (fun h1 => ?_)
 ·simp only [E.den, dEq, iEq, sEq, cells_Host] at h1
  refine ret_no fun e => ?_
  have e1 := e.reg
  have e2 := e.len
  have e3 := e.log
  have e4 : sortB h.shut = true := by unfold sortB; rw [allTo_iff]; exact e.srt
  rw [e1, e4, e2] at h1
  simp at h1
  omega
 simp only [E.den, dEq, iEq, sEq, cells_Host] at h1
 have hr : regB h.entries = true := by cases hq : regB h.entries <;> simp [hq] at h1 ⊢
 have hs : sortB h.shut = true := by cases hq : sortB h.shut <;> simp [hq] at h1 ⊢
 rw [hr, hs] at h1
 have h1 : h.parts.length = h.entries.length ∧ h.log.length ≤ 24 := by
  simp at h1
  exact ⟨by omega, by omega⟩
 obtain ⟨hpl, hlog⟩ := h1
 have h6 := (reg_parts hr).1
 ((first | refine den_call ?_ (c_impl_wire h.entries hl) (ty_wireD _) ?_ | refine den_callR ?_ (c_impl_wire h.entries hl) (ty_wireD _) ?_ | refine den_call ?_ (.ofR (c_impl_wire h.entries hl)) (ty_wireD _) ?_); (focus (simp only [VC.den, E.den, dEq, gsH_nil, and_true, cells_Host]; try exact rfl)); (simp only [cA]))
 ((first | refine den_call ?_ (c_impl_stuck h.entries hl) (ty_bRow _ _) ?_ | refine den_callR ?_ (c_impl_stuck h.entries hl) (ty_bRow _ _) ?_ | refine den_call ?_ (.ofR (c_impl_stuck h.entries hl)) (ty_bRow _ _) ?_); (focus (simp only [VC.den, E.den, dEq, gsH_nil, and_true]; try exact rfl)); (simp only [cA]))
 refine den_for h.entries.length (fun i => [.int .i64 i]) (fun i => ∀ a, a < i → stuckS h.entries a = false ∧ partAt h a = true) rfl (by omega) ?_
 intro i hi hI _
 simp only [cA]
 refine den_ite (fun h2 => ?_) (fun h2 => ?_)
 ·simp only [E.den, dEq, iEq, sEq, bRow_len] at h2
  have h2 : i < h.entries.length := by simp at h2; exact h2
  refine den_cond (fun _ => ?_) ?_
  ·simp only [E.den, dEq, iEq, sEq, bRow_len]; simp; omega
  refine den_cond (fun _ => ?_) ?_
  ·simp only [E.den, dEq, iEq, sEq, cells_Host]; simp; omega
  ((first | refine den_call ?_ (c_impl_IsPart (nth h.parts i)) (trivial) ?_ | refine den_callR ?_ (c_impl_IsPart (nth h.parts i)) (trivial) ?_ | refine den_call ?_ (.ofR (c_impl_IsPart (nth h.parts i))) (trivial) ?_); (focus (simp only [VC.den, E.den, dEq, gsH_nil, and_true, cells_Host, row_Part, Int.toNat_natCast]; try exact rfl)); (simp only [cA]))
  refine den_cond (fun _ => ?_) ?_
  ·simp only [E.den, dEq, iEq, sEq, cells_Host]; simp; omega
  ((first | refine den_call ?_ (c_impl_RecipeOf (nth h.parts i) (hp i (by omega))) (ty_strS _) ?_ | refine den_callR ?_ (c_impl_RecipeOf (nth h.parts i) (hp i (by omega))) (ty_strS _) ?_ | refine den_call ?_ (.ofR (c_impl_RecipeOf (nth h.parts i) (hp i (by omega)))) (ty_strS _) ?_); (focus (simp only [VC.den, E.den, dEq, gsH_nil, and_true, cells_Host, row_Part, Int.toNat_natCast]; try exact rfl)); (simp only [cA]))
  refine den_cond (fun _ => ?_) ?_
  ·simp only [E.den, dEq, iEq, sEq, cells_Host]; simp; omega
  ((first | refine den_call ?_ (c_impl_sameTexts (recL (nth h.parts i)) (nth h.entries i).recipe) (trivial) ?_ | refine den_callR ?_ (c_impl_sameTexts (recL (nth h.parts i)) (nth h.entries i).recipe) (trivial) ?_ | refine den_call ?_ (.ofR (c_impl_sameTexts (recL (nth h.parts i)) (nth h.entries i).recipe)) (trivial) ?_); (focus (simp only [VC.den, E.den, dEq, gsH_nil, and_true, cells_Host, row_Entry, cells_Entry, Int.toNat_natCast]; try exact rfl)); (simp only [cA]))
  refine den_ite (fun h3 => ?_) (fun h3 => ?_)
  ·simp only [E.den, dEq, iEq, sEq, bRow_get h2] at h3
   refine ret_no fun e => ?_
   have e1 := e.stk i h2
   have e2 := e.prt i h2
   unfold partAt at e2
   simp only [Bool.and_eq_true, decide_eq_true_eq] at e2
   simp [e1, e2] at h3
  ·simp only [E.den, dEq, iEq, sEq, bRow_get h2] at h3
   refine den_next h2 ?_ fun a ha => ?_
   ·simp only [E.den, dEq, iEq, sEq]
    rw [ar_add (by omega) (by omega)]; rfl
   ·rcases Nat.lt_or_ge a i with h4 | h4
    ·exact hI a h4
    ·obtain rfl : a = i := by omega
     unfold partAt
     simp at h3 ⊢
     exact ⟨h3.1.1, h3.1.2, h3.2⟩
 ·simp only [E.den, dEq, iEq, sEq, bRow_len] at h2
  obtain rfl : i = h.entries.length := by simp at h2; omega
  refine den_for h.shut.length (fun i => [.int .i64 i]) (fun i => ∀ a, a < i → shutAt h a = true) rfl (by omega) ?_
  intro i hi2 hJ _
  simp only [cA]
  refine den_ite (fun h3 => ?_) (fun h3 => ?_)
  ·simp only [E.den, dEq, iEq, sEq, cells_Host] at h3
   have h3 : i < h.shut.length := by simp at h3; exact h3
   refine den_cond (fun _ => ?_) ?_
   ·simp only [E.den, dEq, iEq, sEq, cells_Host]; simp; omega
   ((first | refine den_call ?_ (c_impl_FindEntry h.entries (nth h.shut i)) (rfl) ?_ | refine den_callR ?_ (c_impl_FindEntry h.entries (nth h.shut i)) (rfl) ?_ | refine den_call ?_ (.ofR (c_impl_FindEntry h.entries (nth h.shut i))) (rfl) ?_); (focus (simp only [VC.den, E.den, dEq, gsH_nil, and_true, cells_Host, row_str, cells_str, Int.toNat_natCast]; try exact rfl)); (simp only [cA]))
   ((first | refine den_call ?_ (c_impl_hasText h.up (nth h.shut i)) (trivial) ?_ | refine den_callR ?_ (c_impl_hasText h.up (nth h.shut i)) (trivial) ?_ | refine den_call ?_ (.ofR (c_impl_hasText h.up (nth h.shut i))) (trivial) ?_); (focus (simp only [VC.den, E.den, dEq, gsH_nil, and_true, cells_Host, row_str, cells_str, Int.toNat_natCast]; try exact rfl)); (simp only [cA]))
   refine den_ite (fun h4 => ?_) (fun h4 => ?_)
   ·simp only [E.den, dEq, iEq, sEq] at h4
    refine ret_no fun e => ?_
    have e1 := e.sht i h3
    unfold shutAt at e1
    revert e1 h4
    cases decide (findI h.entries (nth h.shut i) < 0) <;> cases hasB h.up (nth h.shut i) <;> simp
   ·simp only [E.den, dEq, iEq, sEq] at h4
    refine den_next h3 ?_ fun a ha => ?_
    ·simp only [E.den, dEq, iEq, sEq]
     rw [ar_add (by omega) (by omega)]; rfl
    ·rcases Nat.lt_or_ge a i with h5 | h5
     ·exact hJ a h5
     ·obtain rfl : a = i := by omega
      unfold shutAt
      revert h4
      cases decide (findI h.entries (nth h.shut a) < 0) <;> cases hasB h.up (nth h.shut a) <;> simp
  ·simp only [E.den, dEq, iEq, sEq, cells_Host] at h3
   obtain rfl : i = h.shut.length := by simp at h3; omega
   refine den_for h.log.length (fun i => [.int .i64 i]) (fun i => ∀ a, a < i → logAt h a = true) rfl (by omega) ?_
   intro i hi3 hK _
   simp only [cA]
   refine den_ite (fun h4 => ?_) (fun h4 => ?_)
   ·simp only [E.den, dEq, iEq, sEq, cells_Host] at h4
    have h4 : i < h.log.length := by simp at h4; exact h4
    refine den_cond (fun _ => ?_) ?_
    ·simp only [E.den, dEq, iEq, sEq, cells_Host]; simp; omega
    ((first | refine den_call ?_ (c_impl_IsEvent (nth h.log i)) (trivial) ?_ | refine den_callR ?_ (c_impl_IsEvent (nth h.log i)) (trivial) ?_ | refine den_call ?_ (.ofR (c_impl_IsEvent (nth h.log i))) (trivial) ?_); (focus (simp only [VC.den, E.den, dEq, gsH_nil, and_true, cells_Host, row_Event, Int.toNat_natCast]; try exact rfl)); (simp only [cA]))
    refine den_ite (fun h5 => ?_) (fun h5 => ?_)
    ·simp only [E.den, dEq, iEq, sEq] at h5
     refine ret_no fun e => ?_
     have e1 : eventB (nth h.log i) = true := e.lgs i h4
     simp [e1] at h5
    ·simp only [E.den, dEq, iEq, sEq] at h5
     refine den_next h4 ?_ fun a ha => ?_
     ·simp only [E.den, dEq, iEq, sEq]
      rw [ar_add (by omega) (by omega)]; rfl
     ·rcases Nat.lt_or_ge a i with h7 | h7
      ·exact hK a h7
      ·obtain rfl : a = i := by omega
       unfold logAt
       simpa using h5
   ·simp only [E.den, dEq, iEq, sEq, cells_Host] at h4
    obtain rfl : i = h.log.length := by simp at h4; omega
    ((first | refine den_call ?_ (c_impl_upFits h hr) (trivial) ?_ | refine den_callR ?_ (c_impl_upFits h hr) (trivial) ?_ | refine den_call ?_ (.ofR (c_impl_upFits h hr)) (trivial) ?_); (focus (simp only [VC.den, E.den, dEq, gsH_nil, and_true]; try exact rfl)); (simp only [cA]))
    refine den_ret ?_
    simp only [E.den, dEq, iEq, sEq]
    congr 1
    rw [Bool.eq_iff_iff, host_iff]
    constructor
    ·intro hu
     exact ⟨hr, hpl, hlog, by unfold sortB at hs; rw [allTo_iff] at hs; exact hs, fun a ha => (hI a ha).1, fun a ha => (hI a ha).2, hJ, hK, hu⟩
    ·intro e; exact e.ups
theorem c_spec_IsHost (h : Host) (hl : h.entries.length ≤ 1048576) (hp : ∀ i, i < h.parts.length → (nth h.parts i).layers.length ≤ 1048576) (hul : h.up.length ≤ 4294967296) : Fun Tryz.prog 26 none [enc h] (.bool (hostB h)) [] := by
 refine Fun.ofV vc_spec_IsHost_ok ty_spec_IsHost_ok rfl ?_ (fun hfit => ?_)
 ·exact ⟨ty_Host h, trivial⟩
 have hf := hfit.1
 simp only [enc, Fits, cells_Host, FitsL] at hf
 have hsl : h.shut.length ≤ 9223372036854775807 := fits_encS (show Fits (encS h.shut) from hf.2.2.2.1)
 unfold vc_spec_IsHost
 ((first | refine den_call ?_ (c_spec_IsRegistry h.entries) (trivial) ?_ | refine den_callR ?_ (c_spec_IsRegistry h.entries) (trivial) ?_ | refine den_call ?_ (.ofR (c_spec_IsRegistry h.entries)) (trivial) ?_); (focus (simp only [VC.den, E.den, dEq, gsH_nil, and_true, cells_Host]; try exact rfl)); (simp only [cA]))
 ((first | refine den_call ?_ (c_spec_StuckOf h.entries) (ty_strS _) ?_ | refine den_callR ?_ (c_spec_StuckOf h.entries) (ty_strS _) ?_ | refine den_call ?_ (.ofR (c_spec_StuckOf h.entries)) (ty_strS _) ?_); (focus (simp only [VC.den, E.den, dEq, gsH_nil, and_true, cells_Host]; try exact rfl)); (simp only [cA]))
 refine den_callg (r := .bool (upB h.entries h.up)) (xs := [encS h.entries, encS h.up]) ?_ (fun hg => c_spec_l7Up h.entries h.up ?_ hul) trivial ?_
 ·simp only [E.den, dEq, iEq, sEq, cells_Host]
 ·simp only [gsH, List.mem_cons, List.not_mem_nil, or_false, forall_eq_or_imp, forall_eq] at hg
  simp only [E.den, dEq, iEq, sEq, cells_Host] at hg
  cases hq : regB h.entries with
  | true => rfl
  | false => simp [hq] at hg
 simp only [cA]
 refine den_ite (fun h1 => ?_) (fun h1 => ?_)
 ·simp only [E.den, dEq, iEq, sEq, cells_Host] at h1
  refine ret_no fun e => ?_
  have e1 := e.reg
  have e2 := e.len
  have e3 := e.log
  have e4 := e.ups
  have e5 := (stuck_nil e.reg).2 e.stk
  rw [e1, e4, e2, e5] at h1
  simp at h1
  omega
 simp only [E.den, dEq, iEq, sEq, cells_Host] at h1
 have hr : regB h.entries = true := by cases hq : regB h.entries <;> simp [hq] at h1 ⊢
 have hup : upB h.entries h.up = true := by cases hq : upB h.entries h.up <;> simp [hq] at h1 ⊢
 rw [hr, hup] at h1
 have h1 : (stuckN h.entries).length = 0 ∧ h.parts.length = h.entries.length ∧ h.log.length ≤ 24 := by
  simp at h1
  obtain ⟨⟨q1, q2⟩, q3⟩ := h1
  exact ⟨by simp [q1], by omega, by omega⟩
 obtain ⟨hsn, hpl, hlog⟩ := h1
 have hst := (stuck_nil hr).1 (List.eq_nil_of_length_eq_zero hsn)
 have h6 := (reg_parts hr).1
 refine den_for h.parts.length (fun i => [.int .i64 i]) (fun i => ∀ a, a < i → partAt h a = true) rfl (by omega) ?_
 intro i hi hI _
 simp only [cA]
 refine den_ite (fun h2 => ?_) (fun h2 => ?_)
 ·simp only [E.den, dEq, iEq, sEq, cells_Host] at h2
  have h2 : i < h.parts.length := by simp at h2; exact h2
  refine den_cond (fun _ => ?_) ?_
  ·simp only [E.den, dEq, iEq, sEq, cells_Host]; simp; omega
  ((first | refine den_call ?_ (c_spec_IsPart (nth h.parts i)) (trivial) ?_ | refine den_callR ?_ (c_spec_IsPart (nth h.parts i)) (trivial) ?_ | refine den_call ?_ (.ofR (c_spec_IsPart (nth h.parts i))) (trivial) ?_); (focus (simp only [VC.den, E.den, dEq, gsH_nil, and_true, cells_Host, row_Part, Int.toNat_natCast]; try exact rfl)); (simp only [cA]))
  ((first | refine den_call ?_ (c_spec_RecipeOf (nth h.parts i) (hp i (by omega))) (ty_strS _) ?_ | refine den_callR ?_ (c_spec_RecipeOf (nth h.parts i) (hp i (by omega))) (ty_strS _) ?_ | refine den_call ?_ (.ofR (c_spec_RecipeOf (nth h.parts i) (hp i (by omega)))) (ty_strS _) ?_); (focus (simp only [VC.den, E.den, dEq, gsH_nil, and_true, cells_Host, row_Part, Int.toNat_natCast]; try exact rfl)); (simp only [cA]))
  refine den_cond (fun _ => ?_) ?_
  ·simp only [E.den, dEq, iEq, sEq, cells_Host]; simp; omega
  ((first | refine den_call ?_ (c_spec_l1SameTexts (recL (nth h.parts i)) (nth h.entries i).recipe) (trivial) ?_ | refine den_callR ?_ (c_spec_l1SameTexts (recL (nth h.parts i)) (nth h.entries i).recipe) (trivial) ?_ | refine den_call ?_ (.ofR (c_spec_l1SameTexts (recL (nth h.parts i)) (nth h.entries i).recipe)) (trivial) ?_); (focus (simp only [VC.den, E.den, dEq, gsH_nil, and_true, cells_Host, row_Entry, cells_Entry, Int.toNat_natCast]; try exact rfl)); (simp only [cA]))
  refine den_ite (fun h3 => ?_) (fun h3 => ?_)
  ·simp only [E.den, dEq, iEq, sEq] at h3
   refine ret_no fun e => ?_
   have e2 := e.prt i (by omega)
   unfold partAt at e2
   simp only [Bool.and_eq_true, decide_eq_true_eq] at e2
   simp [e2] at h3
  ·simp only [E.den, dEq, iEq, sEq] at h3
   refine den_next h2 ?_ fun a ha => ?_
   ·simp only [E.den, dEq, iEq, sEq]
    rw [ar_add (by omega) (by omega)]; rfl
   ·rcases Nat.lt_or_ge a i with h4 | h4
    ·exact hI a h4
    ·obtain rfl : a = i := by omega
     unfold partAt
     simpa using h3
 ·simp only [E.den, dEq, iEq, sEq, cells_Host] at h2
  obtain rfl : i = h.parts.length := by simp at h2; omega
  refine den_for h.shut.length (fun i => [.int .i64 i]) (fun i => ∀ a, a < i → shutAt h a = true ∧ sortAt h.shut a = true) rfl (by omega) ?_
  intro i hi2 hJ _
  simp only [cA]
  refine den_ite (fun h3 => ?_) (fun h3 => ?_)
  ·simp only [E.den, dEq, iEq, sEq, cells_Host] at h3
   have h3 : i < h.shut.length := by simp at h3; exact h3
   refine den_cond (fun _ => ?_) ?_
   ·simp only [E.den, dEq, iEq, sEq, cells_Host]; simp; omega
   ((first | refine den_call ?_ (c_spec_FindEntry h.entries (nth h.shut i)) (rfl) ?_ | refine den_callR ?_ (c_spec_FindEntry h.entries (nth h.shut i)) (rfl) ?_ | refine den_call ?_ (.ofR (c_spec_FindEntry h.entries (nth h.shut i))) (rfl) ?_); (focus (simp only [VC.den, E.den, dEq, gsH_nil, and_true, cells_Host, row_str, cells_str, Int.toNat_natCast]; try exact rfl)); (simp only [cA]))
   ((first | refine den_call ?_ (c_spec_l1HasText h.up (nth h.shut i)) (trivial) ?_ | refine den_callR ?_ (c_spec_l1HasText h.up (nth h.shut i)) (trivial) ?_ | refine den_call ?_ (.ofR (c_spec_l1HasText h.up (nth h.shut i))) (trivial) ?_); (focus (simp only [VC.den, E.den, dEq, gsH_nil, and_true, cells_Host, row_str, cells_str, Int.toNat_natCast]; try exact rfl)); (simp only [cA]))
   refine den_cond (fun hg => ?_) ?_
   ·simp only [gsH, List.mem_cons, List.not_mem_nil, or_false, forall_eq_or_imp, forall_eq] at hg
    simp only [E.den, dEq, iEq, sEq] at hg
    simp only [E.den, dEq, iEq, sEq, cells_Host]
    have h0 : 0 < i := by
     have := hg.2
     simp at this; omega
    rw [ar_sub (by omega) (by omega)]
    simp; omega
   have hso : (decide ((i : Int) > 0) && !ltB (nth h.shut ((arI .sub .i64 (i : Int) 1).toNat)) (nth h.shut i)) = !sortAt h.shut i := by
    unfold sortAt
    rcases Nat.eq_zero_or_pos i with rfl | h0
    ·simp
    ·rw [ar_sub (by omega) (by omega), show ((i : Int) - 1).toNat = i - 1 by omega]
     have h1 : decide ((i : Int) > 0) = true := by rw [decide_eq_true_eq]; omega
     have h2 : (i == 0) = false := by rw [beq_eq_false_iff_ne]; omega
     rw [h1, h2]; simp
   refine den_ite (fun h4 => ?_) (fun h4 => ?_)
   ·simp only [E.den, dEq, iEq, sEq, cells_Host, row_str, cells_str, hso] at h4
    refine ret_no fun e => ?_
    have e1 := e.sht i h3
    have e2 := e.srt i h3
    unfold shutAt at e1
    rw [e2] at h4
    revert e1 h4
    cases decide (findI h.entries (nth h.shut i) < 0) <;> cases hasB h.up (nth h.shut i) <;> simp
   ·simp only [E.den, dEq, iEq, sEq, cells_Host, row_str, cells_str, hso] at h4
    refine den_next h3 ?_ fun a ha => ?_
    ·simp only [E.den, dEq, iEq, sEq]
     rw [ar_add (by omega) (by omega)]; rfl
    ·rcases Nat.lt_or_ge a i with h5 | h5
     ·exact hJ a h5
     ·obtain rfl : a = i := by omega
      unfold shutAt
      revert h4
      cases decide (findI h.entries (nth h.shut a) < 0) <;> cases hasB h.up (nth h.shut a) <;> cases sortAt h.shut a <;> simp
  ·simp only [E.den, dEq, iEq, sEq, cells_Host] at h3
   obtain rfl : i = h.shut.length := by simp at h3; omega
   refine den_for h.log.length (fun i => [.int .i64 i]) (fun i => ∀ a, a < i → logAt h a = true) rfl (by omega) ?_
   intro i hi3 hK _
   simp only [cA]
   refine den_ite (fun h4 => ?_) (fun h4 => ?_)
   ·simp only [E.den, dEq, iEq, sEq, cells_Host] at h4
    have h4 : i < h.log.length := by simp at h4; exact h4
    refine den_cond (fun _ => ?_) ?_
    ·simp only [E.den, dEq, iEq, sEq, cells_Host]; simp; omega
    ((first | refine den_call ?_ (c_spec_IsEvent (nth h.log i)) (trivial) ?_ | refine den_callR ?_ (c_spec_IsEvent (nth h.log i)) (trivial) ?_ | refine den_call ?_ (.ofR (c_spec_IsEvent (nth h.log i))) (trivial) ?_); (focus (simp only [VC.den, E.den, dEq, gsH_nil, and_true, cells_Host, row_Event, Int.toNat_natCast]; try exact rfl)); (simp only [cA]))
    refine den_ite (fun h5 => ?_) (fun h5 => ?_)
    ·simp only [E.den, dEq, iEq, sEq] at h5
     refine ret_no fun e => ?_
     have e1 : eventB (nth h.log i) = true := e.lgs i h4
     simp [e1] at h5
    ·simp only [E.den, dEq, iEq, sEq] at h5
     refine den_next h4 ?_ fun a ha => ?_
     ·simp only [E.den, dEq, iEq, sEq]
      rw [ar_add (by omega) (by omega)]; rfl
     ·rcases Nat.lt_or_ge a i with h7 | h7
      ·exact hK a h7
      ·obtain rfl : a = i := by omega
       unfold logAt
       simpa using h5
   ·simp only [E.den, dEq, iEq, sEq, cells_Host] at h4
    obtain rfl : i = h.log.length := by simp at h4; omega
    refine den_ret ?_
    simp only [E.den, dEq, iEq, sEq]
    have : hostB h = true := host_iff.2 ⟨hr, hpl, hlog, fun a ha => (hJ a ha).2, hst, fun a ha => hI a (by omega), fun a ha => (hJ a ha).1, hK, hup⟩
    rw [this]
end Go.Proofs.YtjmakbnblpjkhaaGreatDoor
/- Texts: numerals of three digits, cutting and joining. Plain mathematics over lists of bytes. -/
namespace Go.Proofs.YtjmakbnblpjkhaaGreatDoor
def dig3 (n : Nat) : List UInt8 :=
 if n < 10 then [UInt8.ofNat (48 + n)] else if n < 100 then [UInt8.ofNat (48 + n / 10), UInt8.ofNat (48 + n % 10)] else [UInt8.ofNat (48 + n / 100), UInt8.ofNat (48 + n / 10 % 10), UInt8.ofNat (48 + n % 10)]
theorem dec3 {n : Nat} (h : n < 1000) : Lib.decDigits n = dig3 n := by
 unfold dig3
 by_cases h1 : n < 10
 ·rw [if_pos h1, Lib.decDigits, dif_pos h1]
 ·rw [if_neg h1, Lib.decDigits, dif_neg h1]
  by_cases h2 : n < 100
  ·rw [if_pos h2, Lib.decDigits, dif_pos (by omega)]; rfl
  ·rw [if_neg h2, Lib.decDigits, dif_neg (by omega), Lib.decDigits, dif_pos (by omega), show n / 10 / 10 = n / 100 by omega]; rfl
def isDig (b : UInt8) : Bool := decide (48 ≤ b.toNat ∧ b.toNat ≤ 57)
def rd4 (l : List UInt8) : Int := (l.take 4).foldl (fun n c => 10 * n + (c.toNat : Int) - 48) 0
theorem dig3_facts : ∀ n ∈ List.range 1000, (Lib.atoi (dig3 n) = some (n : Int) ∧ rd4 (dig3 n) = (n : Int) ∧ 0 < (dig3 n).length ∧ (dig3 n).length ≤ 3) ∧ (dig3 n).all isDig = true := by decide +kernel
theorem dig3_le {n : Nat} (h : n < 1000) : (dig3 n).length ≤ 3 := (dig3_facts n (List.mem_range.2 h)).1.2.2.2
/-! Cutting -/
end Go.Proofs.YtjmakbnblpjkhaaGreatDoor
