/- FnDealMore holds for every input: what the law's condition asks, met by the contracts of what it calls, and the row. No condition. -/
import Derived.Test.YtcjjcffcoleniaaDealMath
import Derived.Test.YtcjjcffcoleniaaBDealDraw
import Derived.Test.YtcjjcffcoleniaaAOpen
import Derived.Test.YtcjjcffcoleniaaRows
namespace Go.Proofs.Ytcjjcffcoleniaa.lawFnDealMore
open Go.ChangeShapes Go.WideShapes Go.ChangeAt Go.RowKit
set_option linter.unusedVariables false
set_option linter.unusedSimpArgs false
set_option maxRecDepth 100000

theorem nth_app {l : List Offer} {a : Offer} {i : Nat} (h : i < l.length) : nth (l ++ [a]) i = nth l i := by
  simp [nth, List.getD, List.getElem?_append_left h]
theorem nth_end {l : List Offer} {a : Offer} : nth (l ++ [a]) l.length = a := by simp [nth, List.getD]
theorem faceTo_app {l : List Offer} {a : Offer} : ∀ k, k ≤ l.length → faceTo (l ++ [a]) 63 k = faceTo l 63 k
  | 0, _ => rfl
  | k + 1, h => by
    show bothF (faceTo (l ++ [a]) 63 k) (nth (l ++ [a]) k).face = bothF (faceTo l 63 k) (nth l k).face
    rw [faceTo_app k (by omega), nth_app (by omega)]
theorem more {l : List Offer} {a : Offer} (h : dealB (l ++ [a]) = true) (h0 : 0 < l.length) : dealB l = true ∧ (dealOf (l ++ [a])).ver.cmp (dealOf l).ver ≤ 0 ∧ ((dealOf (l ++ [a])).ver = (dealOf l).ver → offersB (dealOf l).face (dealOf (l ++ [a])).face = true) := by
  obtain ⟨_, o1, c1, m1, f1⟩ := deal_yes h
  have ol : AllOk l := fun i hi => by
    have := o1 i (by simp; omega)
    rwa [nth_app hi] at this
  have cl : Com l (dealOf (l ++ [a])).ver := fun i hi => by
    have := c1 i (by simp; omega)
    rwa [nth_app hi] at this
  have hb := deal_of h0 ol cl
  obtain ⟨_, _, c2, m2, f2⟩ := deal_yes hb
  refine ⟨hb, cmp_le.2 (m2 _ cl), fun e => ?_⟩
  have oa := o1 l.length (by simp)
  rw [nth_end] at oa
  obtain ⟨n, hn, hn4⟩ := face_nat oa
  have hl := faceTo_lt (xs := l) (s := 63) (by omega) l.length
  have e1 : faceTo (l ++ [a]) 63 (l ++ [a]).length = faceTo l 63 l.length &&& n := by
    rw [List.length_append, List.length_singleton, faceTo_ok (xs := l ++ [a]) (k := l.length) (by rw [nth_end]; exact oa) (by rw [nth_end]; exact hn), faceTo_app _ (Nat.le_refl _)]
  rw [f1, f2, e1, e]
  generalize faceTo l 63 l.length = x at *
  have hv := (afV_eq (dealOf l).ver).2
  generalize afV (dealOf l).ver = v at *
  rw [offersB_nat (and_lt64 hl) (and_lt64 (and_lt64 hl))]
  simp only [decide_eq_true_eq]
  refine Nat.eq_of_testBit_eq fun i => ?_
  simp only [Nat.testBit_and]
  cases x.testBit i <;> cases n.testBit i <;> cases v.testBit i <;> rfl
theorem alone {a : Offer} (ha : a.ok = true) : dealB [a] = decide (0 < a.vers.length) := by
  rw [Bool.eq_iff_iff]
  simp only [decide_eq_true_eq]
  constructor
  · intro h
    obtain ⟨_, _, c, _⟩ := deal_yes h
    obtain ⟨i, hi, _⟩ := mem_nth (c 0 (by simp))
    have : nth [a] 0 = a := rfl
    rw [this] at hi; omega
  · intro h
    refine deal_of (u := nth a.vers 0) (by simp) (fun i hi => ?_) fun i hi => ?_
    · have : i = 0 := by simp at hi; omega
      subst this; exact ha
    · have : i = 0 := by simp at hi; omega
      subst this; exact nth_mem h
theorem none_of : dealB [] = false := by
  cases h : dealB [] with
  | false => rfl
  | true => have := (deal_yes h).1; simp at this
theorem main (ds : List D) (h : HasTys tbl.tab ty_laws_FnDealMore ds) : Fun Try.prog 4 none ds (.bool true) [] := by
  obtain ⟨rows, rfl, hr0, hr⟩ := code_arg rfl h
  refine Fun.ofV vc_laws_FnDealMore_ok ty_laws_FnDealMore_ok rfl ?_ (fun hfit => ?_)
  · exact h
  unfold vc_laws_FnDealMore
  ((first | refine den_call ?_ (c_laws_big rows hr0) (trivial) ?_ | refine den_callR ?_ (c_laws_big rows hr0) (trivial) ?_ | refine den_call ?_ (.ofR (c_laws_big rows hr0)) (trivial) ?_); (focus (simp only [VC.den, E.den, List.map_cons, List.map_nil, Option.map_none, Option.map_some, List.getD_cons_zero, List.getD_cons_succ, List.cons_append, List.nil_append, List.append_nil, D.toI_int, D.toB_bool, D.toS_str, D.toA_agg, D.toT_tup, D.toR_sl, enc_toA, encS_toR, encS_len, List.drop_succ_cons, List.drop_zero, List.take_succ_cons, List.take_zero, gsH_nil, and_true]; try exact rfl)); (simp only [List.cons_append, List.nil_append]))
  refine den_ite (fun _ => den_ret rfl) (fun _ => ?_)
  ((first | refine den_callE ?_ (d_DrawNegotiateAll hr) (fun _ h => ty_ON h) ?_ | refine den_callRE ?_ (d_DrawNegotiateAll hr) (fun _ h => ty_ON h) ?_ | refine den_callE ?_ (exR (d_DrawNegotiateAll hr)) (fun _ h => ty_ON h) ?_); (focus (simp only [VC.den, E.den, List.map_cons, List.map_nil, Option.map_none, Option.map_some, List.getD_cons_zero, List.getD_cons_succ, List.cons_append, List.nil_append, List.append_nil, D.toI_int, D.toB_bool, D.toS_str, D.toA_agg, D.toT_tup, D.toR_sl, enc_toA, encS_toR, encS_len, List.drop_succ_cons, List.drop_zero, List.take_succ_cons, List.take_zero, gsH_nil, and_true]; try exact rfl)); rintro _ ⟨l, rfl, hl⟩; (simp only [List.cons_append, List.nil_append]))
  ((first | refine den_callE ?_ (d_DrawOffers2 hr) (fun _ h => ty_O2 h) ?_ | refine den_callRE ?_ (d_DrawOffers2 hr) (fun _ h => ty_O2 h) ?_ | refine den_callE ?_ (exR (d_DrawOffers2 hr)) (fun _ h => ty_O2 h) ?_); (focus (simp only [VC.den, E.den, List.map_cons, List.map_nil, Option.map_none, Option.map_some, List.getD_cons_zero, List.getD_cons_succ, List.cons_append, List.nil_append, List.append_nil, D.toI_int, D.toB_bool, D.toS_str, D.toA_agg, D.toT_tup, D.toR_sl, enc_toA, encS_toR, encS_len, List.drop_succ_cons, List.drop_zero, List.take_succ_cons, List.take_zero, gsH_nil, and_true]; try exact rfl)); rintro _ ⟨a, b, rfl, ha, hb⟩; (simp only [List.cons_append, List.nil_append]))
  ((first | refine den_call ?_ (c_impl_NegotiateAll l) (⟨ty_Deal _, trivial, trivial⟩) ?_ | refine den_callR ?_ (c_impl_NegotiateAll l) (⟨ty_Deal _, trivial, trivial⟩) ?_ | refine den_call ?_ (.ofR (c_impl_NegotiateAll l)) (⟨ty_Deal _, trivial, trivial⟩) ?_); (focus (simp only [VC.den, E.den, List.map_cons, List.map_nil, Option.map_none, Option.map_some, List.getD_cons_zero, List.getD_cons_succ, List.cons_append, List.nil_append, List.append_nil, D.toI_int, D.toB_bool, D.toS_str, D.toA_agg, D.toT_tup, D.toR_sl, enc_toA, encS_toR, encS_len, List.drop_succ_cons, List.drop_zero, List.take_succ_cons, List.take_zero, gsH_nil, and_true]; try exact rfl)); (simp only [List.cons_append, List.nil_append]))
  refine den_cond (fun _ => ?_) (den_cond (fun _ => ?_) ?_)
  · simp [E.den]; omega
  · simp [E.den]; omega
  refine den_call (r := .tup [enc (dealOf (l ++ [a])), .bool (dealB (l ++ [a]))]) (xs := [encS (l ++ [a])]) ?_ (c_impl_NegotiateAll (l ++ [a])) ⟨ty_Deal _, trivial, trivial⟩ ?_
  · simp [E.den, encS]
  simp only [List.cons_append, List.nil_append]
  refine den_ite (fun h => ?_) (fun h => ?_)
  · simp [E.den, cmpI] at h
    subst h
    refine den_ret ?_
    simp [E.den, cmpI, cells_Offer, alone ha, none_of]
  simp [E.den, cmpI] at h
  have h0 : 0 < l.length := List.length_pos_iff.2 h
  refine den_ite (fun h2 => ?_) (fun _ => ?_)
  · simp [E.den] at h2
    have := (more h2.1 h0).1
    rw [this] at h2; cases h2.2
  ((first | refine den_call ?_ (c_impl_CompareVersions (dealOf (l ++ [a])).ver (dealOf l).ver) (rfl) ?_ | refine den_callR ?_ (c_impl_CompareVersions (dealOf (l ++ [a])).ver (dealOf l).ver) (rfl) ?_ | refine den_call ?_ (.ofR (c_impl_CompareVersions (dealOf (l ++ [a])).ver (dealOf l).ver)) (rfl) ?_); (focus (simp only [VC.den, E.den, List.map_cons, List.map_nil, Option.map_none, Option.map_some, List.getD_cons_zero, List.getD_cons_succ, List.cons_append, List.nil_append, List.append_nil, D.toI_int, D.toB_bool, D.toS_str, D.toA_agg, D.toT_tup, D.toR_sl, enc_toA, encS_toR, encS_len, List.drop_succ_cons, List.drop_zero, List.take_succ_cons, List.take_zero, gsH_nil, and_true, cells_Deal]; try exact rfl)); (simp only [List.cons_append, List.nil_append]))
  ((first | refine den_call ?_ (c_impl_Offers (dealOf l).face (dealOf (l ++ [a])).face) (trivial) ?_ | refine den_callR ?_ (c_impl_Offers (dealOf l).face (dealOf (l ++ [a])).face) (trivial) ?_ | refine den_call ?_ (.ofR (c_impl_Offers (dealOf l).face (dealOf (l ++ [a])).face)) (trivial) ?_); (focus (simp only [VC.den, E.den, List.map_cons, List.map_nil, Option.map_none, Option.map_some, List.getD_cons_zero, List.getD_cons_succ, List.cons_append, List.nil_append, List.append_nil, D.toI_int, D.toB_bool, D.toS_str, D.toA_agg, D.toT_tup, D.toR_sl, enc_toA, encS_toR, encS_len, List.drop_succ_cons, List.drop_zero, List.take_succ_cons, List.take_zero, gsH_nil, and_true, cells_Deal]; try exact rfl)); (simp only [List.cons_append, List.nil_append]))
  refine den_ret ?_
  have e1 : (E.ae (.sub (.proj (.var 5) 0) 0 2) (.sub (.proj (.var 4) 0) 0 2)).den [.sl rows, .bool (decide ((rows.length : Int) > 4096)), encS l, .tup [enc a, enc b], .tup [enc (dealOf l), .bool (dealB l)], .tup [enc (dealOf (l ++ [a])), .bool (dealB (l ++ [a]))], .int .i64 ((dealOf (l ++ [a])).ver.cmp (dealOf l).ver), .bool (offersB (dealOf l).face (dealOf (l ++ [a])).face)] = .bool (decide ((dealOf (l ++ [a])).ver = (dealOf l).ver)) := by
    rw [← eqv_Ver]
    rfl
  cases hd : dealB (l ++ [a]) with
  | false => simp [E.den, hd]
  | true =>
    obtain ⟨q1, q2, q3⟩ := more hd h0
    rw [hd] at e1
    simp only [E.den, List.getD_cons_zero, List.getD_cons_succ, D.toT_tup, D.toB_bool, D.toI_int, cmpI_leq] at e1 ⊢
    by_cases e : (dealOf (l ++ [a])).ver = (dealOf l).ver
    · simp only [e, decide_true] at e1
      simp [q2, q3 e]
    · simp only [e, decide_false] at e1
      simp only [D.bool.injEq] at e1
      have e2 : eqvL (List.take 2 (Enc.cells (dealOf (l ++ [a])))) (List.take 2 (Enc.cells (dealOf l))) = false := e1
      simp [q2, e2]

theorem own : ownKnob Try.prog.godebug = none := by kernel_rfl
theorem laidOut : laidOutB Try.prog = true := by kernel_rfl
set_option maxRecDepth 100000 in
theorem lifted (os : Os) (started : os.Started) (H : Type) (enc : TypeId × Value → H) :
    ReturnsInHanded {} Try.checked os 4 .any (Rows.fnDealMoreSpec.pre6 enc Try.prog Try.f4 Rows.fnDealMoreRow.domain false) (Rows.fnDealMoreSpec.post enc Try.prog Try.f4 false true false false) := by
  refine returnsInHanded_of_change (C := Try.checked) own started (by kernel_rfl) Try.func4
    (ChangeSpec.witness6 (enc := enc) (C := Try.checked) false ⟨#[], #[.slice none 0 0], []⟩ 8 (by kernel_rfl) (by kernel_rfl) (by kernel_rfl) (by kernel_rfl)) ?_
  intro W base args ds gs before hval0 hW hcnd _
  have hval : ∀ (j : Nat) t v, Try.f4.params[j]? = some t → args[j]? = some v → Value.okWide Try.prog W .any base t v := hval0
  have hW' := hW
  obtain ⟨p, q, hA0, hV, rfl, hfz, hnd⟩ := hW
  have hA : DataW.TrodAll enc Try.prog W 0 (fun _ => true) true Try.f4.params.toList args.toList ds p := hA0
  rw [Try.params4] at hA hval
  obtain ⟨v0, vs0, d0, ds0, p0, q0, hargs, rfl, rfl, h0, r0⟩ := trodAll_cons hA
  obtain ⟨rfl, rfl, rfl⟩ := trodAll_nil r0
  obtain rfl : args = #[v0] := by cases args; simp_all
  obtain ⟨rfl, rfl⟩ := trodVars_none hV
  have k0 := h0
  have lt0 : ∀ x ∈ p0, x.block < W.heap.size := by obtain ⟨m, hm⟩ := k0; exact DataW.trod_lt m _ _ _ hm
  obtain ⟨x0, y0, z0⟩ := open_arg tbl_ok (by kernel_rfl) (hval 0 22 v0 rfl rfl) h0
  clear hA0 hval0
  refine ((law_run (main [x0] ⟨y0, trivial⟩) (show Rs W M0 [x0] [v0] from ⟨_, _, rfl, z0, rfl⟩))).mono fun e W' ⟨he, bel⟩ => ?_
  subst he
  exact ⟨_, rfl, _, _, _, [], _, [], hW', trodAll_mk1 (shut_bool Try.underlying4 _), (trodAll_cons_mk (Below.trod laidOut (by kernel_rfl) (of_decide_eq_true (by kernel_rfl)) k0 bel lt0) trodAll_mk0), rfl, bel.frame _, fun h => by cases h⟩
theorem over : Rows.fnDealMoreRow.holds Try.pinned (OpenSpec.ofChange Rows.fnDealMoreSpec) :=
  OpenClaim.holds_of_wide 4 Try.f4 rfl rfl rfl rfl rfl rfl rfl ⟨rfl, rfl, rfl, rfl, rfl⟩ rfl rfl rfl rfl rfl (by kernel_rfl) Try.func4 (by kernel_rfl)
    (of_decide_eq_true (by kernel_rfl)) (by unfold Func.isWrapper; first | (rw [if_pos (by decide +kernel)]; kernel_rfl) | (rw [if_neg (by decide +kernel)]; exact ⟨rfl, rfl⟩))
    (fun os started H enc _ => lifted os started H enc)
/-- THE STATEMENT -/
theorem proved : Rows.FnDealMoreSaid := over
#print axioms proved
end Go.Proofs.Ytcjjcffcoleniaa.lawFnDealMore
