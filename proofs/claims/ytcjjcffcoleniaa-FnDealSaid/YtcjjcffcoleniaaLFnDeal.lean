/- FnDeal holds for every input: what the law's condition asks, met by the contracts of what it calls, and the row. No condition. -/
import Derived.Test.YtcjjcffcoleniaaDealMath
import Derived.Test.YtcjjcffcoleniaaBDealDraw
import Derived.Test.YtcjjcffcoleniaaAOpen
import Derived.Test.YtcjjcffcoleniaaRows
namespace Go.Proofs.Ytcjjcffcoleniaa.lawFnDeal
open Go.ChangeShapes Go.WideShapes Go.ChangeAt Go.RowKit
set_option linter.unusedVariables false
set_option linter.unusedSimpArgs false
set_option maxRecDepth 100000

theorem two_ok {a b : Offer} (ha : a.ok = true) (hb : b.ok = true) : AllOk [a, b] := by
  intro i hi
  have : i = 0 ∨ i = 1 := by simp at hi; omega
  rcases this with rfl | rfl <;> simp [nth, ha, hb]
theorem com_two {a b : Offer} {v : Ver} : Com [a, b] v ↔ v ∈ a.vers ∧ v ∈ b.vers := by
  constructor
  · intro h; exact ⟨h 0 (by simp), h 1 (by simp)⟩
  · rintro ⟨h1, h2⟩ i hi
    have : i = 0 ∨ i = 1 := by simp at hi; omega
    rcases this with rfl | rfl
    · exact h1
    · exact h2
def comA (a b : Offer) (i : Nat) : Bool := decide (nth a.vers i ∈ b.vers)
theorem inner {a b : Offer} (i : Nat) : anyTo (fun k => decide (nth a.vers i = nth b.vers k)) b.vers.length = comA a b i := by
  unfold comA
  rw [Bool.eq_iff_iff, anyTo_iff]
  simp only [decide_eq_true_eq]
  exact ⟨fun ⟨k, hk, e⟩ => by rw [e]; exact nth_mem hk, fun h => by obtain ⟨k, hk, e⟩ := mem_nth h; exact ⟨k, hk, e.symm⟩⟩
theorem outer {a b : Offer} (ha : a.ok = true) (hb : b.ok = true) : dealB [a, b] = anyTo (comA a b) a.vers.length := by
  rw [Bool.eq_iff_iff, anyTo_iff]
  unfold comA
  simp only [decide_eq_true_eq]
  constructor
  · intro h
    obtain ⟨_, _, c, _⟩ := deal_yes h
    obtain ⟨c1, c2⟩ := com_two.1 c
    obtain ⟨i, hi, e⟩ := mem_nth c1
    exact ⟨i, hi, by rw [e]; exact c2⟩
  · rintro ⟨i, hi, h⟩
    exact deal_of (by simp) (two_ok ha hb) (com_two.2 ⟨nth_mem hi, h⟩)
theorem most {a b : Offer} (ha : a.ok = true) (hb : b.ok = true) {i k : Nat} (hi : i < a.vers.length) (hk : k < b.vers.length) (e : nth a.vers i = nth b.vers k) : (nth a.vers i).cmp (dealOf [a, b]).ver ≤ 0 := by
  have hc : Com [a, b] (nth a.vers i) := com_two.2 ⟨nth_mem hi, by rw [e]; exact nth_mem hk⟩
  obtain ⟨_, _, _, m, _⟩ := deal_yes (deal_of (by simp) (two_ok ha hb) hc)
  exact cmp_le.2 (m _ hc)
theorem faces {a b : Offer} (ha : a.ok = true) (hb : b.ok = true) (hd : dealB [a, b] = true) (f : Int) : offersB (dealOf [a, b]).face f = (offersB a.face f && offersB b.face f && offersB (afZ (dealOf [a, b]).ver.maj (dealOf [a, b]).ver.min) f) := by
  obtain ⟨_, ho, _, _, hf⟩ := deal_yes hd
  obtain ⟨n, hn, hn4⟩ := face_nat ha
  obtain ⟨m, hm, hm4⟩ := face_nat hb
  have e1 : faceTo [a, b] 63 1 = n := by
    rw [faceTo_ok (xs := [a, b]) (k := 0) ha hn]
    exact (show ∀ n : Fin 64, 63 &&& n.val = n.val by decide +kernel) ⟨n, hn4⟩
  have e2 : faceTo [a, b] 63 2 = n &&& m := by rw [faceTo_ok (xs := [a, b]) (k := 1) hb hm, e1]
  have ea := afV_eq (dealOf [a, b]).ver
  rw [hf, show [a, b].length = 2 from rfl, e2, offersB_and (and_lt64 hn4) ea.2, offersB_and hn4 hm4, hn, hm, ea.1]
theorem main (ds : List D) (h : HasTys tbl.tab ty_laws_FnDeal ds) : Fun Try.prog 3 none ds (.bool true) [] := by
  obtain ⟨rows, rfl, hr0, hr⟩ := code_arg rfl h
  refine Fun.ofV vc_laws_FnDeal_ok ty_laws_FnDeal_ok rfl ?_ (fun hfit => ?_)
  · exact h
  unfold vc_laws_FnDeal
  ((first | refine den_call ?_ (c_laws_big rows hr0) (trivial) ?_ | refine den_callR ?_ (c_laws_big rows hr0) (trivial) ?_ | refine den_call ?_ (.ofR (c_laws_big rows hr0)) (trivial) ?_); (focus (simp only [VC.den, E.den, List.map_cons, List.map_nil, Option.map_none, Option.map_some, List.getD_cons_zero, List.getD_cons_succ, List.cons_append, List.nil_append, List.append_nil, D.toI_int, D.toB_bool, D.toS_str, D.toA_agg, D.toT_tup, D.toR_sl, enc_toA, encS_toR, encS_len, List.drop_succ_cons, List.drop_zero, List.take_succ_cons, List.take_zero, gsH_nil, and_true]; try exact rfl)); (simp only [List.cons_append, List.nil_append]))
  refine den_ite (fun _ => den_ret rfl) (fun _ => ?_)
  ((first | refine den_callE ?_ (d_DrawOffers2 hr) (fun _ h => ty_O2 h) ?_ | refine den_callRE ?_ (d_DrawOffers2 hr) (fun _ h => ty_O2 h) ?_ | refine den_callE ?_ (exR (d_DrawOffers2 hr)) (fun _ h => ty_O2 h) ?_); (focus (simp only [VC.den, E.den, List.map_cons, List.map_nil, Option.map_none, Option.map_some, List.getD_cons_zero, List.getD_cons_succ, List.cons_append, List.nil_append, List.append_nil, D.toI_int, D.toB_bool, D.toS_str, D.toA_agg, D.toT_tup, D.toR_sl, enc_toA, encS_toR, encS_len, List.drop_succ_cons, List.drop_zero, List.take_succ_cons, List.take_zero, gsH_nil, and_true]; try exact rfl)); rintro _ ⟨a, b, rfl, ha, hb⟩; (simp only [List.cons_append, List.nil_append]))
  have hla : a.vers.length ≤ 4 := by simp [Offer.ok] at ha; omega
  have hlb : b.vers.length ≤ 4 := by simp [Offer.ok] at hb; omega
  ((first | refine den_call ?_ (c_impl_Negotiate a b) (⟨ty_Deal _, trivial, trivial⟩) ?_ | refine den_callR ?_ (c_impl_Negotiate a b) (⟨ty_Deal _, trivial, trivial⟩) ?_ | refine den_call ?_ (.ofR (c_impl_Negotiate a b)) (⟨ty_Deal _, trivial, trivial⟩) ?_); (focus (simp only [VC.den, E.den, List.map_cons, List.map_nil, Option.map_none, Option.map_some, List.getD_cons_zero, List.getD_cons_succ, List.cons_append, List.nil_append, List.append_nil, D.toI_int, D.toB_bool, D.toS_str, D.toA_agg, D.toT_tup, D.toR_sl, enc_toA, encS_toR, encS_len, List.drop_succ_cons, List.drop_zero, List.take_succ_cons, List.take_zero, gsH_nil, and_true]; try exact rfl)); (simp only [List.cons_append, List.nil_append]))
  refine den_for a.vers.length (fun i => [.bool (anyTo (comA a b) i), .int .i64 i]) (fun _ => True) rfl trivial ?_
  intro i hi _ _
  simp only [List.cons_append, List.nil_append]
  refine den_ite (fun h => ?_) (fun h => ?_)
  · simp [E.den, cmpI, cells_Offer] at h
    refine den_for b.vers.length (fun k => [.bool (anyTo (comA a b) i || anyTo (fun k => decide (nth a.vers i = nth b.vers k)) k), .int .i64 k]) (fun _ => True) (by simp [E.den, anyTo]) trivial ?_
    intro k hk _ _
    simp only [List.cons_append, List.nil_append]
    refine den_ite (fun h2 => ?_) (fun h2 => ?_)
    · simp [E.den, cmpI, cells_Offer] at h2
      refine den_cond (fun _ => ?_) (den_cond (fun _ => ?_) ?_)
      · simp [E.den, cells_Offer]; omega
      · simp [E.den, cells_Offer]; omega
      refine den_ite (fun h3 => ?_) (fun h3 => ?_)
      · simp only [E.den, List.map_cons, List.map_nil, List.getD_cons_zero, List.getD_cons_succ, D.toI_int, D.toT_tup, encS_toR, enc_toA, cells_Offer, row_Ver, Int.toNat_natCast, eqv_Ver, D.toB_bool] at h3
        simp at h3
        refine den_cond (fun _ => ?_) ?_
        · simp [E.den, cells_Offer]; omega
        ((first | refine den_call ?_ (c_impl_CompareVersions (nth a.vers i) (dealOf [a, b]).ver) (rfl) ?_ | refine den_callR ?_ (c_impl_CompareVersions (nth a.vers i) (dealOf [a, b]).ver) (rfl) ?_ | refine den_call ?_ (.ofR (c_impl_CompareVersions (nth a.vers i) (dealOf [a, b]).ver)) (rfl) ?_); (focus (simp only [VC.den, E.den, List.map_cons, List.map_nil, Option.map_none, Option.map_some, List.getD_cons_zero, List.getD_cons_succ, List.cons_append, List.nil_append, List.append_nil, D.toI_int, D.toB_bool, D.toS_str, D.toA_agg, D.toT_tup, D.toR_sl, enc_toA, encS_toR, encS_len, List.drop_succ_cons, List.drop_zero, List.take_succ_cons, List.take_zero, gsH_nil, and_true, cells_Offer, cells_Deal, row_Ver, Int.toNat_natCast]; try exact rfl)); (simp only [List.cons_append, List.nil_append]))
        refine den_ite (fun h4 => ?_) (fun _ => ?_)
        · simp [E.den, cmpI] at h4
          have := most ha hb h h2 h3
          omega
        refine den_next h2 ?_ trivial
        simp [E.den, anyTo, h3]; rw [ar_add (by omega) (by omega)]
      · simp only [E.den, List.map_cons, List.map_nil, List.getD_cons_zero, List.getD_cons_succ, D.toI_int, D.toT_tup, encS_toR, enc_toA, cells_Offer, row_Ver, Int.toNat_natCast, eqv_Ver, D.toB_bool] at h3
        simp at h3
        refine den_next h2 ?_ trivial
        simp [E.den, anyTo, h3]; rw [ar_add (by omega) (by omega)]
    · simp [E.den, cmpI, cells_Offer] at h2
      obtain rfl : k = b.vers.length := by omega
      refine ⟨h, ?_, trivial⟩
      simp [E.den, anyTo, inner]; rw [ar_add (by omega) (by omega)]
  · simp [E.den, cmpI, cells_Offer] at h
    obtain rfl : i = a.vers.length := by omega
    refine den_ite (fun h2 => ?_) (fun _ => ?_)
    · simp [E.den, outer ha hb] at h2
    ((first | refine den_callE ?_ (d_DrawCountFace hr) (fun _ h => isI.ty h) ?_ | refine den_callRE ?_ (d_DrawCountFace hr) (fun _ h => isI.ty h) ?_ | refine den_callE ?_ (exR (d_DrawCountFace hr)) (fun _ h => isI.ty h) ?_); (focus (simp only [VC.den, E.den, List.map_cons, List.map_nil, Option.map_none, Option.map_some, List.getD_cons_zero, List.getD_cons_succ, List.cons_append, List.nil_append, List.append_nil, D.toI_int, D.toB_bool, D.toS_str, D.toA_agg, D.toT_tup, D.toR_sl, enc_toA, encS_toR, encS_len, List.drop_succ_cons, List.drop_zero, List.take_succ_cons, List.take_zero, gsH_nil, and_true]; try exact rfl)); rintro _ ⟨f, rfl⟩; (simp only [List.cons_append, List.nil_append]))
    ((first | refine den_call ?_ (c_impl_Offers a.face f) (trivial) ?_ | refine den_callR ?_ (c_impl_Offers a.face f) (trivial) ?_ | refine den_call ?_ (.ofR (c_impl_Offers a.face f)) (trivial) ?_); (focus (simp only [VC.den, E.den, List.map_cons, List.map_nil, Option.map_none, Option.map_some, List.getD_cons_zero, List.getD_cons_succ, List.cons_append, List.nil_append, List.append_nil, D.toI_int, D.toB_bool, D.toS_str, D.toA_agg, D.toT_tup, D.toR_sl, enc_toA, encS_toR, encS_len, List.drop_succ_cons, List.drop_zero, List.take_succ_cons, List.take_zero, gsH_nil, and_true, cells_Offer]; try exact rfl)); (simp only [List.cons_append, List.nil_append]))
    ((first | refine den_call ?_ (c_impl_Offers b.face f) (trivial) ?_ | refine den_callR ?_ (c_impl_Offers b.face f) (trivial) ?_ | refine den_call ?_ (.ofR (c_impl_Offers b.face f)) (trivial) ?_); (focus (simp only [VC.den, E.den, List.map_cons, List.map_nil, Option.map_none, Option.map_some, List.getD_cons_zero, List.getD_cons_succ, List.cons_append, List.nil_append, List.append_nil, D.toI_int, D.toB_bool, D.toS_str, D.toA_agg, D.toT_tup, D.toR_sl, enc_toA, encS_toR, encS_len, List.drop_succ_cons, List.drop_zero, List.take_succ_cons, List.take_zero, gsH_nil, and_true, cells_Offer]; try exact rfl)); (simp only [List.cons_append, List.nil_append]))
    ((first | refine den_call ?_ (c_impl_AllowedFace (dealOf [a, b]).ver) (rfl) ?_ | refine den_callR ?_ (c_impl_AllowedFace (dealOf [a, b]).ver) (rfl) ?_ | refine den_call ?_ (.ofR (c_impl_AllowedFace (dealOf [a, b]).ver)) (rfl) ?_); (focus (simp only [VC.den, E.den, List.map_cons, List.map_nil, Option.map_none, Option.map_some, List.getD_cons_zero, List.getD_cons_succ, List.cons_append, List.nil_append, List.append_nil, D.toI_int, D.toB_bool, D.toS_str, D.toA_agg, D.toT_tup, D.toR_sl, enc_toA, encS_toR, encS_len, List.drop_succ_cons, List.drop_zero, List.take_succ_cons, List.take_zero, gsH_nil, and_true, cells_Deal]; try exact rfl)); (simp only [List.cons_append, List.nil_append]))
    ((first | refine den_call ?_ (c_impl_Offers (afZ (dealOf [a, b]).ver.maj (dealOf [a, b]).ver.min) f) (trivial) ?_ | refine den_callR ?_ (c_impl_Offers (afZ (dealOf [a, b]).ver.maj (dealOf [a, b]).ver.min) f) (trivial) ?_ | refine den_call ?_ (.ofR (c_impl_Offers (afZ (dealOf [a, b]).ver.maj (dealOf [a, b]).ver.min) f)) (trivial) ?_); (focus (simp only [VC.den, E.den, List.map_cons, List.map_nil, Option.map_none, Option.map_some, List.getD_cons_zero, List.getD_cons_succ, List.cons_append, List.nil_append, List.append_nil, D.toI_int, D.toB_bool, D.toS_str, D.toA_agg, D.toT_tup, D.toR_sl, enc_toA, encS_toR, encS_len, List.drop_succ_cons, List.drop_zero, List.take_succ_cons, List.take_zero, gsH_nil, and_true]; try exact rfl)); (simp only [List.cons_append, List.nil_append]))
    ((first | refine den_call ?_ (c_impl_Offers (dealOf [a, b]).face f) (trivial) ?_ | refine den_callR ?_ (c_impl_Offers (dealOf [a, b]).face f) (trivial) ?_ | refine den_call ?_ (.ofR (c_impl_Offers (dealOf [a, b]).face f)) (trivial) ?_); (focus (simp only [VC.den, E.den, List.map_cons, List.map_nil, Option.map_none, Option.map_some, List.getD_cons_zero, List.getD_cons_succ, List.cons_append, List.nil_append, List.append_nil, D.toI_int, D.toB_bool, D.toS_str, D.toA_agg, D.toT_tup, D.toR_sl, enc_toA, encS_toR, encS_len, List.drop_succ_cons, List.drop_zero, List.take_succ_cons, List.take_zero, gsH_nil, and_true, cells_Deal]; try exact rfl)); (simp only [List.cons_append, List.nil_append]))
    refine den_ret ?_
    simp only [E.den, List.getD_cons_zero, List.getD_cons_succ, D.toT_tup, D.toB_bool]
    cases hd : dealB [a, b] with
    | false => rfl
    | true => rw [faces ha hb hd f]; simp

theorem own : ownKnob Try.prog.godebug = none := by kernel_rfl
theorem laidOut : laidOutB Try.prog = true := by kernel_rfl
set_option maxRecDepth 100000 in
theorem lifted (os : Os) (started : os.Started) (H : Type) (enc : TypeId × Value → H) :
    ReturnsInHanded {} Try.checked os 3 .any (Rows.fnDealSpec.pre6 enc Try.prog Try.f3 Rows.fnDealRow.domain false) (Rows.fnDealSpec.post enc Try.prog Try.f3 false true false false) := by
  refine returnsInHanded_of_change (C := Try.checked) own started (by kernel_rfl) Try.func3
    (ChangeSpec.witness6 (enc := enc) (C := Try.checked) false ⟨#[], #[.slice none 0 0], []⟩ 8 (by kernel_rfl) (by kernel_rfl) (by kernel_rfl) (by kernel_rfl)) ?_
  intro W base args ds gs before hval0 hW hcnd _
  have hval : ∀ (j : Nat) t v, Try.f3.params[j]? = some t → args[j]? = some v → Value.okWide Try.prog W .any base t v := hval0
  have hW' := hW
  obtain ⟨p, q, hA0, hV, rfl, hfz, hnd⟩ := hW
  have hA : DataW.TrodAll enc Try.prog W 0 (fun _ => true) true Try.f3.params.toList args.toList ds p := hA0
  rw [Try.params3] at hA hval
  obtain ⟨v0, vs0, d0, ds0, p0, q0, hargs, rfl, rfl, h0, r0⟩ := trodAll_cons hA
  obtain ⟨rfl, rfl, rfl⟩ := trodAll_nil r0
  obtain rfl : args = #[v0] := by cases args; simp_all
  obtain ⟨rfl, rfl⟩ := trodVars_none hV
  have k0 := h0
  have lt0 : ∀ x ∈ p0, x.block < W.heap.size := by obtain ⟨m, hm⟩ := k0; exact DataW.trod_lt m _ _ _ hm
  obtain ⟨x0, y0, z0⟩ := open_arg tbl_ok (by kernel_rfl) (hval 0 22 v0 rfl rfl) h0
  clear hA0 hval0
  refine ((law_run (main [x0] ⟨y0, trivial⟩) (show Rs W M0 [x0] [v0] from ⟨_, _, rfl, z0, rfl⟩))).mono fun e W' ⟨he, bel⟩ => ?_
  subst he
  exact ⟨_, rfl, _, _, _, [], _, [], hW', trodAll_mk1 (shut_bool Try.underlying4 _), (trodAll_cons_mk (Below.trod laidOut (by kernel_rfl) (of_decide_eq_true (by kernel_rfl)) k0 bel lt0) trodAll_mk0), rfl, bel.frame _, fun h => by cases h⟩
theorem over : Rows.fnDealRow.holds Try.pinned (OpenSpec.ofChange Rows.fnDealSpec) :=
  OpenClaim.holds_of_wide 3 Try.f3 rfl rfl rfl rfl rfl rfl rfl ⟨rfl, rfl, rfl, rfl, rfl⟩ rfl rfl rfl rfl rfl (by kernel_rfl) Try.func3 (by kernel_rfl)
    (of_decide_eq_true (by kernel_rfl)) (by unfold Func.isWrapper; first | (rw [if_pos (by decide +kernel)]; kernel_rfl) | (rw [if_neg (by decide +kernel)]; exact ⟨rfl, rfl⟩))
    (fun os started H enc _ => lifted os started H enc)
/-- THE STATEMENT -/
theorem proved : Rows.FnDealSaid := over
#print axioms proved
end Go.Proofs.Ytcjjcffcoleniaa.lawFnDeal
