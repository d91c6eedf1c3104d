/- Contracts: texts divided; texts read as versions. -/
import Derived.Test.YtmhfncdhplmomaaGreatDoorBVerText
namespace Go.Proofs.YtmhfncdhplmomaaGreatDoor
open Go.RowKit Go
set_option linter.unusedVariables false
set_option linter.unusedSimpArgs false
set_option maxRecDepth 100000
set_option linter.unusedSectionVars false
variable [GC]
def txtR (x : List UInt8) : List D := [.str (bs x)]
def txtS (l : List (List UInt8)) : D := .sl (l.map txtR)
theorem ty_txtS {e : Nat} (h : tbl.tab e = [.str]) (l : List (List UInt8)) : HasVT tbl.tab (.one (.c (.sl e))) (txtS l) := by
  show RowsTy tbl.tab (tbl.tab e) (l.map txtR)
  rw [h]
  refine RowsTy.of fun r hr => ?_
  obtain ⟨x, _, rfl⟩ := List.mem_map.1 hr
  exact ⟨trivial, trivial⟩
@[simp] theorem txtS_toR (l : List (List UInt8)) : (txtS l).toR = l.map txtR := rfl
@[simp] theorem txtS_len (l : List (List UInt8)) : lenD (txtS l) = l.length := by simp [txtS, lenD]
theorem drop_take_cut (s : ByteArray) (a b : Nat) : s.extract a b = bs ((s.data.toList.drop a).take (b - a)) := by
  apply ByteArray.ext
  simp only [bs, ByteArray.data_extract]
  apply Array.ext'
  simp
/-- A piece of the text where the separator may stand. -/
theorem occ_iff {s : ByteArray} {sep : List UInt8} {i : Nat} (h : i + sep.length ≤ s.size) : decide (s.extract i (i + sep.length) = bs sep) = Lib.occAt s.data.toList sep i := by
  rw [drop_take_cut, Lib.occAt_iff_take _ _ _ (by rw [size_data]; exact h), Nat.add_sub_cancel_left]
  simp [Bool.beq_eq_decide_eq]
theorem occ_drop (s sep : List UInt8) (a j : Nat) : Lib.occAt (s.drop a) sep j = Lib.occAt s sep (a + j) := by
  unfold Lib.occAt
  rw [List.drop_drop]
theorem c_spec_SplitAt (s : ByteArray) (sep : List UInt8) (h0 : sep ≠ []) (h1 : sep.length ≤ 100) (hs : s.size < 4294967281) : FunR Tryz.prog 59 none [.str s, .str (bs sep)] (txtS (Lib.split s.data.toList sep)) [] [(0, 1)] := by
  have hpos : 0 < sep.length := List.length_pos_iff.2 h0
  refine FunR.ofV vc_spec_SplitAt_ok ty_spec_SplitAt_ok rt_spec_SplitAt_ok rfl ?_ (fun hfit => ?_)
  · simp [ty_spec_SplitAt, HasTys, HasVT, HasV1, HasTy]
  unfold vc_spec_SplitAt
  refine den_loop (List (List UInt8) × Nat × Nat) (fun x => [txtS x.1, .int .i64 x.2.1, .int .i64 x.2.2])
    (fun x => x.1 ++ Lib.split (s.data.toList.drop x.2.1) sep = Lib.split s.data.toList sep ∧ x.2.1 ≤ x.2.2 ∧ x.2.2 ≤ s.size ∧ x.1.length ≤ x.2.1 ∧ ∀ j, x.2.1 ≤ j → j < x.2.2 → Lib.occAt s.data.toList sep j = false)
    (fun x => s.size - x.2.2) ([], 0, 0) ?_ rfl ⟨by simp, Nat.le_refl _, Nat.zero_le _, Nat.zero_le _, fun j a b => by simp only at b; omega⟩ ?_
  · intro x y h
    simp at h
    have : x.2.2 = y.2.2 := by omega
    simp only [this]
  rintro ⟨out, fr, i⟩ ⟨q1, q2, q3, q4, q5⟩ _
  simp only at q1 q2 q3 q4 q5
  have hadd : arI .add .i64 (i : Int) (((bs sep).size : Nat) : Int) = ((i + sep.length : Nat) : Int) := by rw [ar_add (by rw [bs_size]; omega) (by rw [bs_size]; omega), bs_size]; omega
  have hne : cmpS .neq (bs sep) ⟨#[]⟩ = true := by
    simp only [cmpS_neq]
    rw [show (⟨#[]⟩ : ByteArray) = bs [] from rfl]
    simp [h0]
  refine den_ite (fun h => ?_) (fun h => ?_)
  · simp only [E.den, List.cons_append, List.nil_append, List.getD_cons_zero, List.getD_cons_succ, D.toB_bool, D.toS_str, D.toI_int, len_str, hne, hadd, cmpI_leq, Bool.true_and, decide_eq_true_eq] at h
    have hle : i + sep.length ≤ s.size := by omega
    refine den_cond (fun _ => ?_) ?_
    · simp only [E.den, List.cons_append, List.nil_append, List.getD_cons_zero, List.getD_cons_succ, D.toI_int, len_str, hadd]
      simp; omega
    refine den_ite (fun h2 => ?_) (fun h2 => ?_)
    · simp only [E.den, List.cons_append, List.nil_append, List.getD_cons_zero, List.getD_cons_succ, D.toB_bool, D.toS_str, D.toI_int, len_str, hadd, cutD, Int.toNat_natCast, cmpS_eql, occ_iff hle] at h2
      have hix : Lib.index (s.data.toList.drop fr) sep = ((i - fr : Nat) : Int) := by
        refine Lib.index_first (by rw [List.length_drop, size_data]; omega) ?_ (fun j hj => ?_)
        · rw [occ_drop, show fr + (i - fr) = i by omega]; exact h2
        · rw [occ_drop]; exact q5 _ (by omega) (by omega)
      refine den_cond (fun _ => ?_) ?_
      · simp only [E.den, List.map_cons, List.map_nil, Option.map_none, Option.map_some, List.getD_cons_zero, List.getD_cons_succ, List.cons_append, List.nil_append, List.append_nil, D.toI_int, D.toB_bool, D.toS_str, D.toA_agg, D.toT_tup, D.toR_sl, enc_toA, encS_toR, encS_len, List.drop_succ_cons, List.drop_zero, List.take_succ_cons, List.take_zero, len_str, at_byte, cmpI_lss, cmpI_leq, cmpI_gtr, cmpI_geq, cmpI_eql, cmpI_neq, cmpS_eql, cmpS_neq, cmpS_lss, cmpS_geq, Int.toNat_natCast, Int.toNat_zero]; simp; omega
      refine den_cond (fun _ => ?_) ?_
      · simp only [E.den, List.map_cons, List.map_nil, Option.map_none, Option.map_some, List.getD_cons_zero, List.getD_cons_succ, List.cons_append, List.nil_append, List.append_nil, D.toI_int, D.toB_bool, D.toS_str, D.toA_agg, D.toT_tup, D.toR_sl, enc_toA, encS_toR, encS_len, List.drop_succ_cons, List.drop_zero, List.take_succ_cons, List.take_zero, len_str, at_byte, cmpI_lss, cmpI_leq, cmpI_gtr, cmpI_geq, cmpI_eql, cmpI_neq, cmpS_eql, cmpS_neq, cmpS_lss, cmpS_geq, Int.toNat_natCast, Int.toNat_zero]; simp; omega
      refine den_again (out ++ [(s.data.toList.drop fr).take (i - fr)], i + sep.length, i + sep.length) ?_ ⟨?_, Nat.le_refl _, hle, ?_, fun j a b => by simp only at a b; omega⟩ ?_
      · simp only [E.den, List.cons_append, List.nil_append, List.getD_cons_zero, List.getD_cons_succ, D.toS_str, D.toI_int, len_str, hadd, cutD, Int.toNat_natCast, List.map_cons, List.map_nil, drop_take_cut]
        simp [txtS, txtR]
      · simp only
        rw [← q1, split_hit h0 hix, List.drop_drop, show fr + (i - fr + sep.length) = i + sep.length by omega]
        simp
      · simp; omega
      · simp only; omega
    · simp only [E.den, List.cons_append, List.nil_append, List.getD_cons_zero, List.getD_cons_succ, D.toB_bool, D.toS_str, D.toI_int, len_str, hadd, cutD, Int.toNat_natCast, cmpS_eql, occ_iff hle] at h2
      refine den_again (out, fr, i + 1) ?_ ⟨q1, by simp only; omega, by simp only; omega, q4, fun j a b => ?_⟩ ?_
      · simp only [E.den, List.map_cons, List.map_nil, Option.map_none, Option.map_some, List.getD_cons_zero, List.getD_cons_succ, List.cons_append, List.nil_append, List.append_nil, D.toI_int, D.toB_bool, D.toS_str, D.toA_agg, D.toT_tup, D.toR_sl, enc_toA, encS_toR, encS_len, List.drop_succ_cons, List.drop_zero, List.take_succ_cons, List.take_zero, len_str, at_byte, cmpI_lss, cmpI_leq, cmpI_gtr, cmpI_geq, cmpI_eql, cmpI_neq, cmpS_eql, cmpS_neq, cmpS_lss, cmpS_geq, Int.toNat_natCast, Int.toNat_zero]
        rw [ar_add (by omega) (by omega)]; rfl
      · simp only at a b
        by_cases e : j = i
        · rw [e]; exact h2
        · exact q5 j a (by omega)
      · simp only; omega
  · simp only [E.den, List.cons_append, List.nil_append, List.getD_cons_zero, List.getD_cons_succ, D.toB_bool, D.toS_str, D.toI_int, len_str, hne, hadd, cmpI_leq, Bool.true_and, decide_eq_false_iff_not] at h
    have hix : Lib.index (s.data.toList.drop fr) sep = -1 := by
      refine Lib.index_none fun j hj => ?_
      rw [occ_drop]
      rcases Nat.lt_or_ge (fr + j) i with hlt | hge
      · exact q5 _ (by omega) hlt
      · cases ho : Lib.occAt s.data.toList sep (fr + j) with
        | false => rfl
        | true =>
          rcases Lib.occAt_room ho with h3 | h3
          · rw [size_data] at h3; omega
          · exact absurd h3 h0
    refine den_cond (fun _ => ?_) ?_
    · simp only [E.den, List.map_cons, List.map_nil, Option.map_none, Option.map_some, List.getD_cons_zero, List.getD_cons_succ, List.cons_append, List.nil_append, List.append_nil, D.toI_int, D.toB_bool, D.toS_str, D.toA_agg, D.toT_tup, D.toR_sl, enc_toA, encS_toR, encS_len, List.drop_succ_cons, List.drop_zero, List.take_succ_cons, List.take_zero, len_str, at_byte, cmpI_lss, cmpI_leq, cmpI_gtr, cmpI_geq, cmpI_eql, cmpI_neq, cmpS_eql, cmpS_neq, cmpS_lss, cmpS_geq, Int.toNat_natCast, Int.toNat_zero]; simp; omega
    refine den_cond (fun _ => ?_) (den_ret ?_)
    · simp only [E.den, List.map_cons, List.map_nil, Option.map_none, Option.map_some, List.getD_cons_zero, List.getD_cons_succ, List.cons_append, List.nil_append, List.append_nil, D.toI_int, D.toB_bool, D.toS_str, D.toA_agg, D.toT_tup, D.toR_sl, enc_toA, encS_toR, encS_len, List.drop_succ_cons, List.drop_zero, List.take_succ_cons, List.take_zero, len_str, at_byte, cmpI_lss, cmpI_leq, cmpI_gtr, cmpI_geq, cmpI_eql, cmpI_neq, cmpS_eql, cmpS_neq, cmpS_lss, cmpS_geq, Int.toNat_natCast, Int.toNat_zero]; simp; omega
    · simp only [E.den, List.cons_append, List.nil_append, List.getD_cons_zero, List.getD_cons_succ, D.toS_str, D.toI_int, len_str, cutD, Int.toNat_natCast, drop_take_cut]
      rw [← q1, split_miss hix, show s.size - fr = (s.data.toList.drop fr).length by rw [List.length_drop, size_data], List.take_length]
      simp [txtS, txtR]
theorem cut_len (s sep : List UInt8) : (Lib.cut s sep).1.length ≤ s.length ∧ (Lib.cut s sep).2.1.length ≤ s.length := by
  unfold Lib.cut
  split
  · simp; omega
  · simp
def cutD3 (s : ByteArray) (sep : List UInt8) : D := .tup [.str (bs (Lib.cut s.data.toList sep).1), .str (bs (Lib.cut s.data.toList sep).2.1), .bool (Lib.cut s.data.toList sep).2.2]
theorem c_Cut [HasMax] (s : ByteArray) (sep : List UInt8) (hs : s.size < 4294967281) : Fun Tryz.prog 46 none [.str s, .str (bs sep)] (cutD3 s sep) [] := by
  refine Fun.of_callsG (by kernel_rfl) fun w M vs hG hr => ?_
  obtain ⟨v, q, rfl, ⟨rfl, _⟩, v2, q2, rfl, ⟨rfl, _⟩, rfl⟩ := hr
  obtain ⟨cs, ⟨m, hcs⟩, hc⟩ := (HasMax.h w hG.2.1).cell
  have hm := hc 0
  rw [hcs] at hm
  have h := cut_len s.data.toList sep
  rw [size_data] at h
  refine (Tryz.strings_Cut s (bs sep) m w hs hm).mono ?_
  rintro e w' ⟨rfl, k, rfl⟩
  rw [bs_toList]
  refine ⟨_, rfl, ⟨_, rfl, _, _, rfl, ⟨rfl, ?_⟩, _, _, rfl, ⟨rfl, ?_⟩, _, _, rfl, rfl, rfl⟩, ⟨rfl, rfl, rfl, Nat.le_refl _, fun _ _ => rfl⟩⟩
  · rw [bs_size]; unfold maxLen; omega
  · rw [bs_size]; unfold maxLen; omega
/-! Versions, read -/
theorem len_two {α : Type} {l : List α} (h : l.length = 2) : ∃ a b, l = [a, b] := match l, h with | [a, b], _ => ⟨a, b, rfl⟩
theorem one_toNat : (1 : Int).toNat = 1 := rfl
theorem no_dot {n : Nat} (h : n < 1000) : (46 : UInt8) ∉ dig3 n := by
  intro hm
  have := List.all_eq_true.1 (dig3_dig h) _ hm
  simp [isDig] at this
def pvA (s : ByteArray) : ByteArray := bs (Lib.cut s.data.toList [46]).1
def pvZ (s : ByteArray) : ByteArray := bs (Lib.cut s.data.toList [46]).2.1
def pvI (s : ByteArray) : Ver := ⟨numI (pvA s), numI (pvZ s)⟩
def pvB (s : ByteArray) : Bool := ((Lib.cut s.data.toList [46]).2.2 && numK (pvA s) && numK (pvZ s)) && (pvI s).ok
/-- What the versions' reader gives. -/
def pvV (s : ByteArray) : Ver := if pvB s then pvI s else ⟨0, 0⟩
def pvD (s : ByteArray) : D := .tup [enc (pvV s), .bool (pvB s)]
theorem pv_of {v : Ver} (h : v.ok = true) : pvB (verS v) = true ∧ pvV (verS v) = v := by
  obtain ⟨a, b, ha, hb, rfl⟩ := Ver.nats h
  have hc : Lib.cut (verS ⟨a, b⟩).data.toList [46] = (dig3 a, dig3 b, true) := by
    rw [verS, if_pos h, bs_toList]
    exact cut_app (t := []) (rest := dig3 b) (no_dot (n := a) (by omega))
  have hA : pvA (verS ⟨a, b⟩) = bs (dig3 a) := by unfold pvA; rw [hc]
  have hZ : pvZ (verS ⟨a, b⟩) = bs (dig3 b) := by unfold pvZ; rw [hc]
  have hI : pvI (verS ⟨a, b⟩) = ⟨a, b⟩ := by unfold pvI; rw [hA, hZ, numI_dig (n := a) (by omega), numI_dig (n := b) (by omega)]
  have hB : pvB (verS ⟨a, b⟩) = true := by
    unfold pvB
    rw [hc, hA, hZ, hI, numK_dig (n := a) (by omega), numK_dig (n := b) (by omega), h]; rfl
  exact ⟨hB, by unfold pvV; rw [if_pos hB, hI]⟩
theorem pv_back {s : ByteArray} (h : pvB s = true) : (pvV s).ok = true ∧ verS (pvV s) = s := by
  have hV : pvV s = pvI s := by unfold pvV; rw [if_pos h]
  unfold pvB at h
  simp only [Bool.and_eq_true] at h
  obtain ⟨⟨⟨h1, h2⟩, h3⟩, h4⟩ := h
  obtain ⟨a, ha, ea, ia⟩ := numK_true h2
  obtain ⟨b, hb, eb, ib⟩ := numK_true h3
  rw [hV]
  refine ⟨h4, ?_⟩
  rw [verS, if_pos h4]
  have hs := cut_back h1
  have e1 := bs_inj ea
  have e2 := bs_inj eb
  rw [e1, e2] at hs
  have e : verL (pvI s) = s.data.toList := by
    rw [hs]
    simp [verL, pvI, ia, ib]
  rw [e, bs_data]
theorem ty_pvD (s : ByteArray) : HasVT tbl.tab (.tup [.agg [.int .i64, .int .i64], .c .bool]) (pvD s) := ⟨ty_Ver _, trivial, trivial⟩
theorem c_impl_ParseVersion [HasMax] [HasPow] [HasErr] (s : ByteArray) (hs : s.size < 4294967281) : Fun Tryz.prog 48 none [.str s] (pvD s) [] := by
  refine Fun.ofV vc_impl_ParseVersion_ok ty_impl_ParseVersion_ok rfl ?_ (fun hfit => ?_)
  · simp [ty_impl_ParseVersion, HasTys, HasVT, HasV1, HasTy]
  unfold vc_impl_ParseVersion
  ((first | refine den_call ?_ (c_Cut s [46] hs) (⟨trivial, trivial, trivial, trivial⟩) ?_ | refine den_callR ?_ (c_Cut s [46] hs) (⟨trivial, trivial, trivial, trivial⟩) ?_ | refine den_call ?_ (.ofR (c_Cut s [46] hs)) (⟨trivial, trivial, trivial, trivial⟩) ?_); (focus (simp only [VC.den, E.den, List.map_cons, List.map_nil, Option.map_none, Option.map_some, List.getD_cons_zero, List.getD_cons_succ, List.cons_append, List.nil_append, List.append_nil, D.toI_int, D.toB_bool, D.toS_str, D.toA_agg, D.toT_tup, D.toR_sl, enc_toA, encS_toR, encS_len, List.drop_succ_cons, List.drop_zero, List.take_succ_cons, List.take_zero, gsH_nil, and_true]; try exact rfl)); (simp only [List.cons_append, List.nil_append]))
  ((first | refine den_call ?_ (c_impl_ParseNumber (pvA s)) (ty_numD _) ?_ | refine den_callR ?_ (c_impl_ParseNumber (pvA s)) (ty_numD _) ?_ | refine den_call ?_ (.ofR (c_impl_ParseNumber (pvA s))) (ty_numD _) ?_); (focus (simp only [VC.den, E.den, List.map_cons, List.map_nil, Option.map_none, Option.map_some, List.getD_cons_zero, List.getD_cons_succ, List.cons_append, List.nil_append, List.append_nil, D.toI_int, D.toB_bool, D.toS_str, D.toA_agg, D.toT_tup, D.toR_sl, enc_toA, encS_toR, encS_len, List.drop_succ_cons, List.drop_zero, List.take_succ_cons, List.take_zero, gsH_nil, and_true, cutD3]; try exact rfl)); (simp only [List.cons_append, List.nil_append]))
  ((first | refine den_call ?_ (c_impl_ParseNumber (pvZ s)) (ty_numD _) ?_ | refine den_callR ?_ (c_impl_ParseNumber (pvZ s)) (ty_numD _) ?_ | refine den_call ?_ (.ofR (c_impl_ParseNumber (pvZ s))) (ty_numD _) ?_); (focus (simp only [VC.den, E.den, List.map_cons, List.map_nil, Option.map_none, Option.map_some, List.getD_cons_zero, List.getD_cons_succ, List.cons_append, List.nil_append, List.append_nil, D.toI_int, D.toB_bool, D.toS_str, D.toA_agg, D.toT_tup, D.toR_sl, enc_toA, encS_toR, encS_len, List.drop_succ_cons, List.drop_zero, List.take_succ_cons, List.take_zero, gsH_nil, and_true, cutD3]; try exact rfl)); (simp only [List.cons_append, List.nil_append]))
  ((first | refine den_call ?_ (c_impl_IsVersion (pvI s)) (trivial) ?_ | refine den_callR ?_ (c_impl_IsVersion (pvI s)) (trivial) ?_ | refine den_call ?_ (.ofR (c_impl_IsVersion (pvI s))) (trivial) ?_); (focus (simp only [VC.den, E.den, List.map_cons, List.map_nil, Option.map_none, Option.map_some, List.getD_cons_zero, List.getD_cons_succ, List.cons_append, List.nil_append, List.append_nil, D.toI_int, D.toB_bool, D.toS_str, D.toA_agg, D.toT_tup, D.toR_sl, enc_toA, encS_toR, encS_len, List.drop_succ_cons, List.drop_zero, List.take_succ_cons, List.take_zero, gsH_nil, and_true, numD]; try exact rfl)); (simp only [List.cons_append, List.nil_append]))
  refine den_ite (fun h => den_ret ?_) (fun h => den_ret ?_)
  · simp only [E.den, List.map_cons, List.map_nil, Option.map_none, Option.map_some, List.getD_cons_zero, List.getD_cons_succ, List.cons_append, List.nil_append, List.append_nil, D.toI_int, D.toB_bool, D.toS_str, D.toA_agg, D.toT_tup, D.toR_sl, enc_toA, encS_toR, encS_len, List.drop_succ_cons, List.drop_zero, List.take_succ_cons, List.take_zero, len_str, at_byte, cmpI_lss, cmpI_leq, cmpI_gtr, cmpI_geq, cmpI_eql, cmpI_neq, cmpS_eql, cmpS_neq, cmpS_lss, cmpS_geq, Int.toNat_natCast, Int.toNat_zero, cutD3, numD] at h ⊢
    have hB : pvB s = false := by
      unfold pvB
      grind
    rw [pvD, pvV, hB]
    rfl
  · simp only [E.den, List.map_cons, List.map_nil, Option.map_none, Option.map_some, List.getD_cons_zero, List.getD_cons_succ, List.cons_append, List.nil_append, List.append_nil, D.toI_int, D.toB_bool, D.toS_str, D.toA_agg, D.toT_tup, D.toR_sl, enc_toA, encS_toR, encS_len, List.drop_succ_cons, List.drop_zero, List.take_succ_cons, List.take_zero, len_str, at_byte, cmpI_lss, cmpI_leq, cmpI_gtr, cmpI_geq, cmpI_eql, cmpI_neq, cmpS_eql, cmpS_neq, cmpS_lss, cmpS_geq, Int.toNat_natCast, Int.toNat_zero, cutD3, numD] at h ⊢
    have hB : pvB s = true := by
      unfold pvB
      grind
    rw [pvD, pvV, hB]
    rfl
theorem c_spec_ParseVersion (s : ByteArray) (hs : s.size < 4294967281) : Fun Tryz.prog 71 none [.str s] (pvD s) [] := by
  refine Fun.ofV vc_spec_ParseVersion_ok ty_spec_ParseVersion_ok rfl ?_ (fun hfit => ?_)
  · simp [ty_spec_ParseVersion, HasTys, HasVT, HasV1, HasTy]
  unfold vc_spec_ParseVersion
  ((first | refine den_call ?_ (c_spec_SplitAt s [46] (by simp) (by simp) hs) (ty_txtS rfl _) ?_ | refine den_callR ?_ (c_spec_SplitAt s [46] (by simp) (by simp) hs) (ty_txtS rfl _) ?_ | refine den_call ?_ (.ofR (c_spec_SplitAt s [46] (by simp) (by simp) hs)) (ty_txtS rfl _) ?_); (focus (simp only [VC.den, E.den, List.map_cons, List.map_nil, Option.map_none, Option.map_some, List.getD_cons_zero, List.getD_cons_succ, List.cons_append, List.nil_append, List.append_nil, D.toI_int, D.toB_bool, D.toS_str, D.toA_agg, D.toT_tup, D.toR_sl, enc_toA, encS_toR, encS_len, List.drop_succ_cons, List.drop_zero, List.take_succ_cons, List.take_zero, gsH_nil, and_true]; try exact rfl)); (simp only [List.cons_append, List.nil_append]))
  have hz : pvB s = false → D.tup ([] ++ [.agg ([.int .i64 0] ++ ([.int .i64 0] ++ []))] ++ [.bool false]) = pvD s := fun h => by rw [pvD, pvV, h]; rfl
  -- a version that is written: two pieces
  have hyes : pvB s = true → Lib.split s.data.toList [46] = [(dig3 (pvV s).maj.toNat), (dig3 (pvV s).min.toNat)] ∧ numI (bs (dig3 (pvV s).maj.toNat)) = (pvV s).maj ∧ numI (bs (dig3 (pvV s).min.toNat)) = (pvV s).min := fun h => by
    obtain ⟨h1, h2⟩ := pv_back h
    generalize pvV s = v at h1 h2
    obtain ⟨a, b, ha, hb, rfl⟩ := Ver.nats h1
    rw [verS, if_pos h1] at h2
    rw [← h2, bs_toList]
    refine ⟨?_, numI_dig (n := a) (by omega), numI_dig (n := b) (by omega)⟩
    have hj := split_join (c := 46) (t := []) (l := [dig3 a, dig3 b]) (by simp) (fun x hx => by
      simp at hx; rcases hx with rfl | rfl
      · exact no_dot (by omega)
      · exact no_dot (by omega))
    have e : verL ⟨a, b⟩ = Lib.join [dig3 a, dig3 b] [46] := by simp [verL, Lib.join_cons, Lib.joinTail]
    rw [e, hj]
    simp
  refine den_ite (fun h => den_ret ?_) (fun h => ?_)
  · simp only [E.den, List.map_cons, List.map_nil, Option.map_none, Option.map_some, List.getD_cons_zero, List.getD_cons_succ, List.cons_append, List.nil_append, List.append_nil, D.toI_int, D.toB_bool, D.toS_str, D.toA_agg, D.toT_tup, D.toR_sl, enc_toA, encS_toR, encS_len, List.drop_succ_cons, List.drop_zero, List.take_succ_cons, List.take_zero, len_str, at_byte, cmpI_lss, cmpI_leq, cmpI_gtr, cmpI_geq, cmpI_eql, cmpI_neq, cmpS_eql, cmpS_neq, cmpS_lss, cmpS_geq, Int.toNat_natCast, Int.toNat_zero, txtS_len] at h ⊢
    refine hz ?_
    cases hb : pvB s with
    | false => rfl
    | true => rw [(hyes hb).1] at h; simp at h
  · simp only [E.den, List.map_cons, List.map_nil, Option.map_none, Option.map_some, List.getD_cons_zero, List.getD_cons_succ, List.cons_append, List.nil_append, List.append_nil, D.toI_int, D.toB_bool, D.toS_str, D.toA_agg, D.toT_tup, D.toR_sl, enc_toA, encS_toR, encS_len, List.drop_succ_cons, List.drop_zero, List.take_succ_cons, List.take_zero, len_str, at_byte, cmpI_lss, cmpI_leq, cmpI_gtr, cmpI_geq, cmpI_eql, cmpI_neq, cmpS_eql, cmpS_neq, cmpS_lss, cmpS_geq, Int.toNat_natCast, Int.toNat_zero, txtS_len] at h
    have hl : (Lib.split s.data.toList [46]).length = 2 := by simp at h; omega
    obtain ⟨p0, p1, hp⟩ := len_two hl
    refine den_cond (fun _ => ?_) ?_
    · simp only [E.den, List.map_cons, List.map_nil, Option.map_none, Option.map_some, List.getD_cons_zero, List.getD_cons_succ, List.cons_append, List.nil_append, List.append_nil, D.toI_int, D.toB_bool, D.toS_str, D.toA_agg, D.toT_tup, D.toR_sl, enc_toA, encS_toR, encS_len, List.drop_succ_cons, List.drop_zero, List.take_succ_cons, List.take_zero, len_str, at_byte, cmpI_lss, cmpI_leq, cmpI_gtr, cmpI_geq, cmpI_eql, cmpI_neq, cmpS_eql, cmpS_neq, cmpS_lss, cmpS_geq, Int.toNat_natCast, Int.toNat_zero, txtS_len]; simp [hl]
    ((first | refine den_call ?_ (c_spec_ParseNumber (bs p0)) (ty_numD _) ?_ | refine den_callR ?_ (c_spec_ParseNumber (bs p0)) (ty_numD _) ?_ | refine den_call ?_ (.ofR (c_spec_ParseNumber (bs p0))) (ty_numD _) ?_); (focus (simp only [VC.den, E.den, List.map_cons, List.map_nil, Option.map_none, Option.map_some, List.getD_cons_zero, List.getD_cons_succ, List.cons_append, List.nil_append, List.append_nil, D.toI_int, D.toB_bool, D.toS_str, D.toA_agg, D.toT_tup, D.toR_sl, enc_toA, encS_toR, encS_len, List.drop_succ_cons, List.drop_zero, List.take_succ_cons, List.take_zero, gsH_nil, and_true, txtS_toR, hp, txtR, List.getElem?_cons_zero, Int.toNat_zero, Option.getD_some]; try exact rfl)); (simp only [List.cons_append, List.nil_append]))
    refine den_cond (fun _ => ?_) ?_
    · simp only [E.den, List.map_cons, List.map_nil, Option.map_none, Option.map_some, List.getD_cons_zero, List.getD_cons_succ, List.cons_append, List.nil_append, List.append_nil, D.toI_int, D.toB_bool, D.toS_str, D.toA_agg, D.toT_tup, D.toR_sl, enc_toA, encS_toR, encS_len, List.drop_succ_cons, List.drop_zero, List.take_succ_cons, List.take_zero, len_str, at_byte, cmpI_lss, cmpI_leq, cmpI_gtr, cmpI_geq, cmpI_eql, cmpI_neq, cmpS_eql, cmpS_neq, cmpS_lss, cmpS_geq, Int.toNat_natCast, Int.toNat_zero, txtS_len]; simp [hl]
    ((first | refine den_call ?_ (c_spec_ParseNumber (bs p1)) (ty_numD _) ?_ | refine den_callR ?_ (c_spec_ParseNumber (bs p1)) (ty_numD _) ?_ | refine den_call ?_ (.ofR (c_spec_ParseNumber (bs p1))) (ty_numD _) ?_); (focus (simp only [VC.den, E.den, List.map_cons, List.map_nil, Option.map_none, Option.map_some, List.getD_cons_zero, List.getD_cons_succ, List.cons_append, List.nil_append, List.append_nil, D.toI_int, D.toB_bool, D.toS_str, D.toA_agg, D.toT_tup, D.toR_sl, enc_toA, encS_toR, encS_len, List.drop_succ_cons, List.drop_zero, List.take_succ_cons, List.take_zero, gsH_nil, and_true, txtS_toR, hp, txtR, one_toNat, List.getElem?_cons_succ, List.getElem?_cons_zero, Option.getD_some]; try exact rfl)); (simp only [List.cons_append, List.nil_append]))
    ((first | refine den_call ?_ (c_spec_FormatVersion ⟨numI (bs p0), numI (bs p1)⟩) (trivial) ?_ | refine den_callR ?_ (c_spec_FormatVersion ⟨numI (bs p0), numI (bs p1)⟩) (trivial) ?_ | refine den_call ?_ (.ofR (c_spec_FormatVersion ⟨numI (bs p0), numI (bs p1)⟩)) (trivial) ?_); (focus (simp only [VC.den, E.den, List.map_cons, List.map_nil, Option.map_none, Option.map_some, List.getD_cons_zero, List.getD_cons_succ, List.cons_append, List.nil_append, List.append_nil, D.toI_int, D.toB_bool, D.toS_str, D.toA_agg, D.toT_tup, D.toR_sl, enc_toA, encS_toR, encS_len, List.drop_succ_cons, List.drop_zero, List.take_succ_cons, List.take_zero, gsH_nil, and_true, numD]; try exact rfl)); (simp only [List.cons_append, List.nil_append]))
    refine den_ite (fun h => den_ret ?_) (fun h => den_ret ?_)
    · simp only [E.den, List.map_cons, List.map_nil, Option.map_none, Option.map_some, List.getD_cons_zero, List.getD_cons_succ, List.cons_append, List.nil_append, List.append_nil, D.toI_int, D.toB_bool, D.toS_str, D.toA_agg, D.toT_tup, D.toR_sl, enc_toA, encS_toR, encS_len, List.drop_succ_cons, List.drop_zero, List.take_succ_cons, List.take_zero, len_str, at_byte, cmpI_lss, cmpI_leq, cmpI_gtr, cmpI_geq, cmpI_eql, cmpI_neq, cmpS_eql, cmpS_neq, cmpS_lss, cmpS_geq, Int.toNat_natCast, Int.toNat_zero, numD] at h ⊢
      refine hz ?_
      cases hb : pvB s with
      | false => rfl
      | true =>
        exfalso
        obtain ⟨q1, q2, q3⟩ := hyes hb
        rw [hp] at q1
        simp at q1
        obtain ⟨rfl, rfl⟩ := q1
        rw [q2, q3] at h
        have := (pv_back hb).2
        simp [this] at h
    · simp only [E.den, List.map_cons, List.map_nil, Option.map_none, Option.map_some, List.getD_cons_zero, List.getD_cons_succ, List.cons_append, List.nil_append, List.append_nil, D.toI_int, D.toB_bool, D.toS_str, D.toA_agg, D.toT_tup, D.toR_sl, enc_toA, encS_toR, encS_len, List.drop_succ_cons, List.drop_zero, List.take_succ_cons, List.take_zero, len_str, at_byte, cmpI_lss, cmpI_leq, cmpI_gtr, cmpI_geq, cmpI_eql, cmpI_neq, cmpS_eql, cmpS_neq, cmpS_lss, cmpS_geq, Int.toNat_natCast, Int.toNat_zero, numD] at h ⊢
      have hv : verS ⟨numI (bs p0), numI (bs p1)⟩ = s := by simpa using h
      have hok : (⟨numI (bs p0), numI (bs p1)⟩ : Ver).ok = true := by
        cases hk : (⟨numI (bs p0), numI (bs p1)⟩ : Ver).ok with
        | true => rfl
        | false =>
          rw [verS, hk] at hv
          simp only [Bool.false_eq_true, if_false] at hv
          rw [← hv, bs_toList] at hp
          have : Lib.split ([] : List UInt8) [46] = [[]] := rfl
          rw [this] at hp
          simp at hp
      obtain ⟨q1, q2⟩ := pv_of hok
      rw [hv] at q1 q2
      rw [pvD, q1, q2]
      rfl
end Go.Proofs.YtmhfncdhplmomaaGreatDoor
