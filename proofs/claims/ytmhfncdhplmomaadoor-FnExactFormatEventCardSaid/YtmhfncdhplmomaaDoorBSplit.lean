/- Contracts: texts divided. -/
import Derived.Test.YtmhfncdhplmomaaDoorBNum
namespace Go.Proofs.YtmhfncdhplmomaaDoor
open Go.RowKit Go
set_option linter.unusedVariables false
set_option linter.unusedSimpArgs false
set_option maxRecDepth 100000
set_option linter.unusedSectionVars false
variable [GC]
def txtR (x : List UInt8) : List D := [.str (bs x)]
def txtS (l : List (List UInt8)) : D := .sl (l.map txtR)
theorem ty_txtS {e : Nat} (h : tbl.tab e = [.str]) (l : List (List UInt8)) : HasVT tbl.tab (.one (.c (.sl e))) (txtS l) := by
  show RowsTy tbl.tab (tbl.tab e) (l.map txtR)
  rw [h]
  refine RowsTy.of fun r hr => ?_
  obtain ⟨x, _, rfl⟩ := List.mem_map.1 hr
  exact ⟨trivial, trivial⟩
@[simp] theorem txtS_toR (l : List (List UInt8)) : (txtS l).toR = l.map txtR := rfl
@[simp] theorem txtS_len (l : List (List UInt8)) : lenD (txtS l) = l.length := by simp [txtS, lenD]
theorem drop_take_cut (s : ByteArray) (a b : Nat) : s.extract a b = bs ((s.data.toList.drop a).take (b - a)) := by
  apply ByteArray.ext
  simp only [bs, ByteArray.data_extract]
  apply Array.ext'
  simp
/-- A piece of the text where the separator may stand. -/
theorem occ_iff {s : ByteArray} {sep : List UInt8} {i : Nat} (h : i + sep.length ≤ s.size) : decide (s.extract i (i + sep.length) = bs sep) = Lib.occAt s.data.toList sep i := by
  rw [drop_take_cut, Lib.occAt_iff_take _ _ _ (by rw [size_data]; exact h), Nat.add_sub_cancel_left]
  simp [Bool.beq_eq_decide_eq]
theorem occ_drop (s sep : List UInt8) (a j : Nat) : Lib.occAt (s.drop a) sep j = Lib.occAt s sep (a + j) := by
  unfold Lib.occAt
  rw [List.drop_drop]
theorem c_spec_SplitAt (s : ByteArray) (sep : List UInt8) (h0 : sep ≠ []) (h1 : sep.length ≤ 100) (hs : s.size < 4294967281) : FunR Tryd.prog 33 none [.str s, .str (bs sep)] (txtS (Lib.split s.data.toList sep)) [] [(0, 1)] := by
  have hpos : 0 < sep.length := List.length_pos_iff.2 h0
  refine FunR.ofV vc_spec_SplitAt_ok ty_spec_SplitAt_ok rt_spec_SplitAt_ok rfl ?_ (fun hfit => ?_)
  · simp [ty_spec_SplitAt, HasTys, HasVT, HasV1, HasTy]
  unfold vc_spec_SplitAt
  refine den_loop (List (List UInt8) × Nat × Nat) (fun x => [txtS x.1, .int .i64 x.2.1, .int .i64 x.2.2])
    (fun x => x.1 ++ Lib.split (s.data.toList.drop x.2.1) sep = Lib.split s.data.toList sep ∧ x.2.1 ≤ x.2.2 ∧ x.2.2 ≤ s.size ∧ x.1.length ≤ x.2.1 ∧ ∀ j, x.2.1 ≤ j → j < x.2.2 → Lib.occAt s.data.toList sep j = false)
    (fun x => s.size - x.2.2) ([], 0, 0) ?_ rfl ⟨by simp, Nat.le_refl _, Nat.zero_le _, Nat.zero_le _, fun j a b => by simp only at b; omega⟩ ?_
  · intro x y h
    simp at h
    have : x.2.2 = y.2.2 := by omega
    simp only [this]
  rintro ⟨out, fr, i⟩ ⟨q1, q2, q3, q4, q5⟩ _
  simp only at q1 q2 q3 q4 q5
  have hadd : arI .add .i64 (i : Int) (((bs sep).size : Nat) : Int) = ((i + sep.length : Nat) : Int) := by rw [ar_add (by rw [bs_size]; omega) (by rw [bs_size]; omega), bs_size]; omega
  have hne : cmpS .neq (bs sep) ⟨#[]⟩ = true := by
    simp only [cmpS_neq]
    rw [show (⟨#[]⟩ : ByteArray) = bs [] from rfl]
    simp [h0]
  refine den_ite (fun h => ?_) (fun h => ?_)
  · simp only [E.den, List.cons_append, List.nil_append, List.getD_cons_zero, List.getD_cons_succ, D.toB_bool, D.toS_str, D.toI_int, len_str, hne, hadd, cmpI_leq, Bool.true_and, decide_eq_true_eq] at h
    have hle : i + sep.length ≤ s.size := by omega
    refine den_cond (fun _ => ?_) ?_
    · simp only [E.den, List.cons_append, List.nil_append, List.getD_cons_zero, List.getD_cons_succ, D.toI_int, len_str, hadd]
      simp; omega
    refine den_ite (fun h2 => ?_) (fun h2 => ?_)
    · simp only [E.den, List.cons_append, List.nil_append, List.getD_cons_zero, List.getD_cons_succ, D.toB_bool, D.toS_str, D.toI_int, len_str, hadd, cutD, Int.toNat_natCast, cmpS_eql, occ_iff hle] at h2
      have hix : Lib.index (s.data.toList.drop fr) sep = ((i - fr : Nat) : Int) := by
        refine Lib.index_first (by rw [List.length_drop, size_data]; omega) ?_ (fun j hj => ?_)
        · rw [occ_drop, show fr + (i - fr) = i by omega]; exact h2
        · rw [occ_drop]; exact q5 _ (by omega) (by omega)
      refine den_cond (fun _ => ?_) ?_
      · simp only [E.den, List.map_cons, List.map_nil, Option.map_none, Option.map_some, List.getD_cons_zero, List.getD_cons_succ, List.cons_append, List.nil_append, List.append_nil, D.toI_int, D.toB_bool, D.toS_str, D.toA_agg, D.toT_tup, D.toR_sl, enc_toA, encS_toR, encS_len, List.drop_succ_cons, List.drop_zero, List.take_succ_cons, List.take_zero, len_str, at_byte, cmpI_lss, cmpI_leq, cmpI_gtr, cmpI_geq, cmpI_eql, cmpI_neq, cmpS_eql, cmpS_neq, cmpS_lss, cmpS_geq, Int.toNat_natCast, Int.toNat_zero]; simp; omega
      refine den_cond (fun _ => ?_) ?_
      · simp only [E.den, List.map_cons, List.map_nil, Option.map_none, Option.map_some, List.getD_cons_zero, List.getD_cons_succ, List.cons_append, List.nil_append, List.append_nil, D.toI_int, D.toB_bool, D.toS_str, D.toA_agg, D.toT_tup, D.toR_sl, enc_toA, encS_toR, encS_len, List.drop_succ_cons, List.drop_zero, List.take_succ_cons, List.take_zero, len_str, at_byte, cmpI_lss, cmpI_leq, cmpI_gtr, cmpI_geq, cmpI_eql, cmpI_neq, cmpS_eql, cmpS_neq, cmpS_lss, cmpS_geq, Int.toNat_natCast, Int.toNat_zero]; simp; omega
      refine den_again (out ++ [(s.data.toList.drop fr).take (i - fr)], i + sep.length, i + sep.length) ?_ ⟨?_, Nat.le_refl _, hle, ?_, fun j a b => by simp only at a b; omega⟩ ?_
      · simp only [E.den, List.cons_append, List.nil_append, List.getD_cons_zero, List.getD_cons_succ, D.toS_str, D.toI_int, len_str, hadd, cutD, Int.toNat_natCast, List.map_cons, List.map_nil, drop_take_cut]
        simp [txtS, txtR]
      · simp only
        rw [← q1, split_hit h0 hix, List.drop_drop, show fr + (i - fr + sep.length) = i + sep.length by omega]
        simp
      · simp; omega
      · simp only; omega
    · simp only [E.den, List.cons_append, List.nil_append, List.getD_cons_zero, List.getD_cons_succ, D.toB_bool, D.toS_str, D.toI_int, len_str, hadd, cutD, Int.toNat_natCast, cmpS_eql, occ_iff hle] at h2
      refine den_again (out, fr, i + 1) ?_ ⟨q1, by simp only; omega, by simp only; omega, q4, fun j a b => ?_⟩ ?_
      · simp only [E.den, List.map_cons, List.map_nil, Option.map_none, Option.map_some, List.getD_cons_zero, List.getD_cons_succ, List.cons_append, List.nil_append, List.append_nil, D.toI_int, D.toB_bool, D.toS_str, D.toA_agg, D.toT_tup, D.toR_sl, enc_toA, encS_toR, encS_len, List.drop_succ_cons, List.drop_zero, List.take_succ_cons, List.take_zero, len_str, at_byte, cmpI_lss, cmpI_leq, cmpI_gtr, cmpI_geq, cmpI_eql, cmpI_neq, cmpS_eql, cmpS_neq, cmpS_lss, cmpS_geq, Int.toNat_natCast, Int.toNat_zero]
        rw [ar_add (by omega) (by omega)]; rfl
      · simp only at a b
        by_cases e : j = i
        · rw [e]; exact h2
        · exact q5 j a (by omega)
      · simp only; omega
  · simp only [E.den, List.cons_append, List.nil_append, List.getD_cons_zero, List.getD_cons_succ, D.toB_bool, D.toS_str, D.toI_int, len_str, hne, hadd, cmpI_leq, Bool.true_and, decide_eq_false_iff_not] at h
    have hix : Lib.index (s.data.toList.drop fr) sep = -1 := by
      refine Lib.index_none fun j hj => ?_
      rw [occ_drop]
      rcases Nat.lt_or_ge (fr + j) i with hlt | hge
      · exact q5 _ (by omega) hlt
      · cases ho : Lib.occAt s.data.toList sep (fr + j) with
        | false => rfl
        | true =>
          rcases Lib.occAt_room ho with h3 | h3
          · rw [size_data] at h3; omega
          · exact absurd h3 h0
    refine den_cond (fun _ => ?_) ?_
    · simp only [E.den, List.map_cons, List.map_nil, Option.map_none, Option.map_some, List.getD_cons_zero, List.getD_cons_succ, List.cons_append, List.nil_append, List.append_nil, D.toI_int, D.toB_bool, D.toS_str, D.toA_agg, D.toT_tup, D.toR_sl, enc_toA, encS_toR, encS_len, List.drop_succ_cons, List.drop_zero, List.take_succ_cons, List.take_zero, len_str, at_byte, cmpI_lss, cmpI_leq, cmpI_gtr, cmpI_geq, cmpI_eql, cmpI_neq, cmpS_eql, cmpS_neq, cmpS_lss, cmpS_geq, Int.toNat_natCast, Int.toNat_zero]; simp; omega
    refine den_cond (fun _ => ?_) (den_ret ?_)
    · simp only [E.den, List.map_cons, List.map_nil, Option.map_none, Option.map_some, List.getD_cons_zero, List.getD_cons_succ, List.cons_append, List.nil_append, List.append_nil, D.toI_int, D.toB_bool, D.toS_str, D.toA_agg, D.toT_tup, D.toR_sl, enc_toA, encS_toR, encS_len, List.drop_succ_cons, List.drop_zero, List.take_succ_cons, List.take_zero, len_str, at_byte, cmpI_lss, cmpI_leq, cmpI_gtr, cmpI_geq, cmpI_eql, cmpI_neq, cmpS_eql, cmpS_neq, cmpS_lss, cmpS_geq, Int.toNat_natCast, Int.toNat_zero]; simp; omega
    · simp only [E.den, List.cons_append, List.nil_append, List.getD_cons_zero, List.getD_cons_succ, D.toS_str, D.toI_int, len_str, cutD, Int.toNat_natCast, drop_take_cut]
      rw [← q1, split_miss hix, show s.size - fr = (s.data.toList.drop fr).length by rw [List.length_drop, size_data], List.take_length]
      simp [txtS, txtR]
theorem cut_len (s sep : List UInt8) : (Lib.cut s sep).1.length ≤ s.length ∧ (Lib.cut s sep).2.1.length ≤ s.length := by
  unfold Lib.cut
  split
  · simp; omega
  · simp
def cutD3 (s : ByteArray) (sep : List UInt8) : D := .tup [.str (bs (Lib.cut s.data.toList sep).1), .str (bs (Lib.cut s.data.toList sep).2.1), .bool (Lib.cut s.data.toList sep).2.2]
theorem c_Cut [HasMax] (s : ByteArray) (sep : List UInt8) (hs : s.size < 4294967281) : Fun Tryd.prog 35 none [.str s, .str (bs sep)] (cutD3 s sep) [] := by
  refine Fun.of_callsG (by kernel_rfl) fun w M vs hG hr => ?_
  obtain ⟨v, q, rfl, ⟨rfl, _⟩, v2, q2, rfl, ⟨rfl, _⟩, rfl⟩ := hr
  obtain ⟨cs, ⟨m, hcs⟩, hc⟩ := (HasMax.h w hG.2.1).cell
  have hm := hc 0
  rw [hcs] at hm
  have h := cut_len s.data.toList sep
  rw [size_data] at h
  refine (Tryd.strings_Cut s (bs sep) m w hs hm).mono ?_
  rintro e w' ⟨rfl, k, rfl⟩
  rw [bs_toList]
  refine ⟨_, rfl, ⟨_, rfl, _, _, rfl, ⟨rfl, ?_⟩, _, _, rfl, ⟨rfl, ?_⟩, _, _, rfl, rfl, rfl⟩, ⟨rfl, rfl, rfl, Nat.le_refl _, fun _ _ => rfl⟩⟩
  · rw [bs_size]; unfold maxLen; omega
  · rw [bs_size]; unfold maxLen; omega
end Go.Proofs.YtmhfncdhplmomaaDoor
