/- Contracts: texts divided; texts read as versions. -/
import Derived.Test.YtjmakbnblpjkhaaGreatDoorC13
import Derived.Test.YtjmakbnblpjkhaaGreatDoorC15
set_option linter.unusedVariables false
set_option linter.unusedSimpArgs false
set_option maxRecDepth 100000
set_option linter.unusedSectionVars false
namespace Go.Proofs.YtjmakbnblpjkhaaGreatDoor
open Go.RowKit Go
variable [GC]
def txtR (x : List UInt8) : List D := [.str (bs x)]
def txtS (l : List (List UInt8)) : D := .sl (l.map txtR)
theorem ty_txtS {e : Nat} (h : tbl.tab e = [.str]) (l : List (List UInt8)) : HasVT tbl.tab (.one (.c (.sl e))) (txtS l) := by
 show RowsTy tbl.tab (tbl.tab e) (l.map txtR)
 rw [h]
 refine RowsTy.of fun r hr => ?_
 obtain ⟨x, _, rfl⟩ := List.mem_map.1 hr
 exact ⟨trivial, trivial⟩
@[simp] theorem txtS_toR (l : List (List UInt8)) : (txtS l).toR = l.map txtR := rfl
@[simp] theorem txtS_len (l : List (List UInt8)) : lenD (txtS l) = l.length := by simp [txtS, lenD]
theorem drop_take_cut (s : ByteArray) (a b : Nat) : s.extract a b = bs ((s.data.toList.drop a).take (b - a)) := by
 apply ByteArray.ext
 simp only [bs, ByteArray.data_extract]
 apply Array.ext'
 simp
theorem occ_iff {s : ByteArray} {sep : List UInt8} {i : Nat} (h : i + sep.length ≤ s.size) : decide (s.extract i (i + sep.length) = bs sep) = Lib.occAt s.data.toList sep i := by
 rw [drop_take_cut, Lib.occAt_iff_take _ _ _ (by rw [size_data]; exact h), Nat.add_sub_cancel_left]
 simp [Bool.beq_eq_decide_eq]
theorem occ_drop (s sep : List UInt8) (a j : Nat) : Lib.occAt (s.drop a) sep j = Lib.occAt s sep (a + j) := by
 unfold Lib.occAt
 rw [List.drop_drop]
theorem c_spec_SplitAt (s : ByteArray) (sep : List UInt8) (h0 : sep ≠ []) (h1 : sep.length ≤ 100) (hs : s.size < 4294967281) : FunR Tryz.prog 42 none [.str s, .str (bs sep)] (txtS (Lib.split s.data.toList sep)) [] [(0, 1)] := by
 have hpos : 0 < sep.length := List.length_pos_iff.2 h0
 refine FunR.ofV vc_spec_SplitAt_ok ty_spec_SplitAt_ok rt_spec_SplitAt_ok rfl ?_ (fun hfit => ?_)
 ·simp [ty_spec_SplitAt, HasTys, HasVT, HasV1, HasTy]
 unfold vc_spec_SplitAt
 refine den_loop (List (List UInt8) × Nat × Nat) (fun x => [txtS x.1, .int .i64 x.2.1, .int .i64 x.2.2])
  (fun x => x.1 ++ Lib.split (s.data.toList.drop x.2.1) sep = Lib.split s.data.toList sep ∧ x.2.1 ≤ x.2.2 ∧ x.2.2 ≤ s.size ∧ x.1.length ≤ x.2.1 ∧ ∀ j, x.2.1 ≤ j → j < x.2.2 → Lib.occAt s.data.toList sep j = false)
  (fun x => s.size - x.2.2) ([], 0, 0) ?_ rfl ⟨by simp, Nat.le_refl _, Nat.zero_le _, Nat.zero_le _, fun j a b => by simp only at b; omega⟩ ?_
 ·intro x y h
  simp at h
  have : x.2.2 = y.2.2 := by omega
  simp only [this]
 rintro ⟨out, fr, i⟩ ⟨q1, q2, q3, q4, q5⟩ _
 simp only at q1 q2 q3 q4 q5
 have hadd : arI .add .i64 (i : Int) (((bs sep).size : Nat) : Int) = ((i + sep.length : Nat) : Int) := by rw [ar_add (by rw [bs_size]; omega) (by rw [bs_size]; omega), bs_size]; omega
 have hne : cmpS .neq (bs sep) ⟨#[]⟩ = true := by
  simp only [cmpS_neq]
  rw [show (⟨#[]⟩ : ByteArray) = bs [] from rfl]
  simp [h0]
 refine den_ite (fun h => ?_) (fun h => ?_)
 ·simp only [E.den, List.cons_append, List.nil_append, List.getD_cons_zero, List.getD_cons_succ, D.toB_bool, D.toS_str, D.toI_int, len_str, hne, hadd, cmpI_leq, Bool.true_and, decide_eq_true_eq] at h
  have hle : i + sep.length ≤ s.size := by omega
  refine den_cond (fun _ => ?_) ?_
  ·simp only [E.den, List.cons_append, List.nil_append, List.getD_cons_zero, List.getD_cons_succ, D.toI_int, len_str, hadd]
   simp; omega
  refine den_ite (fun h2 => ?_) (fun h2 => ?_)
  ·simp only [E.den, List.cons_append, List.nil_append, List.getD_cons_zero, List.getD_cons_succ, D.toB_bool, D.toS_str, D.toI_int, len_str, hadd, cutD, Int.toNat_natCast, cmpS_eql, occ_iff hle] at h2
   have hix : Lib.index (s.data.toList.drop fr) sep = ((i - fr : Nat) : Int) := by
    refine Lib.index_first (by rw [List.length_drop, size_data]; omega) ?_ (fun j hj => ?_)
    ·rw [occ_drop, show fr + (i - fr) = i by omega]; exact h2
    ·rw [occ_drop]; exact q5 _ (by omega) (by omega)
   refine den_cond (fun _ => ?_) ?_
   ·simp only [E.den, dEq, iEq, sEq]; simp; omega
   refine den_cond (fun _ => ?_) ?_
   ·simp only [E.den, dEq, iEq, sEq]; simp; omega
   refine den_again (out ++ [(s.data.toList.drop fr).take (i - fr)], i + sep.length, i + sep.length) ?_ ⟨?_, Nat.le_refl _, hle, ?_, fun j a b => by simp only at a b; omega⟩ ?_
   ·simp only [E.den, List.cons_append, List.nil_append, List.getD_cons_zero, List.getD_cons_succ, D.toS_str, D.toI_int, len_str, hadd, cutD, Int.toNat_natCast, List.map_cons, List.map_nil, drop_take_cut]
    simp [txtS, txtR]
   ·simp only
    rw [← q1, split_hit h0 hix, List.drop_drop, show fr + (i - fr + sep.length) = i + sep.length by omega]
    simp
   ·simp; omega
   ·simp only; omega
  ·simp only [E.den, List.cons_append, List.nil_append, List.getD_cons_zero, List.getD_cons_succ, D.toB_bool, D.toS_str, D.toI_int, len_str, hadd, cutD, Int.toNat_natCast, cmpS_eql, occ_iff hle] at h2
   refine den_again (out, fr, i + 1) ?_ ⟨q1, by simp only; omega, by simp only; omega, q4, fun j a b => ?_⟩ ?_
   ·simp only [E.den, dEq, iEq, sEq]
    rw [ar_add (by omega) (by omega)]; rfl
   ·simp only at a b
    by_cases e : j = i
    ·rw [e]; exact h2
    ·exact q5 j a (by omega)
   ·simp only; omega
 ·simp only [E.den, List.cons_append, List.nil_append, List.getD_cons_zero, List.getD_cons_succ, D.toB_bool, D.toS_str, D.toI_int, len_str, hne, hadd, cmpI_leq, Bool.true_and, decide_eq_false_iff_not] at h
  have hix : Lib.index (s.data.toList.drop fr) sep = -1 := by
   refine Lib.index_none fun j hj => ?_
   rw [occ_drop]
   rcases Nat.lt_or_ge (fr + j) i with hlt | hge
   ·exact q5 _ (by omega) hlt
   ·cases ho : Lib.occAt s.data.toList sep (fr + j) with
    | false => rfl
    | true =>
     rcases Lib.occAt_room ho with h3 | h3
     ·rw [size_data] at h3; omega
     ·exact absurd h3 h0
  refine den_cond (fun _ => ?_) ?_
  ·simp only [E.den, dEq, iEq, sEq]; simp; omega
  refine den_cond (fun _ => ?_) (den_ret ?_)
  ·simp only [E.den, dEq, iEq, sEq]; simp; omega
  ·simp only [E.den, List.cons_append, List.nil_append, List.getD_cons_zero, List.getD_cons_succ, D.toS_str, D.toI_int, len_str, cutD, Int.toNat_natCast, drop_take_cut]
   rw [← q1, split_miss hix, show s.size - fr = (s.data.toList.drop fr).length by rw [List.length_drop, size_data], List.take_length]
   simp [txtS, txtR]
/-! Versions, read -/
theorem len_two {α : Type} {l : List α} (h : l.length = 2) : ∃ a b, l = [a, b] := match l, h with | [a, b], _ => ⟨a, b, rfl⟩
theorem one_toNat : (1 : Int).toNat = 1 := rfl
theorem no_dot {n : Nat} (h : n < 1000) : (46 : UInt8) ∉ dig3 n := by
 intro hm
 have := List.all_eq_true.1 (dig3_dig h) _ hm
 simp [isDig] at this
def pvA (s : ByteArray) : ByteArray := bs (Lib.cut s.data.toList [46]).1
def pvZ (s : ByteArray) : ByteArray := bs (Lib.cut s.data.toList [46]).2.1
def pvI (s : ByteArray) : Ver := ⟨numI (pvA s), numI (pvZ s)⟩
def pvB (s : ByteArray) : Bool := ((Lib.cut s.data.toList [46]).2.2 && numK (pvA s) && numK (pvZ s)) && (pvI s).ok
def pvV (s : ByteArray) : Ver := if pvB s then pvI s else ⟨0, 0⟩
def pvD (s : ByteArray) : D := .tup [enc (pvV s), .bool (pvB s)]
theorem pv_of {v : Ver} (h : v.ok = true) : pvB (verS v) = true ∧ pvV (verS v) = v := by
 obtain ⟨a, b, ha, hb, rfl⟩ := Ver.nats h
 have hc : Lib.cut (verS ⟨a, b⟩).data.toList [46] = (dig3 a, dig3 b, true) := by
  rw [verS, if_pos h, bs_toList]
  exact cut_app (t := []) (rest := dig3 b) (no_dot (n := a) (by omega))
 have hA : pvA (verS ⟨a, b⟩) = bs (dig3 a) := by unfold pvA; rw [hc]
 have hZ : pvZ (verS ⟨a, b⟩) = bs (dig3 b) := by unfold pvZ; rw [hc]
 have hI : pvI (verS ⟨a, b⟩) = ⟨a, b⟩ := by unfold pvI; rw [hA, hZ, numI_dig (n := a) (by omega), numI_dig (n := b) (by omega)]
 have hB : pvB (verS ⟨a, b⟩) = true := by
  unfold pvB
  rw [hc, hA, hZ, hI, numK_dig (n := a) (by omega), numK_dig (n := b) (by omega), h]; rfl
 exact ⟨hB, by unfold pvV; rw [if_pos hB, hI]⟩
theorem pv_back {s : ByteArray} (h : pvB s = true) : (pvV s).ok = true ∧ verS (pvV s) = s := by
 have hV : pvV s = pvI s := by unfold pvV; rw [if_pos h]
 unfold pvB at h
 simp only [Bool.and_eq_true] at h
 obtain ⟨⟨⟨h1, h2⟩, h3⟩, h4⟩ := h
 obtain ⟨a, ha, ea, ia⟩ := numK_true h2
 obtain ⟨b, hb, eb, ib⟩ := numK_true h3
 rw [hV]
 refine ⟨h4, ?_⟩
 rw [verS, if_pos h4]
 have hs := cut_back h1
 have e1 := bs_inj ea
 have e2 := bs_inj eb
 rw [e1, e2] at hs
 have e : verL (pvI s) = s.data.toList := by
  rw [hs]
  simp [verL, pvI, ia, ib]
 rw [e, bs_data]
theorem ty_pvD (s : ByteArray) : HasVT tbl.tab (.tup [.agg [.int .i64, .int .i64], .c .bool]) (pvD s) := ⟨ty_Ver _, trivial, trivial⟩
theorem c_impl_ParseVersion [HasMax] [HasPow] [HasErr] (s : ByteArray) (hs : s.size < 4294967281) : Fun Tryz.prog 58 none [.str s] (pvD s) [] := by
 refine Fun.ofV vc_impl_ParseVersion_ok ty_impl_ParseVersion_ok rfl ?_ (fun hfit => ?_)
 ·simp [ty_impl_ParseVersion, HasTys, HasVT, HasV1, HasTy]
 unfold vc_impl_ParseVersion
 ((first | refine den_call ?_ (c_Cut s [46] hs) (⟨trivial, trivial, trivial, trivial⟩) ?_ | refine den_callR ?_ (c_Cut s [46] hs) (⟨trivial, trivial, trivial, trivial⟩) ?_ | refine den_call ?_ (.ofR (c_Cut s [46] hs)) (⟨trivial, trivial, trivial, trivial⟩) ?_); (focus (simp only [VC.den, E.den, dEq, gsH_nil, and_true]; try exact rfl)); (simp only [cA]))
 ((first | refine den_call ?_ (c_impl_ParseNumber (pvA s)) (ty_numD _) ?_ | refine den_callR ?_ (c_impl_ParseNumber (pvA s)) (ty_numD _) ?_ | refine den_call ?_ (.ofR (c_impl_ParseNumber (pvA s))) (ty_numD _) ?_); (focus (simp only [VC.den, E.den, dEq, gsH_nil, and_true, cutD3]; try exact rfl)); (simp only [cA]))
 ((first | refine den_call ?_ (c_impl_ParseNumber (pvZ s)) (ty_numD _) ?_ | refine den_callR ?_ (c_impl_ParseNumber (pvZ s)) (ty_numD _) ?_ | refine den_call ?_ (.ofR (c_impl_ParseNumber (pvZ s))) (ty_numD _) ?_); (focus (simp only [VC.den, E.den, dEq, gsH_nil, and_true, cutD3]; try exact rfl)); (simp only [cA]))
 ((first | refine den_call ?_ (c_impl_IsVersion (pvI s)) (trivial) ?_ | refine den_callR ?_ (c_impl_IsVersion (pvI s)) (trivial) ?_ | refine den_call ?_ (.ofR (c_impl_IsVersion (pvI s))) (trivial) ?_); (focus (simp only [VC.den, E.den, dEq, gsH_nil, and_true, numD]; try exact rfl)); (simp only [cA]))
 refine den_ite (fun h => den_ret ?_) (fun h => den_ret ?_)
 ·simp only [E.den, dEq, iEq, sEq, cutD3, numD] at h ⊢
  have hB : pvB s = false := by
   unfold pvB
   grind
  rw [pvD, pvV, hB]
  rfl
 ·simp only [E.den, dEq, iEq, sEq, cutD3, numD] at h ⊢
  have hB : pvB s = true := by
   unfold pvB
   grind
  rw [pvD, pvV, hB]
  rfl
theorem c_spec_ParseVersion (s : ByteArray) (hs : s.size < 4294967281) : Fun Tryz.prog 55 none [.str s] (pvD s) [] := by
 refine Fun.ofV vc_spec_ParseVersion_ok ty_spec_ParseVersion_ok rfl ?_ (fun hfit => ?_)
 ·simp [ty_spec_ParseVersion, HasTys, HasVT, HasV1, HasTy]
 unfold vc_spec_ParseVersion
 ((first | refine den_call ?_ (c_spec_SplitAt s [46] (by simp) (by simp) hs) (ty_txtS rfl _) ?_ | refine den_callR ?_ (c_spec_SplitAt s [46] (by simp) (by simp) hs) (ty_txtS rfl _) ?_ | refine den_call ?_ (.ofR (c_spec_SplitAt s [46] (by simp) (by simp) hs)) (ty_txtS rfl _) ?_); (focus (simp only [VC.den, E.den, dEq, gsH_nil, and_true]; try exact rfl)); (simp only [cA]))
 have hz : pvB s = false → D.tup ([] ++ [.agg ([.int .i64 0] ++ ([.int .i64 0] ++ []))] ++ [.bool false]) = pvD s := fun h => by rw [pvD, pvV, h]; rfl
 have hyes : pvB s = true → Lib.split s.data.toList [46] = [(dig3 (pvV s).maj.toNat), (dig3 (pvV s).min.toNat)] ∧ numI (bs (dig3 (pvV s).maj.toNat)) = (pvV s).maj ∧ numI (bs (dig3 (pvV s).min.toNat)) = (pvV s).min := fun h => by
  obtain ⟨h1, h2⟩ := pv_back h
  generalize pvV s = v at h1 h2
  obtain ⟨a, b, ha, hb, rfl⟩ := Ver.nats h1
  rw [verS, if_pos h1] at h2
  rw [← h2, bs_toList]
  refine ⟨?_, numI_dig (n := a) (by omega), numI_dig (n := b) (by omega)⟩
  have hj := split_join (c := 46) (t := []) (l := [dig3 a, dig3 b]) (by simp) (fun x hx => by
   simp at hx; rcases hx with rfl | rfl
   ·exact no_dot (by omega)
   ·exact no_dot (by omega))
  have e : verL ⟨a, b⟩ = Lib.join [dig3 a, dig3 b] [46] := by simp [verL, Lib.join_cons, Lib.joinTail]
  rw [e, hj]
  simp
 refine den_ite (fun h => den_ret ?_) (fun h => ?_)
 ·simp only [E.den, dEq, iEq, sEq, txtS_len] at h ⊢
  refine hz ?_
  cases hb : pvB s with
  | false => rfl
  | true => rw [(hyes hb).1] at h; simp at h
 ·simp only [E.den, dEq, iEq, sEq, txtS_len] at h
  have hl : (Lib.split s.data.toList [46]).length = 2 := by simp at h; omega
  obtain ⟨p0, p1, hp⟩ := len_two hl
  refine den_cond (fun _ => ?_) ?_
  ·simp only [E.den, dEq, iEq, sEq, txtS_len]; simp [hl]
  ((first | refine den_call ?_ (c_spec_ParseNumber (bs p0)) (ty_numD _) ?_ | refine den_callR ?_ (c_spec_ParseNumber (bs p0)) (ty_numD _) ?_ | refine den_call ?_ (.ofR (c_spec_ParseNumber (bs p0))) (ty_numD _) ?_); (focus (simp only [VC.den, E.den, dEq, gsH_nil, and_true, txtS_toR, hp, txtR, List.getElem?_cons_zero, Int.toNat_zero, Option.getD_some]; try exact rfl)); (simp only [cA]))
  refine den_cond (fun _ => ?_) ?_
  ·simp only [E.den, dEq, iEq, sEq, txtS_len]; simp [hl]
  ((first | refine den_call ?_ (c_spec_ParseNumber (bs p1)) (ty_numD _) ?_ | refine den_callR ?_ (c_spec_ParseNumber (bs p1)) (ty_numD _) ?_ | refine den_call ?_ (.ofR (c_spec_ParseNumber (bs p1))) (ty_numD _) ?_); (focus (simp only [VC.den, E.den, dEq, gsH_nil, and_true, txtS_toR, hp, txtR, one_toNat, List.getElem?_cons_succ, List.getElem?_cons_zero, Option.getD_some]; try exact rfl)); (simp only [cA]))
  ((first | refine den_call ?_ (c_spec_FormatVersion ⟨numI (bs p0), numI (bs p1)⟩) (trivial) ?_ | refine den_callR ?_ (c_spec_FormatVersion ⟨numI (bs p0), numI (bs p1)⟩) (trivial) ?_ | refine den_call ?_ (.ofR (c_spec_FormatVersion ⟨numI (bs p0), numI (bs p1)⟩)) (trivial) ?_); (focus (simp only [VC.den, E.den, dEq, gsH_nil, and_true, numD]; try exact rfl)); (simp only [cA]))
  refine den_ite (fun h => den_ret ?_) (fun h => den_ret ?_)
  ·simp only [E.den, dEq, iEq, sEq, numD] at h ⊢
   refine hz ?_
   cases hb : pvB s with
   | false => rfl
   | true =>
    exfalso
    obtain ⟨q1, q2, q3⟩ := hyes hb
    rw [hp] at q1
    simp at q1
    obtain ⟨rfl, rfl⟩ := q1
    rw [q2, q3] at h
    have := (pv_back hb).2
    simp [this] at h
  ·simp only [E.den, dEq, iEq, sEq, numD] at h ⊢
   have hv : verS ⟨numI (bs p0), numI (bs p1)⟩ = s := by simpa using h
   have hok : (⟨numI (bs p0), numI (bs p1)⟩ : Ver).ok = true := by
    cases hk : (⟨numI (bs p0), numI (bs p1)⟩ : Ver).ok with
    | true => rfl
    | false =>
     rw [verS, hk] at hv
     simp only [Bool.false_eq_true, if_false] at hv
     rw [← hv, bs_toList] at hp
     have : Lib.split ([] : List UInt8) [46] = [[]] := rfl
     rw [this] at hp
     simp at hp
   obtain ⟨q1, q2⟩ := pv_of hok
   rw [hv] at q1 q2
   rw [pvD, q1, q2]
   rfl
end Go.Proofs.YtjmakbnblpjkhaaGreatDoor
/- Entries read from texts: what bytes stand in names, versions, faces, recipes; texts taken apart; what the readers give; contracts of the program's readers of faces, needs and entries. -/
namespace Go.Proofs.YtjmakbnblpjkhaaGreatDoor
open Go.RowKit Go
variable [GC]
/-! Bytes in names, versions, faces, recipes; entries' texts taken apart -/
def isLow (b : UInt8) : Bool := decide (97 ≤ b.toNat) && decide (b.toNat ≤ 122)
theorem mem_byte {s : ByteArray} {b : UInt8} (h : b ∈ s.data.toList) : ∃ k, k < s.size ∧ byteZ s k = (b.toNat : Int) := by
 obtain ⟨k, hk, e⟩ := List.getElem_of_mem h
 rw [size_data] at hk
 refine ⟨k, hk, ?_⟩
 unfold byteZ
 have : s[k]? = some b := by
  rw [getElem?_pos s k hk]
  congr 1
 rw [this]; rfl
theorem nameB_chr {s : ByteArray} (h : nameB s = true) {b : UInt8} (hb : b ∈ s.data.toList) : (97 ≤ b.toNat ∧ b.toNat ≤ 122) ∨ (48 ≤ b.toNat ∧ b.toNat ≤ 57) := by
 obtain ⟨k, hk, e⟩ := mem_byte hb
 unfold nameB at h
 simp only [Bool.and_eq_true] at h
 have := allTo_iff.1 h.2 k hk
 unfold letB at this
 rw [e] at this
 simp only [Bool.and_eq_true, Bool.or_eq_true, decide_eq_true_eq] at this
 omega
theorem nameB_no {s : ByteArray} (h : nameB s = true) {c : UInt8} (hc : c.toNat < 48 ∨ 57 < c.toNat ∧ c.toNat < 97) : c ∉ s.data.toList := fun hb => by
 have := nameB_chr h hb
 omega
theorem verS_no (v : Ver) {c : UInt8} (hc : c.toNat < 46 ∨ 57 < c.toNat) : c ∉ (verS v).data.toList := by
 unfold verS
 split
 ·rename_i h
  obtain ⟨a, b, ha, hb, rfl⟩ := Ver.nats h
  rw [bs_toList]
  unfold verL
  intro hm
  simp only [List.mem_append, List.mem_cons] at hm
  have dg : ∀ n, n < 1000 → c ∈ dig3 n → False := fun n hn hm => by
   have := List.all_eq_true.1 (dig3_dig hn) _ hm
   simp [isDig] at this
   omega
  rcases hm with hm | hm | hm
  ·exact dg _ (by simp; omega) hm
  ·subst hm; simp at hc
  ·exact dg _ (by simp; omega) hm
 ·rw [bs_toList]; simp
theorem faceT_all : ∀ n : Fin 64, (faceT n.val).data.toList.all (fun b => b == 43 || isLow b) = true := by decide +kernel
theorem faceS_no (f : Int) {c : UInt8} (h1 : c.toNat ≠ 43) (h2 : c.toNat < 97 ∨ 122 < c.toNat) : c ∉ (faceS f).data.toList := by
 unfold faceS
 split
 ·rename_i h
  obtain ⟨n, rfl, hn⟩ := isFaceB_nat h
  intro hm
  have := List.all_eq_true.1 (faceT_all ⟨n, hn⟩) c hm
  simp [isLow] at this
  rcases this with e | e
  ·subst e; simp at h1
  ·omega
 ·simp
theorem kindOk_low {s : ByteArray} (h : kindOk s = true) : s.data.toList.all isLow = true := by
 unfold kindOk kindAt at h
 repeat' split at h
 all_goals first
  | (rename_i e; rw [e]; decide)
  | simp at h
theorem layOk_low {s : ByteArray} (h : layOk s = true) : s.data.toList.all isLow = true := by
 unfold layOk layAt at h
 repeat' split at h
 all_goals first
  | (rename_i e; rw [e]; decide)
  | simp at h
theorem recOk_parts {l : List ByteArray} (h : recOk l = true) : l ≠ [] ∧ ∀ s ∈ l, s.data.toList.all isLow = true := by
 unfold recOk makeP at h
 split at h
 ·simp [rep] at h
 rename_i h0
 have hk0 : kindOk (nth l 0) = true := by grind
 have hne : l ≠ [] := fun e => h0 (.inl (by rw [e]; rfl))
 split at h
 ·rename_i k hk
  have h1 : ∀ {n : Nat} {p : Nat → Bool}, firstTo p n = some k → p k = true := by
   intro n
   induction n with
   | zero => intro p h; simp [firstTo] at h
   | succ n ih =>
    intro p h
    simp only [firstTo] at h
    split at h
    ·rename_i j hj
     cases h; exact ih hj
    ·split at h
     ·cases h; assumption
     ·cases h
  have := h1 hk
  grind
 rename_i hn
 have hw : ∀ k, k < l.length - 1 → (wrapR l k).code = 0 := fun k hk => by simpa using firstTo_nil hn k hk
 refine ⟨hne, fun s hs => ?_⟩
 obtain ⟨k, hk, rfl⟩ := List.getElem_of_mem hs
 have e : l[k] = nth l k := by simp [nth, hk]
 rw [e]
 cases k with
 | zero => exact kindOk_low hk0
 | succ k => exact layOk_low (wrapP_ok (hw k (by omega))).1
theorem rec_no {l : List ByteArray} (h : recOk l = true) {c : UInt8} (hc : c.toNat < 97 ∨ 122 < c.toNat) : ∀ x ∈ l.map (·.data.toList), c ∉ x := fun x hx hm => by
 obtain ⟨s, hs, rfl⟩ := List.mem_map.1 hx
 have := List.all_eq_true.1 ((recOk_parts h).2 s hs) c hm
 simp [isLow] at this
 omega
theorem join_no {c : UInt8} {sep : List UInt8} (hs : c ∉ sep) : ∀ {l : List (List UInt8)}, (∀ x ∈ l, c ∉ x) → c ∉ Lib.join l sep
 | [], _ => by simp [Lib.join_nil]
 | x :: r, h => by
  rw [Lib.join_cons]
  unfold Lib.joinTail
  intro hm
  rcases List.mem_append.1 hm with hm | hm
  ·exact h x (by simp) hm
  ·rw [List.mem_flatten] at hm
   obtain ⟨y, hy, hc⟩ := hm
   obtain ⟨z, hz, rfl⟩ := List.mem_map.1 hy
   rcases List.mem_append.1 hc with hc | hc
   ·exact hs hc
   ·exact h z (by simp [hz]) hc
theorem needT_no {n : Need} (h : needB n = true) {c : UInt8} (h1 : c.toNat = 44 ∨ c.toNat = 59 ∨ c.toNat = 58) : c ∉ (needT n).data.toList := by
 have hf : c ∉ (faceS n.face).data.toList := faceS_no _ (by omega) (by omega)
 have hv : c ∉ (verS n.least).data.toList := verS_no _ (by omega)
 have hs : c ∉ tSp.data.toList := by
  intro hm
  simp [tSp] at hm
  subst hm; simp at h1
 have ho : c ∉ tOf.data.toList := by
  intro hm
  simp [tOf] at hm
  rcases hm with rfl | rfl | rfl | rfl <;> simp at h1
 unfold needT
 split
 ·simp only [ByteArray.data_append, Array.toList_append, List.mem_append, not_or]
  exact ⟨⟨hf, hs⟩, hv⟩
 ·rename_i hne
  have hn : nameB n.frm = true := by
   unfold needB at h
   simp only [Bool.and_eq_true, Bool.or_eq_true, decide_eq_true_eq] at h
   rcases h.1.2 with h2 | h2
   ·exact absurd h2 hne
   ·exact h2
  have hk : c ∉ n.frm.data.toList := nameB_no hn (by omega)
  simp only [ByteArray.data_append, Array.toList_append, List.mem_append, not_or]
  exact ⟨⟨⟨⟨hf, ho⟩, hk⟩, hs⟩, hv⟩
def restP (e : Entry) : List (List UInt8) :=
 [(joinB e.recipe tSp).data.toList, (verS e.ver).data.toList] ++ if e.needs = [] then [] else [(joinB (e.needs.map needT) tCom).data.toList]
theorem entT_list {e : Entry} (h : entryB e = true) : (entT e).data.toList = e.name.data.toList ++ ([58, 32] ++ Lib.join (restP e) [59, 32]) := by
 unfold entT restP
 rw [if_pos h]
 split
 ·simp [ByteArray.data_append, Lib.join_cons, Lib.joinTail, tCol, tSemi]
 ·simp [ByteArray.data_append, Lib.join_cons, Lib.joinTail, tCol, tSemi]
theorem entryB_needB {e : Entry} (h : entryB e = true) : ∀ n ∈ e.needs, needB n = true := fun n hn => by
 obtain ⟨k, hk, rfl⟩ := List.getElem_of_mem hn
 unfold entryB at h
 simp only [Bool.and_eq_true] at h
 have := allTo_iff.1 h.2 k hk
 unfold needAt at this
 simp only [Bool.and_eq_true] at this
 have e1 : nth e.needs k = e.needs[k] := by simp [nth, hk]
 rw [e1] at this
 exact this.1
theorem restP_no {e : Entry} (h : entryB e = true) : ∀ x ∈ restP e, (59 : UInt8) ∉ x := by
 have h1 : (59 : UInt8) ∉ (joinB e.recipe tSp).data.toList := by
  show _ ∉ (bs _).data.toList
  rw [bs_toList]
  exact join_no (by decide) (rec_no (entryB_rec h) (by decide))
 have h2 : (59 : UInt8) ∉ (verS e.ver).data.toList := verS_no _ (by decide)
 have h3 : (59 : UInt8) ∉ (joinB (e.needs.map needT) tCom).data.toList := by
  show _ ∉ (bs _).data.toList
  rw [bs_toList]
  refine join_no (by decide) fun x hx => ?_
  obtain ⟨s, hs, rfl⟩ := List.mem_map.1 hx
  obtain ⟨n, hn, rfl⟩ := List.mem_map.1 hs
  exact needT_no (entryB_needB h n hn) (by decide)
 intro x hx
 unfold restP at hx
 split at hx
 ·simp at hx
  rcases hx with rfl | rfl
  ·exact h1
  ·exact h2
 ·simp at hx
  rcases hx with rfl | rfl | rfl
  ·exact h1
  ·exact h2
  ·exact h3
theorem ent_cut {e : Entry} (h : entryB e = true) : Lib.cut (entT e).data.toList [58, 32] = (e.name.data.toList, Lib.join (restP e) [59, 32], true) := by
 have hn : nameB e.name = true := by
  unfold entryB at h
  simp only [Bool.and_eq_true] at h
  grind
 rw [entT_list h]
 exact cut_app (c := 58) (t := [32]) (nameB_no hn (by decide))
theorem ent_split {e : Entry} (h : entryB e = true) : Lib.split (Lib.join (restP e) [59, 32]) [59, 32] = restP e :=
 split_join (c := 59) (t := [32]) (by unfold restP; simp) (restP_no h)
theorem rec_split {l : List ByteArray} (h : recOk l = true) : Lib.split (joinB l tSp).data.toList [32] = l.map (·.data.toList) := by
 have : (joinB l tSp).data.toList = Lib.join (l.map (·.data.toList)) [32] := bs_toList _
 rw [this]
 exact split_join (c := 32) (t := []) (by simpa using (recOk_parts h).1) (rec_no h (by decide))
theorem needs_split {e : Entry} (h : entryB e = true) (h0 : e.needs ≠ []) : Lib.split (joinB (e.needs.map needT) tCom).data.toList [44, 32] = (e.needs.map needT).map (·.data.toList) := by
 have : (joinB (e.needs.map needT) tCom).data.toList = Lib.join ((e.needs.map needT).map (·.data.toList)) [44, 32] := bs_toList _
 rw [this]
 refine split_join (c := 44) (t := [32]) (by simpa using h0) fun x hx => ?_
 obtain ⟨s, hs, rfl⟩ := List.mem_map.1 hx
 obtain ⟨n, hn, rfl⟩ := List.mem_map.1 hs
 exact needT_no (entryB_needB h n hn) (by decide)
/-! Needs' texts taken apart; what the readers give -/
def pfO (s : ByteArray) : Option Nat := firstTo (fun n => decide (faceT n = s)) 64
def pfI (s : ByteArray) : Int := match pfO s with | some n => n | none => 0
def pfB (s : ByteArray) : Bool := (pfO s).isSome
theorem faceT_inj : ∀ a b : Fin 64, faceT a.val = faceT b.val → a = b := by decide +kernel
theorem pf_face {f : Int} (h : isFaceB f = true) : pfI (faceS f) = f ∧ pfB (faceS f) = true := by
 obtain ⟨n, rfl, hn⟩ := isFaceB_nat h
 have e : faceS (n : Int) = faceT n := by rw [faceS, if_pos h, Int.toNat_natCast]
 have : pfO (faceT n) = some n := firstTo_some (p := fun k => decide (faceT k = faceT n)) (by simp) (fun i hi => by
  have hne : faceT i ≠ faceT n := fun e => by
   have := faceT_inj ⟨i, by omega⟩ ⟨n, hn⟩ e
   simp at this
   omega
  simpa using hne) hn
 rw [e]
 unfold pfI pfB
 rw [this]
 exact ⟨rfl, rfl⟩
def needP (n : Need) : List ByteArray := if n.frm = noText then [faceS n.face, verS n.least] else [faceS n.face, ⟨#[111, 102]⟩, n.frm, verS n.least]
theorem need_pieces {n : Need} (h : needB n = true) : pieces (needT n) tSp = needP n := by
 have hf : (32 : UInt8) ∉ (faceS n.face).data.toList := faceS_no _ (by decide) (by decide)
 have hv : (32 : UInt8) ∉ (verS n.least).data.toList := verS_no _ (by decide)
 have e : (needT n).data.toList = Lib.join ((needP n).map (·.data.toList)) [32] := by
  unfold needT needP
  split
  ·simp [ByteArray.data_append, Lib.join_cons, Lib.joinTail, tSp]
  ·simp [ByteArray.data_append, Lib.join_cons, Lib.joinTail, tSp, tOf]
 unfold pieces
 rw [e, show tSp.data.toList = [32] from rfl, split_join (c := 32) (t := []) (by unfold needP; split <;> simp) ?_, map_bs]
 intro x hx
 unfold needP at hx
 split at hx
 ·simp at hx
  rcases hx with rfl | rfl
  ·exact hf
  ·exact hv
 ·rename_i hne
  have hn : nameB n.frm = true := by
   unfold needB at h
   simp only [Bool.and_eq_true, Bool.or_eq_true, decide_eq_true_eq] at h
   rcases h.1.2 with h2 | h2
   ·exact absurd h2 hne
   ·exact h2
  simp at hx
  rcases hx with rfl | rfl | rfl | rfl
  ·exact hf
  ·decide
  ·exact nameB_no hn (by decide)
  ·exact hv
def noNeed : Need := ⟨0, noText, ⟨0, 0⟩⟩
def pnV (s : ByteArray) : Need × Bool :=
 if (pieces s tSp).length = 4 ∧ nth (pieces s tSp) 1 = ⟨#[111, 102]⟩ then (⟨pfI (nth (pieces s tSp) 0), nth (pieces s tSp) 2, pvV (nth (pieces s tSp) ((pieces s tSp).length - 1))⟩, pfB (nth (pieces s tSp) 0) && pvB (nth (pieces s tSp) ((pieces s tSp).length - 1)))
 else if (pieces s tSp).length ≠ 2 then (noNeed, false)
 else (⟨pfI (nth (pieces s tSp) 0), noText, pvV (nth (pieces s tSp) ((pieces s tSp).length - 1))⟩, pfB (nth (pieces s tSp) 0) && pvB (nth (pieces s tSp) ((pieces s tSp).length - 1)))
theorem pn_need {n : Need} (h : needB n = true) : pnV (needT n) = (n, true) := by
 have hp := need_pieces h
 have hv : n.least.ok = true := by
  unfold needB at h
  simp only [Bool.and_eq_true] at h
  exact h.2
 have hf : isFaceB n.face = true := by
  unfold needB at h
  simp only [Bool.and_eq_true] at h
  exact h.1.1.1
 obtain ⟨f1, f2⟩ := pf_face hf
 obtain ⟨v1, v2⟩ := pv_of hv
 unfold pnV
 rw [hp]
 unfold needP
 split
 ·rename_i h0
  rw [if_neg (by simp), if_neg (by simp)]
  simp only [nth, List.length_cons, List.length_nil, List.getD_cons_zero, List.getD_cons_succ]
  simp [f1, f2, v1, v2]
  cases n
  simp_all
 ·rename_i h0
  rw [if_pos ⟨rfl, rfl⟩]
  simp only [nth, List.length_cons, List.length_nil, List.getD_cons_zero, List.getD_cons_succ]
  simp [f1, f2, v1, v2]
/-! Entries -/
def peN (s : ByteArray) : ByteArray := bs (Lib.cut s.data.toList [58, 32]).1
def peQ (s : ByteArray) : List ByteArray := pieces (bs (Lib.cut s.data.toList [58, 32]).2.1) tSemi
def peW (s : ByteArray) : List ByteArray := if (peQ s).length = 3 then pieces (nth (peQ s) 2) tCom else []
def peE (s : ByteArray) : Entry := ⟨peN s, pieces (nth (peQ s) 0) tSp, pvV (nth (peQ s) 1), (peW s).map fun x => (pnV x).1⟩
def peB (s : ByteArray) : Bool :=
 (Lib.cut s.data.toList [58, 32]).2.2 && decide (2 ≤ (peQ s).length) && decide ((peQ s).length ≤ 3) && pvB (nth (peQ s) 1) && (peW s).all (fun x => (pnV x).2) && entryB (peE s) && decide (entT (peE s) = s)
theorem pe_of {e : Entry} (h : entryB e = true) : peE (entT e) = e ∧ peB (entT e) = true := by
 have hc := ent_cut h
 have hv : e.ver.ok = true := by
  unfold entryB at h
  simp only [Bool.and_eq_true] at h
  grind
 obtain ⟨v1, v2⟩ := pv_of hv
 have hN : peN (entT e) = e.name := by unfold peN; rw [hc, bs_of]
 have hQ : peQ (entT e) = (restP e).map bs := by
  unfold peQ pieces
  rw [hc, bs_toList]
  show (Lib.split _ [59, 32]).map bs = _
  rw [ent_split h]
 have h0 : nth (peQ (entT e)) 0 = joinB e.recipe tSp := by
  rw [hQ]; unfold restP nth
  simp [bs_of]
 have h1 : nth (peQ (entT e)) 1 = verS e.ver := by
  rw [hQ]; unfold restP nth
  simp [bs_of]
 have hR : pieces (joinB e.recipe tSp) tSp = e.recipe := by
  unfold pieces
  show (Lib.split _ [32]).map bs = _
  rw [rec_split (entryB_rec h), map_bs]
 have hW : peW (entT e) = e.needs.map needT := by
  unfold peW
  by_cases hn : e.needs = []
  ·rw [if_neg (by rw [hQ]; unfold restP; simp [hn])]
   simp [hn]
  ·have h2 : nth (peQ (entT e)) 2 = joinB (e.needs.map needT) tCom := by
    rw [hQ]; unfold restP nth
    simp [bs_of, hn]
   rw [if_pos (by rw [hQ]; unfold restP; simp [hn]), h2]
   unfold pieces
   show (Lib.split _ [44, 32]).map bs = _
   rw [needs_split h hn, map_bs]
 have hm : (peW (entT e)).map (fun x => (pnV x).1) = e.needs := by
  rw [hW, List.map_map]
  conv => rhs; rw [← List.map_id e.needs]
  exact List.map_congr_left fun n hn => by simp [pn_need (entryB_needB h n hn)]
 have hE : peE (entT e) = e := by
  unfold peE
  rw [hN, h0, h1, hR, v2, hm]
 refine ⟨hE, ?_⟩
 have hl : (peQ (entT e)).length = 2 ∨ (peQ (entT e)).length = 3 := by
  rw [hQ]; unfold restP
  split <;> simp
 unfold peB
 rw [hE, h1, v1, h, hc]
 have ha : (peW (entT e)).all (fun x => (pnV x).2) = true := by
  rw [hW, List.all_map, List.all_eq_true]
  intro n hn
  simp [pn_need (entryB_needB h n hn)]
 rw [ha]
 simp
 omega
theorem pe_back {s : ByteArray} (h : peB s = true) : entryB (peE s) = true ∧ entT (peE s) = s := by
 unfold peB at h
 simp only [Bool.and_eq_true, decide_eq_true_eq] at h
 exact ⟨h.1.2, h.2⟩
/-! Contracts: readers of faces and needs -/
theorem c_impl_ParseFace [HasAbil] (s : ByteArray) : Fun Tryz.prog 110 none [.str s] (.tup [.int .i64 (pfI s), .bool (pfB s)]) [] := by
 refine Fun.ofV vc_impl_ParseFace_ok ty_impl_ParseFace_ok rfl ?_ (fun hfit => ?_)
 ·exact ⟨trivial, trivial⟩
 unfold vc_impl_ParseFace
 refine den_for 64 (fun k => [.int .i64 k]) (fun k => ∀ i, i < k → decide (faceT i = s) = false) rfl (by omega) ?_
 intro k hk hI _
 simp only [cA]
 refine den_ite (fun h2 => ?_) (fun h2 => ?_)
 ·simp only [E.den, dEq, iEq, sEq] at h2
  have h2 : k < 64 := by simp at h2; omega
  ((first | refine den_call ?_ (c_impl_FormatFace k) (trivial) ?_ | refine den_callR ?_ (c_impl_FormatFace k) (trivial) ?_ | refine den_call ?_ (.ofR (c_impl_FormatFace k)) (trivial) ?_); (focus (simp only [VC.den, E.den, dEq, gsH_nil, and_true]; try exact rfl)); (simp only [cA]))
  have e : faceS (k : Int) = faceT k := by rw [faceS, if_pos (by simp [isFaceB]; omega), Int.toNat_natCast]
  refine den_ite (fun h3 => ?_) (fun h3 => ?_)
  ·simp only [E.den, dEq, iEq, sEq, e] at h3
   refine den_ret ?_
   have : pfO s = some k := by unfold pfO; exact firstTo_some (p := fun n => decide (faceT n = s)) (n := 64) h3 hI h2
   have e1 : pfI s = k := by unfold pfI; rw [this]
   have e2 : pfB s = true := by unfold pfB; rw [this]; rfl
   rw [e1, e2]; rfl
  ·simp only [E.den, dEq, iEq, sEq, e] at h3
   refine den_next h2 ?_ fun i hi => ?_
   ·simp only [E.den, dEq, iEq, sEq]
    rw [ar_add (by omega) (by omega)]; rfl
   ·rcases Nat.lt_or_ge i k with h | h
    ·exact hI i h
    ·obtain rfl : i = k := by omega
     exact h3
 ·simp only [E.den, dEq, iEq, sEq] at h2
  obtain rfl : k = 64 := by simp at h2; omega
  have : pfO s = none := by unfold pfO; exact firstTo_none hI
  have e1 : pfI s = 0 := by unfold pfI; rw [this]
  have e2 : pfB s = false := by unfold pfB; rw [this]; rfl
  refine den_ret ?_
  rw [e1, e2]; rfl
theorem c_impl_parseNeed [HasAbil] [HasMax] [HasPow] [HasErr] (s : ByteArray) (hs : s.size < 4294967281) : Fun Tryz.prog 59 none [.str s] (.tup [enc (pnV s).1, .bool (pnV s).2]) [] := by
 refine Fun.ofV vc_impl_parseNeed_ok ty_impl_parseNeed_ok rfl ?_ (fun hfit => ?_)
 ·exact ⟨trivial, trivial⟩
 unfold vc_impl_parseNeed
 ((first | refine den_call ?_ (cR_Split s tSp hs (by decide)) (ty_strS _) ?_ | refine den_callR ?_ (cR_Split s tSp hs (by decide)) (ty_strS _) ?_ | refine den_call ?_ (.ofR (cR_Split s tSp hs (by decide))) (ty_strS _) ?_); (focus (simp only [VC.den, E.den, dEq, gsH_nil, and_true, tSp_eq]; try exact rfl)); (simp only [cA]))
 have hz := (pieces_size (s := s) (sep := tSp) (by decide)).1
 have hp : ∀ k, k < (pieces s tSp).length → (nth (pieces s tSp) k).size < 4294967281 := fun k hk => by
  have := piece_size (s := s) (sep := tSp) (by decide) hk
  omega
 unfold pnV
 generalize pieces s tSp = p at hz hp ⊢
 have ha : arI .sub .i64 (p.length : Int) 1 = (p.length : Int) - 1 := by rw [ar_sub (by omega) (by omega)]
 (refine den_cond (fun hg => ?_) ?_; (focus (simp only [gsH, gE, E.den, dEq, iEq, sEq] at hg ⊢; (try simp only [D.bool.injEq] at hg); (try simp only [D.bool.injEq]); grind)))
 refine den_ite (fun h2 => ?_) (fun h2 => ?_)
 ·simp only [E.den, dEq, iEq, sEq, row_str, cells_str] at h2
  simp only [Bool.and_eq_true, decide_eq_true_eq, beq_iff_eq] at h2
  have h4 : p.length = 4 := by omega
  have ht : (1 : Int).toNat = 1 := rfl
  rw [if_pos ⟨h4, h2.2⟩]
  refine den_cond (fun _ => ?_) ?_
  ·simp only [E.den, dEq, iEq, sEq]; simp; omega
  refine den_cond (fun _ => ?_) ?_
  ·simp only [E.den, dEq, iEq, sEq]; simp; omega
  ((first | refine den_call ?_ (c_impl_ParseFace (nth p 0)) (⟨rfl, trivial, trivial⟩) ?_ | refine den_callR ?_ (c_impl_ParseFace (nth p 0)) (⟨rfl, trivial, trivial⟩) ?_ | refine den_call ?_ (.ofR (c_impl_ParseFace (nth p 0))) (⟨rfl, trivial, trivial⟩) ?_); (focus (simp only [VC.den, E.den, dEq, gsH_nil, and_true, row_str, cells_str, Int.toNat_zero]; try exact rfl)); (simp only [cA]))
  refine den_cond (fun _ => ?_) ?_
  ·simp only [E.den, dEq, iEq, sEq, ha]; simp; omega
  have hi : ((p.length : Int) - 1).toNat = p.length - 1 := by omega
  ((first | refine den_call ?_ (c_impl_ParseVersion (nth p (p.length - 1)) (hp _ (by omega))) (ty_pvD _) ?_ | refine den_callR ?_ (c_impl_ParseVersion (nth p (p.length - 1)) (hp _ (by omega))) (ty_pvD _) ?_ | refine den_call ?_ (.ofR (c_impl_ParseVersion (nth p (p.length - 1)) (hp _ (by omega)))) (ty_pvD _) ?_); (focus (simp only [VC.den, E.den, dEq, gsH_nil, and_true, ha, hi, row_str, cells_str]; try exact rfl)); (simp only [cA]))
  refine den_ret ?_
  simp only [E.den, dEq, iEq, sEq, pvD, row_str, cells_str, cells_Ver, cells_Need]
  rfl
 ·simp only [E.den, dEq, iEq, sEq, row_str, cells_str] at h2
  have h2' : ¬ (p.length = 4 ∧ nth p 1 = ⟨#[111, 102]⟩) := by
   rintro ⟨q1, q2⟩
   have e1 : nth p (Int.toNat 1) = ⟨#[111, 102]⟩ := q2
   rw [e1, q1] at h2
   simp at h2
  rw [if_neg h2']
  refine den_ite (fun h3 => ?_) (fun h3 => ?_)
  ·simp only [E.den, dEq, iEq, sEq] at h3
   have h3 : p.length ≠ 2 := by
    simp at h3
    omega
   rw [if_pos h3]
   exact den_ret rfl
  ·simp only [E.den, dEq, iEq, sEq] at h3
   have h3 : p.length = 2 := by
    simp at h3
    omega
   rw [if_neg (by omega)]
   refine den_cond (fun _ => ?_) ?_
   ·simp only [E.den, dEq, iEq, sEq]; simp; omega
   ((first | refine den_call ?_ (c_impl_ParseFace (nth p 0)) (⟨rfl, trivial, trivial⟩) ?_ | refine den_callR ?_ (c_impl_ParseFace (nth p 0)) (⟨rfl, trivial, trivial⟩) ?_ | refine den_call ?_ (.ofR (c_impl_ParseFace (nth p 0))) (⟨rfl, trivial, trivial⟩) ?_); (focus (simp only [VC.den, E.den, dEq, gsH_nil, and_true, row_str, cells_str, Int.toNat_zero]; try exact rfl)); (simp only [cA]))
   refine den_cond (fun _ => ?_) ?_
   ·simp only [E.den, dEq, iEq, sEq, ha]; simp; omega
   have hi : ((p.length : Int) - 1).toNat = p.length - 1 := by omega
   ((first | refine den_call ?_ (c_impl_ParseVersion (nth p (p.length - 1)) (hp _ (by omega))) (ty_pvD _) ?_ | refine den_callR ?_ (c_impl_ParseVersion (nth p (p.length - 1)) (hp _ (by omega))) (ty_pvD _) ?_ | refine den_call ?_ (.ofR (c_impl_ParseVersion (nth p (p.length - 1)) (hp _ (by omega)))) (ty_pvD _) ?_); (focus (simp only [VC.den, E.den, dEq, gsH_nil, and_true, ha, hi, row_str, cells_str]; try exact rfl)); (simp only [cA]))
   refine den_ret ?_
   simp only [E.den, dEq, iEq, sEq, pvD, row_str, cells_str, cells_Ver, cells_Need]
   rfl
def noEntry : Entry := ⟨noText, [], ⟨0, 0⟩, []⟩
def peV (s : ByteArray) : Entry := if peB s then peE s else noEntry
theorem peB_no {s : ByteArray} (h : ¬ ((Lib.cut s.data.toList [58, 32]).2.2 = true ∧ 2 ≤ (peQ s).length ∧ (peQ s).length ≤ 3 ∧ pvB (nth (peQ s) 1) = true ∧ (∀ k, k < (peW s).length → (pnV (nth (peW s) k)).2 = true) ∧ entryB (peE s) = true ∧ entT (peE s) = s)) : peB s = false := by
 cases hb : peB s with
 | false => rfl
 | true =>
  exfalso
  apply h
  unfold peB at hb
  simp only [Bool.and_eq_true, decide_eq_true_eq] at hb
  refine ⟨hb.1.1.1.1.1.1, hb.1.1.1.1.1.2, hb.1.1.1.1.2, hb.1.1.1.2, fun k hk => ?_, hb.1.2, hb.2⟩
  exact List.all_eq_true.1 hb.1.1.2 _ (nth_mem hk)
theorem peB_yes {s : ByteArray} (h1 : (Lib.cut s.data.toList [58, 32]).2.2 = true) (h2 : 2 ≤ (peQ s).length) (h3 : (peQ s).length ≤ 3) (h4 : pvB (nth (peQ s) 1) = true) (h5 : ∀ k, k < (peW s).length → (pnV (nth (peW s) k)).2 = true) (h6 : entryB (peE s) = true) (h7 : entT (peE s) = s) : peB s = true := by
 unfold peB
 simp only [Bool.and_eq_true, decide_eq_true_eq]
 refine ⟨⟨⟨⟨⟨⟨h1, h2⟩, h3⟩, h4⟩, List.all_eq_true.2 fun x hx => ?_⟩, h6⟩, h7⟩
 obtain ⟨k, hk, rfl⟩ := List.getElem_of_mem hx
 have := h5 k hk
 have e : nth (peW s) k = (peW s)[k] := by simp [nth, hk]
 rw [e] at this
 exact this
/-! Contract: the reader of entries -/
theorem pe_none {s : ByteArray} (h : peB s = false) : D.tup [enc (peV s), .bool (peB s)] = .tup [enc noEntry, .bool false] := by
 rw [peV, if_neg (by simp [h]), h]
theorem pe_some {s : ByteArray} (h : peB s = true) : D.tup [enc (peV s), .bool (peB s)] = .tup [enc (peE s), .bool true] := by
 rw [peV, if_pos h, h]
theorem c_impl_ParseEntry [HasAbil] [HasMax] [HasPow] [HasErr] (s : ByteArray) (hs : s.size < 4294967281) : FunR Tryz.prog 17 none [.str s] (.tup [enc (peV s), .bool (peB s)]) [] [(1, 1), (4, 4)] := by
 refine FunR.ofV vc_impl_ParseEntry_ok ty_impl_ParseEntry_ok rt_impl_ParseEntry_ok rfl ?_ (fun hfit => ?_)
 ·exact ⟨trivial, trivial⟩
 unfold vc_impl_ParseEntry
 have hc := (cut_len s.data.toList [58, 32]).2
 rw [size_data] at hc
 ((first | refine den_call ?_ (c_Cut s [58, 32] hs) (⟨trivial, trivial, trivial, trivial⟩) ?_ | refine den_callR ?_ (c_Cut s [58, 32] hs) (⟨trivial, trivial, trivial, trivial⟩) ?_ | refine den_call ?_ (.ofR (c_Cut s [58, 32] hs)) (⟨trivial, trivial, trivial, trivial⟩) ?_); (focus (simp only [VC.den, E.den, dEq, gsH_nil, and_true]; try exact rfl)); (simp only [cA]))
 have hb : (bs (Lib.cut s.data.toList [58, 32]).2.1).size < 4294967281 := by rw [bs_size]; omega
 ((first | refine den_call ?_ (cR_Split (bs (Lib.cut s.data.toList [58, 32]).2.1) tSemi hb (by decide)) (ty_strS _) ?_ | refine den_callR ?_ (cR_Split (bs (Lib.cut s.data.toList [58, 32]).2.1) tSemi hb (by decide)) (ty_strS _) ?_ | refine den_call ?_ (.ofR (cR_Split (bs (Lib.cut s.data.toList [58, 32]).2.1) tSemi hb (by decide))) (ty_strS _) ?_); (focus (simp only [VC.den, E.den, dEq, gsH_nil, and_true, cutD3, tSemi_eq]; try exact rfl)); (simp only [cA]))
 have hQ : pieces (bs (Lib.cut s.data.toList [58, 32]).2.1) tSemi = peQ s := rfl
 have hq : ∀ k, k < (peQ s).length → (nth (peQ s) k).size < 4294967281 := fun k hk => by
  have := piece_size (s := bs (Lib.cut s.data.toList [58, 32]).2.1) (sep := tSemi) (by decide) hk
  rw [hQ] at this
  omega
 rw [hQ]
 refine den_ite (fun h1 => ?_) (fun h1 => ?_)
 ·simp only [E.den, dEq, iEq, sEq, cutD3] at h1
  have hn : peB s = false := peB_no (by
   rintro ⟨a1, a2, a3, _⟩
   rw [a1] at h1
   simp at h1
   omega)
  refine den_ret ?_
  rw [pe_none hn]; rfl
 simp only [E.den, dEq, iEq, sEq, cutD3] at h1
 simp only [Bool.or_eq_false_iff, Bool.not_eq_false', decide_eq_false_iff_not] at h1
 have q1 := h1.1.1
 have q2 : 2 ≤ (peQ s).length := by omega
 have q3 : (peQ s).length ≤ 3 := by omega
 refine den_cond (fun _ => ?_) ?_
 ·simp only [E.den, dEq, iEq, sEq]; simp; omega
 ((first | refine den_call ?_ (c_impl_ParseVersion (nth (peQ s) 1) (hq 1 (by omega))) (ty_pvD _) ?_ | refine den_callR ?_ (c_impl_ParseVersion (nth (peQ s) 1) (hq 1 (by omega))) (ty_pvD _) ?_ | refine den_call ?_ (.ofR (c_impl_ParseVersion (nth (peQ s) 1) (hq 1 (by omega)))) (ty_pvD _) ?_); (focus (simp only [VC.den, E.den, dEq, gsH_nil, and_true, row_str, cells_str]; try exact rfl)); (simp only [cA]))
 refine den_ite (fun h2 => ?_) (fun h2 => ?_)
 ·simp only [E.den, dEq, iEq, sEq, pvD] at h2
  have hn : peB s = false := peB_no (by
   rintro ⟨_, _, _, a4, _⟩
   rw [a4] at h2
   simp at h2)
  refine den_ret ?_
  rw [pe_none hn]; rfl
 simp only [E.den, dEq, iEq, sEq, pvD] at h2
 have q4 : pvB (nth (peQ s) 1) = true := by simpa using h2
 refine den_cond (fun _ => ?_) ?_
 ·simp only [E.den, dEq, iEq, sEq]; simp; omega
 ((first | refine den_call ?_ (cR_Split (nth (peQ s) 0) tSp (hq 0 (by omega)) (by decide)) (ty_strS _) ?_ | refine den_callR ?_ (cR_Split (nth (peQ s) 0) tSp (hq 0 (by omega)) (by decide)) (ty_strS _) ?_ | refine den_call ?_ (.ofR (cR_Split (nth (peQ s) 0) tSp (hq 0 (by omega)) (by decide))) (ty_strS _) ?_); (focus (simp only [VC.den, E.den, dEq, gsH_nil, and_true, row_str, cells_str, Int.toNat_zero, tSp_eq]; try exact rfl)); (simp only [cA]))
 refine den_ite (fun h3 => ?_) (fun h3 => ?_)
 ·simp only [E.den, dEq, iEq, sEq] at h3
  have h3 : (peQ s).length = 3 := by simp at h3; omega
  have hW : peW s = pieces (nth (peQ s) 2) tCom := if_pos h3
  refine den_cond (fun _ => ?_) ?_
  ·simp only [E.den, dEq, iEq, sEq]; simp; omega
  ((first | refine den_call ?_ (cR_Split (nth (peQ s) 2) tCom (hq 2 (by omega)) (by decide)) (ty_strS _) ?_ | refine den_callR ?_ (cR_Split (nth (peQ s) 2) tCom (hq 2 (by omega)) (by decide)) (ty_strS _) ?_ | refine den_call ?_ (.ofR (cR_Split (nth (peQ s) 2) tCom (hq 2 (by omega)) (by decide))) (ty_strS _) ?_); (focus (simp only [VC.den, E.den, dEq, gsH_nil, and_true, row_str, cells_str, tCom_eq]; try exact rfl)); (simp only [cA]))
  have hz := (pieces_size (s := nth (peQ s) 2) (sep := tCom) (by decide)).1
  have hq2 := hq 2 (by omega)
  have hw : ∀ k, k < (peW s).length → (nth (peW s) k).size < 4294967281 := fun k hk => by
   rw [hW] at hk ⊢
   have := piece_size (s := nth (peQ s) 2) (sep := tCom) (by decide) hk
   omega
  rw [← hW] at hz ⊢
  refine den_for (peW s).length (fun k => [.int .i64 k, .str (peN s), encS (peE s).recipe, .int .i64 (peE s).ver.maj, .int .i64 (peE s).ver.min, encS (((peW s).take k).map fun x => (pnV x).1)]) (fun k => ∀ i, i < k → (pnV (nth (peW s) i)).2 = true) rfl (by omega) ?_
  intro k hk hI _
  simp only [cA]
  refine den_ite (fun h4 => ?_) (fun h4 => ?_)
  ·simp only [E.den, dEq, iEq, sEq] at h4
   have h4 : k < (peW s).length := by simp at h4; exact h4
   refine den_cond (fun _ => ?_) ?_
   ·simp only [E.den, dEq, iEq, sEq]; simp; omega
   ((first | refine den_call ?_ (c_impl_parseNeed (nth (peW s) k) (hw k h4)) (⟨ty_Need _, trivial, trivial⟩) ?_ | refine den_callR ?_ (c_impl_parseNeed (nth (peW s) k) (hw k h4)) (⟨ty_Need _, trivial, trivial⟩) ?_ | refine den_call ?_ (.ofR (c_impl_parseNeed (nth (peW s) k) (hw k h4))) (⟨ty_Need _, trivial, trivial⟩) ?_); (focus (simp only [VC.den, E.den, dEq, gsH_nil, and_true, row_str, cells_str, Int.toNat_natCast]; try exact rfl)); (simp only [cA]))
   refine den_ite (fun h5 => ?_) (fun h5 => ?_)
   ·simp only [E.den, dEq, iEq, sEq] at h5
    have hn : peB s = false := peB_no (by
     rintro ⟨_, _, _, _, a5, _⟩
     rw [a5 k h4] at h5
     simp at h5)
    refine den_ret ?_
    rw [pe_none hn]; rfl
   ·simp only [E.den, dEq, iEq, sEq] at h5
    have h5 : (pnV (nth (peW s) k)).2 = true := by simpa using h5
    refine den_cond (fun _ => ?_) ?_
    ·simp only [E.den, dEq, iEq, sEq]; simp [maxLen]; omega
    refine den_next h4 ?_ fun i hi => ?_
    ·simp only [E.den, dEq, iEq, sEq]
     rw [ar_add (by omega) (by omega), map_take_succ _ h4]
     simp [encS, enc]
    ·rcases Nat.lt_or_ge i k with h | h
     ·exact hI i h
     ·obtain rfl : i = k := by omega
      exact h5
  ·simp only [E.den, dEq, iEq, sEq] at h4
   obtain rfl : k = (peW s).length := by simp at h4; omega
   have hE : (peW s).take (peW s).length = peW s := List.take_length
   ((first | refine den_call ?_ (c_impl_IsEntry (peE s)) (trivial) ?_ | refine den_callR ?_ (c_impl_IsEntry (peE s)) (trivial) ?_ | refine den_call ?_ (.ofR (c_impl_IsEntry (peE s))) (trivial) ?_); (focus (simp only [VC.den, E.den, dEq, gsH_nil, and_true, hE]; try exact rfl)); (simp only [cA]))
   ((first | refine den_call ?_ (c_impl_FormatEntry (peE s)) (trivial) ?_ | refine den_callR ?_ (c_impl_FormatEntry (peE s)) (trivial) ?_ | refine den_call ?_ (.ofR (c_impl_FormatEntry (peE s))) (trivial) ?_); (focus (simp only [VC.den, E.den, dEq, gsH_nil, and_true, hE]; try exact rfl)); (simp only [cA]))
   refine den_ite (fun h6 => ?_) (fun h6 => ?_)
   ·simp only [E.den, dEq, iEq, sEq] at h6
    have hn : peB s = false := peB_no (by
     rintro ⟨_, _, _, _, _, a6, a7⟩
     rw [a6, a7] at h6
     simp at h6)
    refine den_ret ?_
    rw [pe_none hn]; rfl
   ·simp only [E.den, dEq, iEq, sEq] at h6
    simp only [Bool.or_eq_false_iff, Bool.not_eq_false', decide_eq_false_iff_not, Decidable.not_not] at h6
    have hy : peB s = true := peB_yes q1 q2 q3 q4 hI h6.1 (by simpa using h6.2)
    refine den_ret ?_
    rw [pe_some hy]
    simp only [E.den, dEq, iEq, sEq, hE]
    rfl
 ·simp only [E.den, dEq, iEq, sEq] at h3
  have h3 : (peQ s).length ≠ 3 := by simp at h3; omega
  have hW : peW s = [] := if_neg h3
  have he : peE s = ⟨peN s, pieces (nth (peQ s) 0) tSp, pvV (nth (peQ s) 1), []⟩ := by unfold peE; rw [hW]; rfl
  ((first | refine den_call ?_ (c_impl_IsEntry ⟨peN s, pieces (nth (peQ s) 0) tSp, pvV (nth (peQ s) 1), []⟩) (trivial) ?_ | refine den_callR ?_ (c_impl_IsEntry ⟨peN s, pieces (nth (peQ s) 0) tSp, pvV (nth (peQ s) 1), []⟩) (trivial) ?_ | refine den_call ?_ (.ofR (c_impl_IsEntry ⟨peN s, pieces (nth (peQ s) 0) tSp, pvV (nth (peQ s) 1), []⟩)) (trivial) ?_); (focus (simp only [VC.den, E.den, dEq, gsH_nil, and_true, cutD3, pvD, cells_Ver]; try exact rfl)); (simp only [cA]))
  ((first | refine den_call ?_ (c_impl_FormatEntry ⟨peN s, pieces (nth (peQ s) 0) tSp, pvV (nth (peQ s) 1), []⟩) (trivial) ?_ | refine den_callR ?_ (c_impl_FormatEntry ⟨peN s, pieces (nth (peQ s) 0) tSp, pvV (nth (peQ s) 1), []⟩) (trivial) ?_ | refine den_call ?_ (.ofR (c_impl_FormatEntry ⟨peN s, pieces (nth (peQ s) 0) tSp, pvV (nth (peQ s) 1), []⟩)) (trivial) ?_); (focus (simp only [VC.den, E.den, dEq, gsH_nil, and_true, cutD3, pvD, cells_Ver]; try exact rfl)); (simp only [cA]))
  rw [← he]
  refine den_ite (fun h6 => ?_) (fun h6 => ?_)
  ·simp only [E.den, dEq, iEq, sEq] at h6
   have hn : peB s = false := peB_no (by
    rintro ⟨_, _, _, _, _, a6, a7⟩
    rw [a6, a7] at h6
    simp at h6)
   refine den_ret ?_
   rw [pe_none hn]; rfl
  ·simp only [E.den, dEq, iEq, sEq] at h6
   simp only [Bool.or_eq_false_iff, Bool.not_eq_false', decide_eq_false_iff_not, Decidable.not_not] at h6
   have hy : peB s = true := peB_yes q1 q2 q3 q4 (by rw [hW]; simp) h6.1 (by simpa using h6.2)
   refine den_ret ?_
   rw [pe_some hy, he]
   rfl
end Go.Proofs.YtjmakbnblpjkhaaGreatDoor
/- Calls and events read from texts: what the readers give. -/
namespace Go.Proofs.YtjmakbnblpjkhaaGreatDoor
open Go.RowKit Go
variable [GC]
/-! Pieces between spaces -/
theorem sp_list : tSp.data.toList = [32] := rfl
theorem pieces_cons {x : ByteArray} {r : List UInt8} (hx : (32 : UInt8) ∉ x.data.toList) {s : ByteArray} (e : s.data.toList = x.data.toList ++ ([32] ++ r)) : pieces s tSp = x :: pieces (bs r) tSp := by
 unfold pieces
 rw [e, sp_list, split_hit (i := x.data.toList.length) (by simp) (index_app (c := 32) (t := []) hx), List.take_left', ← List.append_assoc, List.drop_left' (by simp), bs_toList]
 ·simp [bs_of]
 ·rfl
theorem pieces_one {x : ByteArray} (hx : (32 : UInt8) ∉ x.data.toList) : pieces x tSp = [x] := by
 unfold pieces
 rw [sp_list, split_miss (index_none' (c := 32) (t := []) hx)]
 simp [bs_of]
theorem join_pieces (s : ByteArray) : joinB (pieces s tSp) tSp = s := by
 unfold joinB pieces
 rw [List.map_map]
 have e : ((fun x : ByteArray => x.data.toList) ∘ bs) = id := by funext l; simp
 rw [e, List.map_id, (join_split (sep := tSp.data.toList) (by decide) _ _ (Nat.le_refl _)).1]
theorem joinB_one (x : ByteArray) : joinB [x] tSp = x := by
 unfold joinB
 simp [Lib.join_one]
theorem dig_no {n : Nat} {c : UInt8} (h : n < 1000) (hc : c.toNat < 48 ∨ 57 < c.toNat) : c ∉ dig3 n := fun hm => by
 have := List.all_eq_true.1 (dig3_dig h) _ hm
 simp [isDig] at this
 omega
theorem mem_firstTo {s : ByteArray} (h : 0 ≤ abM s) : s = mStart ∨ s = mStop ∨ s = mGet ∨ s = mPut ∨ s = mTell ∨ s = mHear ∨ s = mLoad ∨ s = mSave ∨ s = mHeal := by
 unfold abM at h
 split at h
 ·rename_i k hk
  obtain ⟨k6, h1, _⟩ := firstTo_lt hk
  unfold abP hasB at h1
  obtain ⟨t, ht, e⟩ := List.any_eq_true.1 h1
  simp only [decide_eq_true_eq] at e
  subst e
  obtain rfl | rfl | rfl | rfl | rfl | rfl : k = 0 ∨ k = 1 ∨ k = 2 ∨ k = 3 ∨ k = 4 ∨ k = 5 := by omega
  all_goals (simp only [methods, List.mem_cons, List.not_mem_nil, or_false] at ht; grind)
 ·simp at h
/-! Calls -/
theorem callB_meth {x : Call} (h : callB x = true) : 0 ≤ abM x.method := by
 unfold callB at h
 simp only [Bool.and_eq_true, Bool.not_eq_true', decide_eq_false_iff_not] at h
 omega
theorem callB_put {x : Call} (h : callB x = true) (hm : x.method = mPut) : nameB x.key = true ∧ x.text = noText ∧ 0 ≤ x.val ∧ x.val ≤ 999 := by
 have hv := callB_val h
 have hn := m_ne
 have hn' := m_ne'
 unfold callB at h
 rw [hm] at h
 simp only [Bool.and_eq_true, Bool.or_eq_true, decide_eq_true_eq] at h
 grind
theorem callB_get {x : Call} (h : callB x = true) (hm : x.method = mGet) : nameB x.key = true ∧ x.text = noText ∧ x.val = 0 := by
 have hv := callB_val h
 have hn := m_ne
 have hn' := m_ne'
 unfold callB at h
 rw [hm] at h
 simp only [Bool.and_eq_true, Bool.or_eq_true, decide_eq_true_eq] at h
 grind
theorem callB_hear {x : Call} (h : callB x = true) (hm : x.method = mHear) : x.key = noText ∧ x.text = noText ∧ 0 ≤ x.val ∧ x.val ≤ 999 := by
 have hv := callB_val h
 have hn := m_ne
 have hn' := m_ne'
 unfold callB at h
 rw [hm] at h
 simp only [Bool.and_eq_true, Bool.or_eq_true, decide_eq_true_eq] at h
 grind
theorem callB_load {x : Call} (h : callB x = true) (hm : x.method = mLoad) : x.key = noText ∧ x.val = 0 := by
 have hv := callB_val h
 have hn := m_ne
 have hn' := m_ne'
 unfold callB at h
 rw [hm] at h
 simp only [Bool.and_eq_true, Bool.or_eq_true, decide_eq_true_eq] at h
 grind
theorem callB_else {x : Call} (h : callB x = true) (h1 : x.method ≠ mPut) (h2 : x.method ≠ mGet) (h3 : x.method ≠ mHear) (h4 : x.method ≠ mLoad) : x = ⟨x.method, noText, 0, noText⟩ := by
 obtain ⟨m, k, v, t⟩ := x
 unfold callB at h
 simp only [Bool.and_eq_true, Bool.or_eq_true, decide_eq_true_eq] at h h1 h2 h3 h4
 simp only [Call.mk.injEq, true_and]
 grind
theorem meth_no {x : Call} (h : callB x = true) : (32 : UInt8) ∉ x.method.data.toList := by
 rcases mem_firstTo (callB_meth h) with e | e | e | e | e | e | e | e | e <;> rw [e] <;> decide
theorem call_put {x : Call} (h : callB x = true) (hm : x.method = mPut) : (callT x).data.toList = mPut.data.toList ++ ([32] ++ (x.key.data.toList ++ ([32] ++ dig3 x.val.toNat))) := by
 unfold callT
 rw [if_pos h, if_pos hm]
 simp [ByteArray.data_append, tPut, mPut, tSp, valT]
theorem call_get {x : Call} (h : callB x = true) (hm : x.method = mGet) : (callT x).data.toList = mGet.data.toList ++ ([32] ++ x.key.data.toList) := by
 unfold callT
 have hn := m_ne
 rw [if_pos h, if_neg (by rw [hm]; exact hn.1), if_pos hm]
 simp [ByteArray.data_append, tGet, mGet]
theorem call_hear {x : Call} (h : callB x = true) (hm : x.method = mHear) : (callT x).data.toList = mHear.data.toList ++ ([32] ++ dig3 x.val.toNat) := by
 unfold callT
 have hn := m_ne
 rw [if_pos h, if_neg (by rw [hm]; exact hn.2.2.symm), if_neg (by rw [hm]; exact hn.2.1.symm), if_pos hm]
 simp [ByteArray.data_append, tHear, mHear, valT]
theorem call_load {x : Call} (h : callB x = true) (hm : x.method = mLoad) : (callT x).data.toList = mLoad.data.toList ++ ([32] ++ x.text.data.toList) := by
 unfold callT
 have hn := m_ne'
 rw [if_pos h, if_neg (by rw [hm]; exact hn.2.1.symm), if_neg (by rw [hm]; exact hn.1.symm), if_neg (by rw [hm]; exact hn.2.2.symm), if_pos hm]
 simp [ByteArray.data_append, tLoad, mLoad]
theorem call_else {x : Call} (h : callB x = true) (h1 : x.method ≠ mPut) (h2 : x.method ≠ mGet) (h3 : x.method ≠ mHear) (h4 : x.method ≠ mLoad) : callT x = x.method := by
 unfold callT
 rw [if_pos h, if_neg h1, if_neg h2, if_neg h3, if_neg h4]
def cutA (s : ByteArray) : ByteArray := bs (Lib.cut s.data.toList [32]).1
def cutZ (s : ByteArray) : ByteArray := bs (Lib.cut s.data.toList [32]).2.1
theorem cutA_size (s : ByteArray) : (cutA s).size ≤ s.size := by
 have := (cut_len s.data.toList [32]).1
 rw [size_data] at this
 unfold cutA; rw [bs_size]; exact this
theorem cutZ_size (s : ByteArray) : (cutZ s).size ≤ s.size := by
 have := (cut_len s.data.toList [32]).2
 rw [size_data] at this
 unfold cutZ; rw [bs_size]; exact this
theorem cut_two {x : ByteArray} {r : List UInt8} (hx : (32 : UInt8) ∉ x.data.toList) {s : ByteArray} (e : s.data.toList = x.data.toList ++ ([32] ++ r)) : cutA s = x ∧ cutZ s = bs r := by
 unfold cutA cutZ
 rw [e, cut_app (c := 32) (t := []) hx]
 exact ⟨bs_of _, rfl⟩
theorem cut_one {x : ByteArray} (hx : (32 : UInt8) ∉ x.data.toList) : cutA x = x ∧ cutZ x = noText := by
 unfold cutA cutZ
 rw [cut_none (c := 32) (t := []) hx]
 exact ⟨bs_of _, rfl⟩
def candI (s : ByteArray) : Call :=
 if cutA s = mPut then ⟨cutA s, cutA (cutZ s), numI (cutZ (cutZ s)), noText⟩
 else if cutA s = mGet then ⟨cutA s, cutZ s, 0, noText⟩
 else if cutA s = mHear then ⟨cutA s, noText, numI (cutZ s), noText⟩
 else if cutA s = mLoad then ⟨cutA s, noText, 0, cutZ s⟩
 else ⟨cutA s, noText, 0, noText⟩
theorem candI_of {x : Call} (h : callB x = true) : candI (callT x) = x := by
 have hn := m_ne
 have hn' := m_ne'
 by_cases h1 : x.method = mPut
 ·obtain ⟨k1, k2, k3, k4⟩ := callB_put h h1
  obtain ⟨e1, e2⟩ := cut_two (x := mPut) (by decide) (call_put h h1)
  obtain ⟨e3, e4⟩ := cut_two (x := x.key) (s := bs (x.key.data.toList ++ ([32] ++ dig3 x.val.toNat))) (nameB_no k1 (by decide)) (by rw [bs_toList])
  unfold candI
  rw [e1, if_pos rfl, e2, e3, e4, numI_dig (by omega)]
  obtain ⟨m, k, v, t⟩ := x
  simp only at h1 k2 k3 k4 ⊢
  subst h1 k2
  simp only [Call.mk.injEq, true_and, and_true]
  omega
 by_cases h2 : x.method = mGet
 ·obtain ⟨k1, k2, k3⟩ := callB_get h h2
  obtain ⟨e1, e2⟩ := cut_two (x := mGet) (by decide) (call_get h h2)
  unfold candI
  rw [e1, if_neg hn.1, if_pos rfl, e2, bs_of]
  obtain ⟨m, k, v, t⟩ := x
  simp only at h2 k2 k3 ⊢
  subst h2 k2 k3
  rfl
 by_cases h3 : x.method = mHear
 ·obtain ⟨k1, k2, k3, k4⟩ := callB_hear h h3
  obtain ⟨e1, e2⟩ := cut_two (x := mHear) (by decide) (call_hear h h3)
  unfold candI
  rw [e1, if_neg hn.2.2.symm, if_neg hn.2.1.symm, if_pos rfl, e2, numI_dig (by omega)]
  obtain ⟨m, k, v, t⟩ := x
  simp only at h3 k1 k2 k3 k4 ⊢
  subst h3 k1 k2
  simp only [Call.mk.injEq, true_and, and_true]
  omega
 by_cases h4 : x.method = mLoad
 ·obtain ⟨k1, k2⟩ := callB_load h h4
  obtain ⟨e1, e2⟩ := cut_two (x := mLoad) (by decide) (call_load h h4)
  unfold candI
  rw [e1, if_neg hn'.2.1.symm, if_neg hn'.1.symm, if_neg hn'.2.2.symm, if_pos rfl, e2, bs_of]
  obtain ⟨m, k, v, t⟩ := x
  simp only at h4 k1 k2 ⊢
  subst h4 k1 k2
  rfl
 have hx := callB_else h h1 h2 h3 h4
 obtain ⟨e1, e2⟩ := cut_one (meth_no h)
 rw [call_else h h1 h2 h3 h4]
 unfold candI
 rw [e1, if_neg h1, if_neg h2, if_neg h3, if_neg h4]
 exact hx.symm
def lastP (p : List ByteArray) : ByteArray := nth p (p.length - 1)
def candS (p : List ByteArray) : Call :=
 if nth p 0 = mGet then ⟨nth p 0, lastP p, 0, noText⟩
 else if nth p 0 = mPut then ⟨nth p 0, joinB ((p.take (p.length - min 1 (p.length - 1))).drop 1) tSp, numI (lastP p), noText⟩
 else if nth p 0 = mHear then ⟨nth p 0, noText, numI (lastP p), noText⟩
 else if nth p 0 = mLoad then ⟨nth p 0, noText, 0, joinB (p.drop 1) tSp⟩
 else ⟨nth p 0, noText, 0, noText⟩
theorem candS_of {x : Call} (h : callB x = true) : candS (pieces (callT x) tSp) = x := by
 have hn := m_ne
 have hn' := m_ne'
 by_cases h1 : x.method = mPut
 ·obtain ⟨k1, k2, k3, k4⟩ := callB_put h h1
  have hp : pieces (callT x) tSp = [mPut, x.key, bs (dig3 x.val.toNat)] := by
   rw [pieces_cons (x := mPut) (by decide) (call_put h h1), pieces_cons (x := x.key) (nameB_no k1 (by decide)) (by rw [bs_toList]), pieces_one (by rw [bs_toList]; exact dig_no (by omega) (by decide))]
  rw [hp]
  unfold candS lastP
  simp only [nth, List.length_cons, List.length_nil, List.getD_cons_zero, List.getD_cons_succ, Nat.zero_add, Nat.add_sub_cancel]
  rw [if_neg hn.1.symm, if_pos trivial]
  obtain ⟨m, k, v, t⟩ := x
  simp only at h1 k2 k3 k4 ⊢
  subst h1 k2
  have e : (List.drop 1 (List.take (1 + 1 + 1 - min 1 (1 + 1)) [mPut, k, bs (dig3 v.toNat)])) = [k] := rfl
  have ed := numI_dig (n := v.toNat) (by omega)
  simp only [Call.mk.injEq, true_and, and_true]
  refine ⟨?_, ?_⟩
  ·rw [e]; exact joinB_one k
  ·show numI (bs (dig3 v.toNat)) = v
   rw [ed]; omega
 by_cases h2 : x.method = mGet
 ·obtain ⟨k1, k2, k3⟩ := callB_get h h2
  have hp : pieces (callT x) tSp = [mGet, x.key] := by
   rw [pieces_cons (x := mGet) (by decide) (call_get h h2), bs_of, pieces_one (nameB_no k1 (by decide))]
  rw [hp]
  unfold candS lastP
  simp only [nth, List.length_cons, List.length_nil, List.getD_cons_zero, List.getD_cons_succ, Nat.zero_add, Nat.add_sub_cancel]
  rw [if_pos trivial]
  obtain ⟨m, k, v, t⟩ := x
  simp only at h2 k2 k3 ⊢
  subst h2 k2 k3
  rfl
 by_cases h3 : x.method = mHear
 ·obtain ⟨k1, k2, k3, k4⟩ := callB_hear h h3
  have hp : pieces (callT x) tSp = [mHear, bs (dig3 x.val.toNat)] := by
   rw [pieces_cons (x := mHear) (by decide) (call_hear h h3), pieces_one (by rw [bs_toList]; exact dig_no (by omega) (by decide))]
  rw [hp]
  unfold candS lastP
  simp only [nth, List.length_cons, List.length_nil, List.getD_cons_zero, List.getD_cons_succ, Nat.zero_add, Nat.add_sub_cancel]
  rw [if_neg hn.2.1.symm, if_neg hn.2.2.symm, if_pos trivial]
  obtain ⟨m, k, v, t⟩ := x
  simp only at h3 k1 k2 k3 k4 ⊢
  subst h3 k1 k2
  have ed := numI_dig (n := v.toNat) (by omega)
  simp only [Call.mk.injEq, true_and, and_true]
  rw [ed]; omega
 by_cases h4 : x.method = mLoad
 ·obtain ⟨k1, k2⟩ := callB_load h h4
  have hp : pieces (callT x) tSp = mLoad :: pieces x.text tSp := by
   rw [pieces_cons (x := mLoad) (by decide) (call_load h h4), bs_of]
  rw [hp]
  unfold candS
  simp only [nth, List.getD_cons_zero, List.drop_succ_cons, List.drop_zero]
  rw [if_neg hn'.1.symm, if_neg hn'.2.1.symm, if_neg hn'.2.2.symm, if_pos trivial, join_pieces]
  obtain ⟨m, k, v, t⟩ := x
  simp only at h4 k1 k2 ⊢
  subst h4 k1 k2
  rfl
 have hx := callB_else h h1 h2 h3 h4
 rw [call_else h h1 h2 h3 h4, pieces_one (meth_no h)]
 unfold candS
 simp only [nth, List.getD_cons_zero]
 rw [if_neg h2, if_neg h1, if_neg h3, if_neg h4]
 exact hx.symm
def noCall : Call := ⟨noText, noText, 0, noText⟩
def rcB (s : ByteArray) : Bool := callB (candI s) && decide (callT (candI s) = s)
def rcV (s : ByteArray) : Call := if rcB s then candI s else noCall
theorem rc_of {x : Call} (h : callB x = true) : rcB (callT x) = true ∧ rcV (callT x) = x := by
 have e := candI_of h
 have hb : rcB (callT x) = true := by unfold rcB; rw [e, h]; simp
 exact ⟨hb, by unfold rcV; rw [if_pos hb, e]⟩
theorem rc_back {s : ByteArray} (h : rcB s = true) : callB (rcV s) = true ∧ callT (rcV s) = s := by
 have e : rcV s = candI s := if_pos h
 unfold rcB at h
 simp only [Bool.and_eq_true, decide_eq_true_eq] at h
 rw [e]; exact h
theorem callT_ne {x : Call} (h : callB x = true) : callT x ≠ noText := fun e => by
 have h1 := candI_of h
 rw [e] at h1
 have h2 : cutA noText = noText ∧ cutZ noText = noText := cut_one (by decide)
 unfold candI at h1
 rw [h2.1, if_neg (by decide), if_neg (by decide), if_neg (by decide), if_neg (by decide)] at h1
 have h3 := callB_meth h
 rw [← h1] at h3
 rcases mem_firstTo h3 with e | e | e | e | e | e | e | e | e <;> exact absurd e (by decide)
theorem rc_spec (s : ByteArray) : (rcB s = true ↔ callT (candS (pieces s tSp)) = s ∧ s ≠ noText) ∧ (rcB s = true → candS (pieces s tSp) = rcV s) := by
 have k : rcB s = true → candS (pieces s tSp) = rcV s := fun h => by
  obtain ⟨h1, h2⟩ := rc_back h
  conv => lhs; rw [← h2]
  exact candS_of h1
 refine ⟨⟨fun h => ?_, fun ⟨h1, h2⟩ => ?_⟩, k⟩
 ·obtain ⟨h1, h2⟩ := rc_back h
  rw [k h]
  exact ⟨h2, by rw [← h2]; exact callT_ne h1⟩
 ·have hb : callB (candS (pieces s tSp)) = true := by
   cases e : callB (candS (pieces s tSp)) with
   | true => rfl
   | false =>
    unfold callT at h1
    rw [e] at h1
    exact absurd h1.symm h2
  have := (rc_of hb).1
  rwa [h1] at this
/-! Events -/
def kindW (s : ByteArray) : Int := if s = nth words 1 then 1 else if s = nth words 2 then 2 else if s = nth words 3 then 3 else if s = nth words 4 then 4 else if s = nth words 5 then 5 else 0
theorem kindW_of {k : Int} (h1 : 1 ≤ k) (h5 : k ≤ 5) : kindW (nth words k.toNat) = k ∧ (32 : UInt8) ∉ (nth words k.toNat).data.toList := by
 obtain rfl | rfl | rfl | rfl | rfl : k = 1 ∨ k = 2 ∨ k = 3 ∨ k = 4 ∨ k = 5 := by omega
 all_goals decide
def tailE (x : Event) : List UInt8 := if x.kind = 3 then [32] ++ (callT x.call).data.toList else if x.kind = 5 then [32] ++ (joinB x.recipe tSp).data.toList else []
theorem event_list {x : Event} (h : eventB x = true) : (eventT x).data.toList = (nth words x.kind.toNat).data.toList ++ ([32] ++ (x.name.data.toList ++ tailE x)) := by
 unfold eventT tailE
 rw [if_pos h]
 split
 ·simp [ByteArray.data_append, tSp]
 ·split <;> simp [ByteArray.data_append, tSp]
def evI (s : ByteArray) : Event :=
 ⟨kindW (cutA s), cutA (cutZ s), if kindW (cutA s) = 3 then rcV (cutZ (cutZ s)) else zeroC, if kindW (cutA s) = 5 then pieces (cutZ (cutZ s)) tSp else []⟩
theorem eventB_parts {x : Event} (h : eventB x = true) : nameB x.name = true ∧ (x.kind = 3 → callB x.call = true) ∧ (x.kind ≠ 3 → x.call = zeroC) ∧ (x.kind = 5 → recOk x.recipe = true) ∧ (x.kind ≠ 5 → x.recipe = []) := by
 unfold eventB at h
 simp only [Bool.and_eq_true, Bool.or_eq_true, decide_eq_true_eq, Bool.not_eq_true', decide_eq_false_iff_not, List.length_eq_zero_iff] at h
 grind
theorem evI_of {x : Event} (h : eventB x = true) : evI (eventT x) = x := by
 obtain ⟨k1, k5, _⟩ := eventB_kind h
 obtain ⟨hn, c3, cn, r5, rn⟩ := eventB_parts h
 obtain ⟨w1, w2⟩ := kindW_of k1 k5
 obtain ⟨e1, e2⟩ := cut_two w2 (event_list h)
 have hno : (32 : UInt8) ∉ x.name.data.toList := nameB_no hn (by decide)
 unfold evI
 rw [e1, e2, w1]
 by_cases h3 : x.kind = 3
 ·obtain ⟨e3, e4⟩ := cut_two (s := bs (x.name.data.toList ++ tailE x)) (r := (callT x.call).data.toList) hno (by rw [bs_toList]; unfold tailE; rw [if_pos h3])
  rw [e3, e4, bs_of, if_pos h3, (rc_of (c3 h3)).2, if_neg (by omega), ← rn (by omega)]
 ·by_cases h5 : x.kind = 5
  ·obtain ⟨e3, e4⟩ := cut_two (s := bs (x.name.data.toList ++ tailE x)) (r := (joinB x.recipe tSp).data.toList) hno (by rw [bs_toList]; unfold tailE; rw [if_neg h3, if_pos h5])
   rw [e3, e4, bs_of, if_neg h3, if_pos h5, ← cn h3]
   unfold pieces
   rw [sp_list, rec_split (r5 h5), map_bs]
  ·have ht : tailE x = [] := by unfold tailE; rw [if_neg h3, if_neg h5]
   rw [ht, List.append_nil, bs_of]
   obtain ⟨e3, e4⟩ := cut_one hno
   rw [e3, if_neg h3, if_neg h5, ← cn h3, ← rn h5]
def evS (p : List ByteArray) : Event :=
 ⟨kindW (nth p 0), nth p 1, if kindW (nth p 0) = 3 then rcV (joinB (p.drop 2) tSp) else zeroC, if kindW (nth p 0) = 5 then p.drop 2 else []⟩
theorem evS_of {x : Event} (h : eventB x = true) : evS (pieces (eventT x) tSp) = x ∧ 2 ≤ (pieces (eventT x) tSp).length := by
 obtain ⟨k1, k5, _⟩ := eventB_kind h
 obtain ⟨hn, c3, cn, r5, rn⟩ := eventB_parts h
 obtain ⟨w1, w2⟩ := kindW_of k1 k5
 have hno : (32 : UInt8) ∉ x.name.data.toList := nameB_no hn (by decide)
 rw [pieces_cons w2 (event_list h)]
 by_cases h3 : x.kind = 3
 ·rw [pieces_cons (x := x.name) (r := (callT x.call).data.toList) hno (by rw [bs_toList]; unfold tailE; rw [if_pos h3]), bs_of]
  refine ⟨?_, by simp⟩
  unfold evS
  simp only [nth, List.getD_cons_zero, List.getD_cons_succ, List.drop_succ_cons, List.drop_zero]
  have w1 : kindW (words.getD x.kind.toNat default) = x.kind := w1
  rw [w1, if_pos h3, join_pieces, (rc_of (c3 h3)).2, if_neg (by omega), ← rn (by omega)]
 ·by_cases h5 : x.kind = 5
  ·rw [pieces_cons (x := x.name) (r := (joinB x.recipe tSp).data.toList) hno (by rw [bs_toList]; unfold tailE; rw [if_neg h3, if_pos h5]), bs_of]
   refine ⟨?_, by simp⟩
   have hr : pieces (joinB x.recipe tSp) tSp = x.recipe := by
    unfold pieces
    rw [sp_list, rec_split (r5 h5), map_bs]
   unfold evS
   simp only [nth, List.getD_cons_zero, List.getD_cons_succ, List.drop_succ_cons, List.drop_zero]
   have w1 : kindW (words.getD x.kind.toNat default) = x.kind := w1
   rw [w1, if_neg h3, if_pos h5, hr, ← cn h3]
  ·have ht : tailE x = [] := by unfold tailE; rw [if_neg h3, if_neg h5]
   rw [ht, List.append_nil, bs_of, pieces_one hno]
   refine ⟨?_, by simp⟩
   unfold evS
   simp only [nth, List.getD_cons_zero, List.getD_cons_succ]
   have w1 : kindW (words.getD x.kind.toNat default) = x.kind := w1
   rw [w1, if_neg h3, if_neg h5, ← cn h3, ← rn h5]
def noEvent : Event := ⟨0, noText, zeroC, []⟩
def reB (s : ByteArray) : Bool := eventB (evI s) && decide (eventT (evI s) = s)
def reV (s : ByteArray) : Event := if reB s then evI s else noEvent
theorem re_of {x : Event} (h : eventB x = true) : reB (eventT x) = true ∧ reV (eventT x) = x := by
 have e := evI_of h
 have hb : reB (eventT x) = true := by unfold reB; rw [e, h]; simp
 exact ⟨hb, by unfold reV; rw [if_pos hb, e]⟩
theorem re_back {s : ByteArray} (h : reB s = true) : eventB (reV s) = true ∧ eventT (reV s) = s := by
 have e : reV s = evI s := if_pos h
 unfold reB at h
 simp only [Bool.and_eq_true, decide_eq_true_eq] at h
 rw [e]; exact h
theorem re_spec (s : ByteArray) : (reB s = true ↔ 2 ≤ (pieces s tSp).length ∧ eventT (evS (pieces s tSp)) = s) ∧ (reB s = true → evS (pieces s tSp) = reV s) := by
 have k : reB s = true → evS (pieces s tSp) = reV s ∧ 2 ≤ (pieces s tSp).length := fun h => by
  obtain ⟨h1, h2⟩ := re_back h
  have := evS_of h1
  rwa [h2] at this
 refine ⟨⟨fun h => ⟨(k h).2, by rw [(k h).1]; exact (re_back h).2⟩, fun ⟨h1, h2⟩ => ?_⟩, fun h => (k h).1⟩
 have hb : eventB (evS (pieces s tSp)) = true := by
  cases e : eventB (evS (pieces s tSp)) with
  | true => rfl
  | false =>
   unfold eventT at h2
   rw [e] at h2
   have h2 : noText = s := h2
   rw [← h2, pieces_one (by decide)] at h1
   simp at h1
 have := (re_of hb).1
 rwa [h2] at this
end Go.Proofs.YtjmakbnblpjkhaaGreatDoor
