/- Contracts: numbers and versions, written and read. -/
import Derived.Test.YtmhfncdhplmomaaGreatDoorBVer
import Derived.Test.YtmhfncdhplmomaaGreatDoorTextMath
import Derived.Test.YtmhfncdhplmomaaGreatDoorShelf
import Derived.Test.YtmhfncdhplmomaaGreatDoorBase
namespace Go.Proofs.YtmhfncdhplmomaaGreatDoor
open Go.RowKit Go
set_option linter.unusedVariables false
set_option linter.unusedSimpArgs false
set_option maxRecDepth 100000
set_option linter.unusedSectionVars false
variable [GC]
def bs (l : List UInt8) : ByteArray := ⟨l.toArray⟩
@[simp] theorem bs_toList (l : List UInt8) : (bs l).data.toList = l := by simp [bs]
theorem bs_data (s : ByteArray) : bs s.data.toList = s := by simp [bs]
@[simp] theorem bs_size (l : List UInt8) : (bs l).size = l.length := by simp [bs, ByteArray.size]
theorem bs_inj {l m : List UInt8} (h : bs l = bs m) : l = m := by have := congrArg (fun s : ByteArray => s.data.toList) h; simpa using this
@[simp] theorem bs_eq (l m : List UInt8) : bs l = bs m ↔ l = m := ⟨bs_inj, fun h => by rw [h]⟩
theorem bs_append (l m : List UInt8) : bs l ++ bs m = bs (l ++ m) := by
  apply ByteArray.ext
  simp [bs]
theorem bs_eqB (l m : List UInt8) : ((bs l).toList == (bs m).toList) = decide (l = m) := by
  rw [toList_eqB]
  by_cases h : l = m
  · subst h; simp
  · have : bs l ≠ bs m := fun e => h (bs_inj e)
    simp [h, this]
class HasPow : Prop where
  h : ∀ w : World, GInv w → GHas w 7 fun cs => cs = (Lib.pow10Tab.map fun z => Value.int .u64 z).toArray
class HasMax : Prop where
  h : ∀ w : World, GInv w → GHas w 2 fun cs => ∃ m, cs[0]? = some (Value.int .i64 m)
class HasErr : Prop where
  h : ∀ w : World, GInv w → GHas w 5 fun cs => ∃ tp p, cs = #[.iface tp p]
theorem GHas.cell {w : World} {g : Nat} {p : Array Value → Prop} (h : GHas w g p) : ∃ cs, p cs ∧ ∀ i : Nat, w.cell? ⟨g, i, none⟩ = cs[i]? := by
  obtain ⟨cs, t, f, h1, h2⟩ := h
  exact ⟨cs, h2, fun i => by simp [World.cell?, h1]⟩
theorem c_Itoa_small {n : Nat} (h : n < 100) : Fun Tryz.prog 121 none [.int .i64 n] (.str (bs (dig3 n))) [] := by
  refine Fun.of_callsG (by kernel_rfl) fun w M vs hG hr => ?_
  obtain ⟨v, q, rfl, ⟨rfl, _⟩, rfl⟩ := hr
  refine (Tryz.strconv_Itoa_small n h w).mono ?_
  rintro e w' ⟨rfl, rfl⟩
  have hl := dig3_le (n := n) (by omega)
  exact ⟨_, rfl, ⟨by rw [dec3 (by omega)]; rfl, by rw [bs_size]; unfold maxLen; omega⟩, Below.refl _ _⟩
theorem c_Itoa [HasPow] {n : Nat} (h : n < 1000) : Fun Tryz.prog 121 none [.int .i64 n] (.str (bs (dig3 n))) [] := by
  refine Fun.of_callsG (by kernel_rfl) fun w M vs hG hr => ?_
  obtain ⟨v, q, rfl, ⟨rfl, _⟩, rfl⟩ := hr
  have c := Any.strconv_Itoa Tryz.laysM171 n (by omega) (by omega) w (by
    obtain ⟨cs, t, f, h1, rfl⟩ := HasPow.h w hG.2.1
    unfold Lib.TabIs World.var?
    rw [show Tryz.prog.globalNamed _ = some 7 by kernel_rfl]
    simp [h1])
  refine c.mono ?_
  rintro e w' ⟨rfl, k, os, rfl⟩
  have hl := dig3_le h
  refine ⟨_, rfl, ⟨?_, by rw [bs_size]; unfold maxLen; omega⟩, ?_⟩
  · unfold Lib.itoa
    rw [if_neg (by omega), Int.toNat_natCast, dec3 h]; rfl
  · exact ⟨rfl, rfl, rfl, by simp [Go.Sort.grow], fun j hj => by simp [Go.Sort.grow, Array.getElem?_append, hj]⟩
theorem c_impl_FormatNumber_small {n : Nat} (h : n < 100) : Fun Tryz.prog 86 none [.int .i64 n] (.str (bs (dig3 n))) [] := by
  refine Fun.ofV vc_impl_FormatNumber_ok ty_impl_FormatNumber_ok rfl ?_ (fun hfit => ?_)
  · simp [ty_impl_FormatNumber, HasTys, HasVT, HasV1, HasTy]
  unfold vc_impl_FormatNumber
  ((first | refine den_call ?_ (c_Itoa_small h) (trivial) ?_ | refine den_callR ?_ (c_Itoa_small h) (trivial) ?_ | refine den_call ?_ (.ofR (c_Itoa_small h)) (trivial) ?_); (focus (simp only [VC.den, E.den, List.map_cons, List.map_nil, Option.map_none, Option.map_some, List.getD_cons_zero, List.getD_cons_succ, List.cons_append, List.nil_append, List.append_nil, D.toI_int, D.toB_bool, D.toS_str, D.toA_agg, D.toT_tup, D.toR_sl, enc_toA, encS_toR, encS_len, List.drop_succ_cons, List.drop_zero, List.take_succ_cons, List.take_zero, gsH_nil, and_true]; try exact rfl)); (simp only [List.cons_append, List.nil_append]))
  exact den_ret rfl
theorem c_impl_FormatNumber [HasPow] {n : Nat} (h : n < 1000) : Fun Tryz.prog 86 none [.int .i64 n] (.str (bs (dig3 n))) [] := by
  refine Fun.ofV vc_impl_FormatNumber_ok ty_impl_FormatNumber_ok rfl ?_ (fun hfit => ?_)
  · simp [ty_impl_FormatNumber, HasTys, HasVT, HasV1, HasTy]
  unfold vc_impl_FormatNumber
  ((first | refine den_call ?_ (c_Itoa h) (trivial) ?_ | refine den_callR ?_ (c_Itoa h) (trivial) ?_ | refine den_call ?_ (.ofR (c_Itoa h)) (trivial) ?_); (focus (simp only [VC.den, E.den, List.map_cons, List.map_nil, Option.map_none, Option.map_some, List.getD_cons_zero, List.getD_cons_succ, List.cons_append, List.nil_append, List.append_nil, D.toI_int, D.toB_bool, D.toS_str, D.toA_agg, D.toT_tup, D.toR_sl, enc_toA, encS_toR, encS_len, List.drop_succ_cons, List.drop_zero, List.take_succ_cons, List.take_zero, gsH_nil, and_true]; try exact rfl)); (simp only [List.cons_append, List.nil_append]))
  exact den_ret rfl
theorem dig3_step {n : Nat} (h1 : ¬ n < 10) (h2 : n < 1000) : dig3 n = dig3 (n / 10) ++ [UInt8.ofNat (48 + n % 10)] := by
  rw [← dec3 h2, ← dec3 (n := n / 10) (by omega), Lib.decDigits, dif_neg h1]
theorem digit_den (n : Nat) : strOfNums [IntKind.u8.wrap (IntKind.i64.wrap (48 + (n : Int).tmod 10))] = bs [UInt8.ofNat (48 + n % 10)] := by
  have h1 : (n : Int).tmod 10 = ((n % 10 : Nat) : Int) := by rw [Int.tmod_eq_emod_of_nonneg (by omega)]; omega
  rw [h1, wrap_i64 (by omega) (by omega)]
  have h2 : IntKind.u8.wrap (48 + ((n % 10 : Nat) : Int)) = ((48 + n % 10 : Nat) : Int) := by
    simp only [IntKind.wrap, IntKind.bits, IntKind.signed]
    simp
    omega
  rw [h2]
  unfold strOfNums bs
  simp only [List.map_cons, List.map_nil, Int.toNat_natCast]
theorem quo_ten (n : Nat) (h : n < 1000) : arI .quo .i64 n 10 = ((n / 10 : Nat) : Int) := by
  simp only [arI]
  have h1 : (n : Int).tdiv 10 = ((n / 10 : Nat) : Int) := by rw [Int.tdiv_eq_ediv_of_nonneg (by omega)]; omega
  rw [h1, wrap_i64 (by omega) (by omega)]
theorem c_spec_FormatNumber : ∀ {n : Nat}, n < 1000 → Fun Tryz.prog 131 none [.int .i64 n] (.str (bs (dig3 n))) [] := by
  intro n
  induction n using Nat.strongRecOn with
  | ind n ih =>
    intro hn
    have hb : bytesD (.sl ([[D.int .u8 (IntKind.u8.wrap (arI .add .i64 48 (arI .rem .i64 (n : Int) 10)))]])) = bs [UInt8.ofNat (48 + n % 10)] := by
      rw [← digit_den]; rfl
    refine Fun.ofV vc_spec_FormatNumber_ok ty_spec_FormatNumber_ok rfl ?_ (fun hfit => ?_)
    · simp [ty_spec_FormatNumber, HasTys, HasVT, HasV1, HasTy]
    unfold vc_spec_FormatNumber
    refine den_ite (fun h => ?_) (fun _ => ?_)
    · simp [E.den, cmpI] at h
    refine den_ite (fun h => ?_) (fun _ => ?_)
    · simp [E.den, cmpI] at h; omega
    refine den_cond (fun _ => rfl) ?_
    refine den_ite (fun h => ?_) (fun h => ?_)
    · simp [E.den, cmpI] at h
      refine den_cond (fun _ => rfl) ?_
      refine den_call (xs := [.int .i64 ((n / 10 : Nat) : Int)]) ?_ (ih (n / 10) (by omega) (by omega)) trivial ?_
      · simp [E.den, quo_ten n hn]
      refine den_cond (fun _ => ?_) (den_ret ?_)
      · simp only [E.den, List.map_cons, List.map_nil, Option.map_none, Option.map_some, List.getD_cons_zero, List.getD_cons_succ, List.cons_append, List.nil_append, List.append_nil, D.toI_int, D.toB_bool, D.toS_str, D.toA_agg, D.toT_tup, D.toR_sl, enc_toA, encS_toR, encS_len, List.drop_succ_cons, List.drop_zero, List.take_succ_cons, List.take_zero, len_str, at_byte, cmpI_lss, cmpI_leq, cmpI_gtr, cmpI_geq, cmpI_eql, cmpI_neq, cmpS_eql, cmpS_neq, cmpS_lss, cmpS_geq, Int.toNat_natCast, Int.toNat_zero] 
        rw [hb, bs_size, bs_size]
        have := dig3_le (n := n / 10) (by omega)
        simp; unfold maxLen; omega
      · simp only [E.den, List.map_cons, List.map_nil, Option.map_none, Option.map_some, List.getD_cons_zero, List.getD_cons_succ, List.cons_append, List.nil_append, List.append_nil, D.toI_int, D.toB_bool, D.toS_str, D.toA_agg, D.toT_tup, D.toR_sl, enc_toA, encS_toR, encS_len, List.drop_succ_cons, List.drop_zero, List.take_succ_cons, List.take_zero, len_str, at_byte, cmpI_lss, cmpI_leq, cmpI_gtr, cmpI_geq, cmpI_eql, cmpI_neq, cmpS_eql, cmpS_neq, cmpS_lss, cmpS_geq, Int.toNat_natCast, Int.toNat_zero]
        rw [hb, bs_append, dig3_step (n := n) (by omega) hn]
    · simp [E.den, cmpI] at h
      refine den_ret ?_
      simp only [E.den, List.map_cons, List.map_nil, Option.map_none, Option.map_some, List.getD_cons_zero, List.getD_cons_succ, List.cons_append, List.nil_append, List.append_nil, D.toI_int, D.toB_bool, D.toS_str, D.toA_agg, D.toT_tup, D.toR_sl, enc_toA, encS_toR, encS_len, List.drop_succ_cons, List.drop_zero, List.take_succ_cons, List.take_zero, len_str, at_byte, cmpI_lss, cmpI_leq, cmpI_gtr, cmpI_geq, cmpI_eql, cmpI_neq, cmpS_eql, cmpS_neq, cmpS_lss, cmpS_geq, Int.toNat_natCast, Int.toNat_zero]
      rw [hb]
      have : dig3 n = [UInt8.ofNat (48 + n % 10)] := by unfold dig3; rw [if_pos (by omega)]; congr; omega
      rw [this]
/-- What the numbers' reader gives. -/
def numI (s : ByteArray) : Int := match numO s.data.toList with | some n => n | none => 0
def numK (s : ByteArray) : Bool := (numO s.data.toList).isSome
def numD (s : ByteArray) : D := .tup [.int .i64 (numI s), .bool (numK s)]
theorem ty_numD (s : ByteArray) : HasVT tbl.tab (.tup [.c (.int .i64), .c .bool]) (numD s) := ⟨rfl, trivial, trivial⟩
theorem numI_some {s : ByteArray} {n : Nat} (h : numO s.data.toList = some n) : numI s = n := by unfold numI; rw [h]
theorem numK_some {s : ByteArray} {n : Nat} (h : numO s.data.toList = some n) : numK s = true := by unfold numK; rw [h]; rfl
theorem numI_none {s : ByteArray} (h : numO s.data.toList = none) : numI s = 0 := by unfold numI; rw [h]
theorem numK_none {s : ByteArray} (h : numO s.data.toList = none) : numK s = false := by unfold numK; rw [h]; rfl
theorem numI_dig {n : Nat} (h : n < 1000) : numI (bs (dig3 n)) = n := numI_some (by rw [bs_toList]; exact numO_dig h)
theorem numK_dig {n : Nat} (h : n < 1000) : numK (bs (dig3 n)) = true := numK_some (by rw [bs_toList]; exact numO_dig h)
theorem numK_true {s : ByteArray} (h : numK s = true) : ∃ n : Nat, n < 1000 ∧ s = bs (dig3 n) ∧ numI s = n := by
  unfold numK at h
  obtain ⟨n, hn⟩ := Option.isSome_iff_exists.1 h
  obtain ⟨h1, h2⟩ := numO_some.1 hn
  exact ⟨n, h1, by rw [h2, bs_data], numI_some hn⟩
theorem numI_bnd (s : ByteArray) : 0 ≤ numI s ∧ numI s < 1000 := by
  unfold numI
  cases h : numO s.data.toList with
  | none => simp
  | some n => have := (numO_some.1 h).1; simp; omega
theorem atoi_num {l : List UInt8} {n : Nat} (h : numO l = some n) : Lib.atoi l = some (n : Int) := by
  obtain ⟨h1, rfl⟩ := numO_some.1 h
  exact dig3_atoi h1
theorem size_data (s : ByteArray) : s.data.toList.length = s.size := Array.length_toList
theorem bytes_below {w w' : World} {e : TypeId} {t : ByteArray} (h : w' = Lib.bytesWorld w e t) : Below w.heap.size w w' := by
  subst h
  exact Lib.bytesWorld_below _ _ _
theorem R_num {w : World} {M : Addr → Prop} {n : Int} {b : Bool} (h0 : -9223372036854775808 ≤ n) (h1 : n ≤ 9223372036854775807) : R w M (.tup [.int .i64 n, .bool b]) (.tuple #[.int .i64 n, .bool b]) :=
  ⟨_, rfl, _, _, rfl, ⟨rfl, h0, h1⟩, _, _, rfl, rfl, rfl⟩
theorem R_num0 {w : World} {M : Addr → Prop} {s : ByteArray} (h : numO s.data.toList = none) : R w M (numD s) (.tuple #[.int .i64 0, .bool false]) := by
  unfold numD; rw [numI_none h, numK_none h]; exact R_num (by omega) (by omega)
theorem R_num1 {w : World} {M : Addr → Prop} {s : ByteArray} {n : Nat} (h : numO s.data.toList = some n) : R w M (numD s) (.tuple #[.int .i64 n, .bool true]) := by
  have := (numO_some.1 h).1
  unfold numD; rw [numI_some h, numK_some h]; exact R_num (by omega) (by omega)
theorem c_impl_ParseNumber [HasPow] [HasErr] (s : ByteArray) : Fun Tryz.prog 89 none [.str s] (numD s) [] := by
  refine Fun.of_callsG (by kernel_rfl) fun w M vs hG hr => ?_
  obtain ⟨v, q, rfl, ⟨rfl, hsm⟩, rfl⟩ := hr
  have hM := hG.1
  have no0 := fun W (h : numO s.data.toList = none) => R_num0 (w := W) (M := M) h
  by_cases hl : 1 ≤ s.size ∧ s.size ≤ 3
  · have a1 : ((s.size : Int) < 1) = False := by simp; omega
    have a2 : ((s.size : Int) > 3) = False := by simp; omega
    cases ha : Lib.atoi s.data.toList with
    | none =>
      have hn : numO s.data.toList = none := by
        cases h : numO s.data.toList with
        | none => rfl
        | some n => rw [atoi_num h] at ha; cases ha
      obtain ⟨cs, ⟨tp, p, rfl⟩, hc⟩ := (HasErr.h w hG.2.1).cell
      have hv := hc 0
      simp at hv
      have HC := Lib.hid (fun W (hW : W = w) => Tryz.strconv_Atoi_err s (by omega) ha (.iface tp p) W (by rw [hW]; exact hv) (Or.inr ⟨tp, p, rfl⟩))
      have HN := Lib.hid hn
      clear hv hc ha hn
      go_enter Tryz.func89, Tryz.ntmps89
      go_wp2_with (go_at_call 126; refine (HC.out _ rfl).mono ?_; rintro e w1 ⟨N0, rfl, hb0, hb1, hb⟩)
      go_ret2
      exact ⟨_, rfl, no0 _ HN.out, hb⟩
    | some z =>
      have HC := Lib.hid (fun W => Tryz.strconv_Atoi s z (by omega) ha W)
      by_cases hz : 0 ≤ z ∧ z ≤ 999
      · obtain ⟨n, rfl⟩ := Int.eq_ofNat_of_zero_le hz.1
        have hn : n < 1000 := by omega
        have b1 : (0 : Int) ≤ (n : Int) := by omega
        have b2 : (n : Int) ≤ 999 := by omega
        have HF := Lib.hid (fun (w0 : World) (hb : Below w.heap.size w w0) => (c_impl_FormatNumber hn).2 w0 M 0 [.int .i64 n] (hG.below hb fun p hp => Nat.lt_of_lt_of_le (hM p hp) hb.size) (Rs.one ⟨rfl, by show (-9223372036854775808 : Int) ≤ n; omega, by show (n : Int) ≤ 9223372036854775807; omega⟩) (fun cs h => by cases h))
        have hne : ((bs (dig3 n)).toList == s.toList) = decide (numO s.data.toList = some n) := by
          rw [toList_eqB]
          by_cases h : numO s.data.toList = some n
          · have := (numO_some.1 h).2
            simp [h, this, bs_data]
          · have : bs (dig3 n) ≠ s := fun e => h (by rw [← e, bs_toList]; exact numO_dig hn)
            simp [h, this]
        by_cases hq : numO s.data.toList = some n
        · have HQ := Lib.hid hq
          have e1 : ((bs (dig3 n)).toList == s.toList) = true := by rw [hne]; simp [hq]
          clear hne hq ha
          go_enter Tryz.func89, Tryz.ntmps89
          go_wp2_with (first | (go_at_call 126; refine (HC.out _).mono ?_; rintro e w1 ⟨rfl, t1, hb1⟩; replace hb1 := bytes_below hb1) | (go_at_call 86; refine (HF.out _ (by go_grown)).mono ?_; rintro e w2 ⟨v2, rfl, ⟨rfl, -⟩, hb2, -⟩; replace hb2 := hb2.to_below) | go_in)
          go_ret2
          exact ⟨_, rfl, R_num1 HQ.out, bt hb1 hb2⟩
        · have e1 : ((bs (dig3 n)).toList == s.toList) = false := by rw [hne]; simp [hq]
          have hno : numO s.data.toList = none := by
            cases h : numO s.data.toList with
            | none => rfl
            | some m =>
              have := atoi_num h
              rw [ha] at this
              have e : n = m := by have := Option.some.inj this; omega
              subst e
              exact absurd h hq
          have HN := Lib.hid hno
          clear hne hq ha hno
          go_enter Tryz.func89, Tryz.ntmps89
          go_wp2_with (first | (go_at_call 126; refine (HC.out _).mono ?_; rintro e w1 ⟨rfl, t1, hb1⟩; replace hb1 := bytes_below hb1) | (go_at_call 86; refine (HF.out _ (by go_grown)).mono ?_; rintro e w2 ⟨v2, rfl, ⟨rfl, -⟩, hb2, -⟩; replace hb2 := hb2.to_below) | go_in)
          go_ret2
          exact ⟨_, rfl, no0 _ HN.out, bt hb1 hb2⟩
      · have hno : numO s.data.toList = none := by
          cases h : numO s.data.toList with
          | none => rfl
          | some m =>
            have h1 := (numO_some.1 h).1
            have := atoi_num h
            rw [ha] at this
            have e : z = (m : Int) := Option.some.inj this
            subst e
            exact absurd ⟨by omega, by omega⟩ hz
        have HN := Lib.hid hno
        have e1 : (decide (0 ≤ z) && decide (z ≤ 999)) = false := by
          rw [Bool.and_eq_false_iff]; simp; omega
        by_cases hz0 : 0 ≤ z
        · have b2 : (z ≤ 999) = False := by simp; omega
          clear e1 hz hno ha
          go_enter Tryz.func89, Tryz.ntmps89
          go_wp2_with (first | (go_at_call 126; refine (HC.out _).mono ?_; rintro e w1 ⟨rfl, t1, hb1⟩; replace hb1 := bytes_below hb1) | go_in)
          go_ret2
          exact ⟨_, rfl, no0 _ HN.out, hb1⟩
        · have b2 : (0 ≤ z) = False := by simp; omega
          clear e1 hz hno hz0 ha
          go_enter Tryz.func89, Tryz.ntmps89
          go_wp2_with (first | (go_at_call 126; refine (HC.out _).mono ?_; rintro e w1 ⟨rfl, t1, hb1⟩; replace hb1 := bytes_below hb1) | go_in)
          go_ret2
          exact ⟨_, rfl, no0 _ HN.out, hb1⟩
  · have hno : numO s.data.toList = none := by
      cases h : numO s.data.toList with
      | none => rfl
      | some m =>
        obtain ⟨h1, h2⟩ := numO_some.1 h
        have h3 := dig3_pos h1
        have h4 := dig3_le h1
        rw [h2, size_data] at h3 h4
        exact absurd ⟨h3, h4⟩ hl
    have HN := Lib.hid hno
    clear hno
    by_cases h0 : s.size = 0
    · have a1 : ((s.size : Int) < 1) = True := by simp; omega
      clear hl h0
      go_enter Tryz.func89, Tryz.ntmps89
      go_wp2_with fail
      go_ret2
      exact ⟨_, rfl, no0 _ HN.out, Below.refl _ _⟩
    · have a1 : ((s.size : Int) < 1) = False := by simp; omega
      have a2 : ((s.size : Int) > 3) = True := by simp; omega
      clear hl h0
      go_enter Tryz.func89, Tryz.ntmps89
      go_wp2_with fail
      go_ret2
      exact ⟨_, rfl, no0 _ HN.out, Below.refl _ _⟩
/-- The reading loop's number behind k bytes. -/
def rdK (l : List UInt8) (k : Nat) : Int := (l.take k).foldl (fun n c => 10 * n + (c.toNat : Int) - 48) 0
def rdBnd : Nat → Int
  | 0 => 0
  | k + 1 => 10 * rdBnd k + 255
theorem rdK_succ {l : List UInt8} {k : Nat} (h : k < l.length) : rdK l (k + 1) = 10 * rdK l k + (l[k].toNat : Int) - 48 := by
  unfold rdK
  rw [List.take_add_one, List.getElem?_eq_getElem h, Option.toList_some, List.foldl_append]
  rfl
theorem rdK_bnd (l : List UInt8) : ∀ k, -rdBnd k ≤ rdK l k ∧ rdK l k ≤ rdBnd k
  | 0 => by simp [rdK, rdBnd]
  | k + 1 => by
    have ih := rdK_bnd l k
    rcases Nat.lt_or_ge k l.length with h | h
    · rw [rdK_succ h]
      have := l[k].toNat_lt
      simp only [rdBnd]; omega
    · have : rdK l (k + 1) = rdK l k := by unfold rdK; rw [List.take_of_length_le h, List.take_of_length_le (by omega)]
      rw [this]; simp only [rdBnd]; omega
theorem rdBnd_le : ∀ k, k ≤ 4 → rdBnd k ≤ 283305
  | 0, _ => by decide
  | 1, _ => by decide
  | 2, _ => by decide
  | 3, _ => by decide
  | 4, _ => by decide
  | k + 5, h => by omega
theorem rdK_four (l : List UInt8) {k : Nat} (h : k = 4 ∨ l.length ≤ k ∧ k ≤ 4) : rdK l k = rd4 l := by
  unfold rdK rd4
  rcases h with rfl | ⟨h1, h2⟩
  · rfl
  · rw [List.take_of_length_le h1, List.take_of_length_le (by omega)]
theorem at_num {s : ByteArray} {k : Nat} (h : k < s.data.toList.length) : ((s[k]?).map (fun (c : UInt8) => (c.toNat : Int))).getD 0 = ((s.data.toList[k]).toNat : Int) := by
  have h2 : k < s.size := by rw [size_data] at h; exact h
  rw [getElem?_pos s k h2]
  simp [ByteArray.getElem_eq_getElem_data]
theorem c_spec_ParseNumber (s : ByteArray) : Fun Tryz.prog 99 none [.str s] (numD s) [] := by
  refine Fun.ofV vc_spec_ParseNumber_ok ty_spec_ParseNumber_ok rfl ?_ (fun hfit => ?_)
  · simp [ty_spec_ParseNumber, HasTys, HasVT, HasV1, HasTy]
  have hsm : s.size ≤ maxLen := by simp [FitsL, Fits] at hfit; exact hfit
  unfold vc_spec_ParseNumber
  refine den_for 4 (fun k => [.int .i64 (rdK s.data.toList k), .int .i64 k]) (fun k => k ≤ s.size) rfl (Nat.zero_le _) (fun k hk hI _ => ?_)
  have hb := rdK_bnd s.data.toList k
  have hB := rdBnd_le k hk
  refine den_ite (fun h => ?_) (fun h => ?_)
  · simp only [E.den, List.map_cons, List.map_nil, Option.map_none, Option.map_some, List.getD_cons_zero, List.getD_cons_succ, List.cons_append, List.nil_append, List.append_nil, D.toI_int, D.toB_bool, D.toS_str, D.toA_agg, D.toT_tup, D.toR_sl, enc_toA, encS_toR, encS_len, List.drop_succ_cons, List.drop_zero, List.take_succ_cons, List.take_zero, len_str, at_byte, cmpI_lss, cmpI_leq, cmpI_gtr, cmpI_geq, cmpI_eql, cmpI_neq, cmpS_eql, cmpS_neq, cmpS_lss, cmpS_geq, Int.toNat_natCast, Int.toNat_zero] at h
    simp at h
    obtain ⟨h1, h2⟩ := h
    have hlt : k < s.data.toList.length := by rw [size_data]; omega
    refine den_cond (fun _ => ?_) ?_
    · simp only [E.den, List.map_cons, List.map_nil, Option.map_none, Option.map_some, List.getD_cons_zero, List.getD_cons_succ, List.cons_append, List.nil_append, List.append_nil, D.toI_int, D.toB_bool, D.toS_str, D.toA_agg, D.toT_tup, D.toR_sl, enc_toA, encS_toR, encS_len, List.drop_succ_cons, List.drop_zero, List.take_succ_cons, List.take_zero, len_str, at_byte, cmpI_lss, cmpI_leq, cmpI_gtr, cmpI_geq, cmpI_eql, cmpI_neq, cmpS_eql, cmpS_neq, cmpS_lss, cmpS_geq, Int.toNat_natCast, Int.toNat_zero]; simp; omega
    refine den_next (by omega) ?_ (by omega)
    have hc := (s.data.toList[k]).toNat_lt
    simp only [E.den, List.map_cons, List.map_nil, Option.map_none, Option.map_some, List.getD_cons_zero, List.getD_cons_succ, List.cons_append, List.nil_append, List.append_nil, D.toI_int, D.toB_bool, D.toS_str, D.toA_agg, D.toT_tup, D.toR_sl, enc_toA, encS_toR, encS_len, List.drop_succ_cons, List.drop_zero, List.take_succ_cons, List.take_zero, len_str, at_byte, cmpI_lss, cmpI_leq, cmpI_gtr, cmpI_geq, cmpI_eql, cmpI_neq, cmpS_eql, cmpS_neq, cmpS_lss, cmpS_geq, Int.toNat_natCast, Int.toNat_zero]
    rw [rdK_succ hlt]
    have hz : byteZ s k = ((s.data.toList[k]).toNat : Int) := at_num hlt
    simp only [arI, hz]
    rw [wrap_i64 (n := 10 * rdK s.data.toList k) (by omega) (by omega), wrap_i64 (n := (s.data.toList[k].toNat : Int)) (by omega) (by omega), wrap_i64 (n := 10 * rdK s.data.toList k + _) (by omega) (by omega), wrap_i64 (n := _ - 48) (by omega) (by omega), wrap_i64 (by omega) (by omega)]
    rfl
  · simp only [E.den, List.map_cons, List.map_nil, Option.map_none, Option.map_some, List.getD_cons_zero, List.getD_cons_succ, List.cons_append, List.nil_append, List.append_nil, D.toI_int, D.toB_bool, D.toS_str, D.toA_agg, D.toT_tup, D.toR_sl, enc_toA, encS_toR, encS_len, List.drop_succ_cons, List.drop_zero, List.take_succ_cons, List.take_zero, len_str, at_byte, cmpI_lss, cmpI_leq, cmpI_gtr, cmpI_geq, cmpI_eql, cmpI_neq, cmpS_eql, cmpS_neq, cmpS_lss, cmpS_geq, Int.toNat_natCast, Int.toNat_zero] at h
    simp at h
    have h4 : rdK s.data.toList k = rd4 s.data.toList := rdK_four _ (by rw [size_data]; omega)
    rw [h4] at hb ⊢
    refine den_callg (xs := [.int .i64 (rd4 s.data.toList)]) (r := .str (bs (dig3 (rd4 s.data.toList).toNat))) rfl (fun hg => ?_) trivial ?_
    · simp only [gsH, List.mem_cons, List.not_mem_nil, or_false, forall_eq] at hg
      simp only [E.den, List.map_cons, List.map_nil, Option.map_none, Option.map_some, List.getD_cons_zero, List.getD_cons_succ, List.cons_append, List.nil_append, List.append_nil, D.toI_int, D.toB_bool, D.toS_str, D.toA_agg, D.toT_tup, D.toR_sl, enc_toA, encS_toR, encS_len, List.drop_succ_cons, List.drop_zero, List.take_succ_cons, List.take_zero, len_str, at_byte, cmpI_lss, cmpI_leq, cmpI_gtr, cmpI_geq, cmpI_eql, cmpI_neq, cmpS_eql, cmpS_neq, cmpS_lss, cmpS_geq, Int.toNat_natCast, Int.toNat_zero] at hg
      simp at hg
      have e : rd4 s.data.toList = ((rd4 s.data.toList).toNat : Int) := by omega
      rw [e]
      exact c_spec_FormatNumber (by omega)
    refine den_ite (fun h => ?_) (fun h => ?_)
    · simp only [E.den, List.map_cons, List.map_nil, Option.map_none, Option.map_some, List.getD_cons_zero, List.getD_cons_succ, List.cons_append, List.nil_append, List.append_nil, D.toI_int, D.toB_bool, D.toS_str, D.toA_agg, D.toT_tup, D.toR_sl, enc_toA, encS_toR, encS_len, List.drop_succ_cons, List.drop_zero, List.take_succ_cons, List.take_zero, len_str, at_byte, cmpI_lss, cmpI_leq, cmpI_gtr, cmpI_geq, cmpI_eql, cmpI_neq, cmpS_eql, cmpS_neq, cmpS_lss, cmpS_geq, Int.toNat_natCast, Int.toNat_zero] at h
      refine den_ret ?_
      simp only [E.den, List.map_cons, List.map_nil, Option.map_none, Option.map_some, List.getD_cons_zero, List.getD_cons_succ, List.cons_append, List.nil_append, List.append_nil, D.toI_int, D.toB_bool, D.toS_str, D.toA_agg, D.toT_tup, D.toR_sl, enc_toA, encS_toR, encS_len, List.drop_succ_cons, List.drop_zero, List.take_succ_cons, List.take_zero, len_str, at_byte, cmpI_lss, cmpI_leq, cmpI_gtr, cmpI_geq, cmpI_eql, cmpI_neq, cmpS_eql, cmpS_neq, cmpS_lss, cmpS_geq, Int.toNat_natCast, Int.toNat_zero]
      have hno : numO s.data.toList = none := by
        cases hq : numO s.data.toList with
        | none => rfl
        | some m =>
          exfalso
          obtain ⟨q1, q2⟩ := numO_some.1 hq
          have q3 := dig3_rd q1
          rw [q2] at q3
          have q4 := dig3_pos q1
          rw [q2, size_data] at q4
          have hs' : bs (dig3 m) = s := by rw [q2, bs_data]
          have hne : s ≠ ByteArray.empty := by rintro rfl; simp at q4
          rw [q3] at h
          simp [hs', hne] at h
          omega
      rw [numD, numI_none hno, numK_none hno]
    · simp only [E.den, List.map_cons, List.map_nil, Option.map_none, Option.map_some, List.getD_cons_zero, List.getD_cons_succ, List.cons_append, List.nil_append, List.append_nil, D.toI_int, D.toB_bool, D.toS_str, D.toA_agg, D.toT_tup, D.toR_sl, enc_toA, encS_toR, encS_len, List.drop_succ_cons, List.drop_zero, List.take_succ_cons, List.take_zero, len_str, at_byte, cmpI_lss, cmpI_leq, cmpI_gtr, cmpI_geq, cmpI_eql, cmpI_neq, cmpS_eql, cmpS_neq, cmpS_lss, cmpS_geq, Int.toNat_natCast, Int.toNat_zero] at h
      simp at h
      obtain ⟨⟨⟨h1, h2⟩, h3⟩, h5⟩ := h
      refine den_ret ?_
      simp only [E.den, List.map_cons, List.map_nil, Option.map_none, Option.map_some, List.getD_cons_zero, List.getD_cons_succ, List.cons_append, List.nil_append, List.append_nil, D.toI_int, D.toB_bool, D.toS_str, D.toA_agg, D.toT_tup, D.toR_sl, enc_toA, encS_toR, encS_len, List.drop_succ_cons, List.drop_zero, List.take_succ_cons, List.take_zero, len_str, at_byte, cmpI_lss, cmpI_leq, cmpI_gtr, cmpI_geq, cmpI_eql, cmpI_neq, cmpS_eql, cmpS_neq, cmpS_lss, cmpS_geq, Int.toNat_natCast, Int.toNat_zero]
      have e : rd4 s.data.toList = ((rd4 s.data.toList).toNat : Int) := by omega
      have hs : dig3 (rd4 s.data.toList).toNat = s.data.toList := by
        have h7 := congrArg (fun x : ByteArray => x.data.toList) h5
        simpa using h7
      have hn := numO_some.2 ⟨(by omega : (rd4 s.data.toList).toNat < 1000), hs⟩
      rw [numD, numI_some hn, numK_some hn, ← e]
end Go.Proofs.YtmhfncdhplmomaaGreatDoor
