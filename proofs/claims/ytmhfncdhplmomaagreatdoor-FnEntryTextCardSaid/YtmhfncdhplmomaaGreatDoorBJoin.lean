/- Contracts: texts joined; faces as texts. -/
import Derived.Test.YtmhfncdhplmomaaGreatDoorBVerText
import Derived.Test.YtmhfncdhplmomaaGreatDoorBEntry
import Derived.Test.YtmhfncdhplmomaaGreatDoorBLaws
namespace Go.Proofs.YtmhfncdhplmomaaGreatDoor
open Go.RowKit Go
set_option linter.unusedVariables false
set_option linter.unusedSimpArgs false
set_option maxRecDepth 100000
set_option linter.unusedSectionVars false
variable [GC]
def joinB (l : List ByteArray) (sep : ByteArray) : ByteArray := ⟨(Lib.join (l.map (·.data.toList)) sep.data.toList).toArray⟩
theorem joinB_size (l : List ByteArray) (sep : ByteArray) : (joinB l sep).size = (Lib.join (l.map (·.data.toList)) sep.data.toList).length := bs_size _
theorem bs_of (s : ByteArray) : bs s.data.toList = s := by simp [bs]
theorem joinB_succ {l : List ByteArray} {k : Nat} (h : k < l.length) (sep : ByteArray) : joinB (l.take (k + 1)) sep = if k = 0 then nth l k else joinB (l.take k) sep ++ sep ++ nth l k := by
  cases l with
  | nil => simp at h
  | cons x r =>
    cases k with
    | zero =>
      rw [if_pos rfl]
      show bs (Lib.join [x.data.toList] _) = _
      rw [Lib.join_one, bs_of]; rfl
    | succ j =>
      rw [if_neg (by omega)]
      have hj : j < r.length := by simpa using h
      have e : (r.map (·.data.toList))[j]? = some ((nth (x :: r) (j + 1)).data.toList) := by
        simp [nth, hj]
      simp only [joinB, List.take_succ_cons, List.map_cons, List.map_take, Lib.join_cons]
      rw [Lib.joinTail_take_succ _ _ _ _ e]
      apply ByteArray.ext
      simp [ByteArray.data_append]
theorem joinB_le (l : List ByteArray) (sep : ByteArray) (k : Nat) : (joinB (l.take k) sep).size ≤ (joinB l sep).size := by
  rw [joinB_size, joinB_size]
  cases l with
  | nil => simp
  | cons x r =>
    cases k with
    | zero => simp [Lib.join_nil]
    | succ j =>
      simp only [List.take_succ_cons, List.map_cons, List.map_take, Lib.join_cons, List.length_append]
      have := Lib.joinTail_take_le sep.data.toList (r.map (·.data.toList)) j
      omega
theorem joinB_bound {l : List ByteArray} {sep : ByteArray} {n : Nat} (h : ∀ k, k < l.length → (nth l k).size ≤ n) : (joinB l sep).size ≤ l.length * (n + sep.size) := by
  have : ∀ k, k ≤ l.length → (joinB (l.take k) sep).size ≤ k * (n + sep.size) := by
    intro k
    induction k with
    | zero => intro _; simp [joinB_size, Lib.join_nil]
    | succ k ih =>
      intro hk
      have h1 := ih (by omega)
      have h2 := h k (by omega)
      rw [joinB_succ (by omega), Nat.add_mul]
      split
      · omega
      · simp only [ByteArray.size_append]; omega
  simpa using this l.length (Nat.le_refl _)
theorem c_Join (l : List ByteArray) (sep : ByteArray) (hN : l.length ≤ 140737488355328) (hlen : (joinB l sep).size ≤ 140737488355328) : Fun Tryz.prog 85 none [encS l, .str sep] (.str (joinB l sep)) [] := by
  refine Fun.of_callsG (by kernel_rfl) fun w M vs hG hr => ?_
  obtain ⟨v, q, rfl, ⟨a, len, cap, rfl, rfl, hc, hm, ha, hb⟩, v2, q2, rfl, ⟨rfl, _⟩, rfl⟩ := hr
  have hsz : (joinB l sep).size ≤ maxLen := by unfold maxLen; omega
  by_cases h0 : l = []
  · subst h0
    refine (Tryz.strings_Join_none a cap sep w).mono ?_
    rintro e w' ⟨rfl, rfl⟩
    exact ⟨_, rfl, ⟨rfl, hsz⟩, Below.refl _ _⟩
  · have hpos : 0 < l.length := List.length_pos_iff.2 h0
    simp only [List.length_map] at hc hb ⊢
    cases a with
    | none => have := ha rfl; omega
    | some ad =>
      obtain ⟨b, o, s⟩ := ad
      obtain ⟨h1, h2⟩ := hb b o s rfl
      obtain rfl := h1 hpos
      have hcell : ∀ (j : Nat) x, l[j]? = some x → w.cell? ⟨b, o + j, none⟩ = some (.string x) := fun j x hx => by
        have h3 := Rws.get (n := 1) h2 (fun r hr => by obtain ⟨y, _, rfl⟩ := List.mem_map.1 hr; rfl) (i := j) (r := [.str x]) (by rw [List.getElem?_map, hx]; rfl)
        obtain ⟨⟨v, h4, _, rfl, _⟩, _⟩ := h3
        simpa using h4
      have hbk : b < w.heap.size := by
        have := hcell 0 _ (List.getElem?_eq_getElem hpos)
        unfold World.cell? at this
        rcases Nat.lt_or_ge b w.heap.size with h | h
        · exact h
        · simp only [Array.getElem?_eq_none h] at this; cases this
      refine (Tryz.strings_Join b o cap l sep w hcell hbk hN hc (by rw [← joinB_size]; exact hlen)).mono ?_
      rintro e w' ⟨rfl, hw⟩
      exact ⟨_, rfl, ⟨rfl, hsz⟩, hw⟩
theorem c_impl_JoinWith (l : List ByteArray) (sep : ByteArray) (hN : l.length ≤ 140737488355328) (hlen : (joinB l sep).size ≤ 140737488355328) : Fun Tryz.prog 43 none [encS l, .str sep] (.str (joinB l sep)) [] := by
  refine Fun.ofV vc_impl_JoinWith_ok ty_impl_JoinWith_ok rfl ?_ (fun hfit => ?_)
  · exact ⟨ty_strS l, trivial, trivial⟩
  unfold vc_impl_JoinWith
  ((first | refine den_call ?_ (c_Join l sep hN hlen) (trivial) ?_ | refine den_callR ?_ (c_Join l sep hN hlen) (trivial) ?_ | refine den_call ?_ (.ofR (c_Join l sep hN hlen)) (trivial) ?_); (focus (simp only [VC.den, E.den, List.map_cons, List.map_nil, Option.map_none, Option.map_some, List.getD_cons_zero, List.getD_cons_succ, List.cons_append, List.nil_append, List.append_nil, D.toI_int, D.toB_bool, D.toS_str, D.toA_agg, D.toT_tup, D.toR_sl, enc_toA, encS_toR, encS_len, List.drop_succ_cons, List.drop_zero, List.take_succ_cons, List.take_zero, gsH_nil, and_true]; try exact rfl)); (simp only [List.cons_append, List.nil_append]))
  exact den_ret rfl
theorem c_spec_JoinWith (l : List ByteArray) (sep : ByteArray) (hN : l.length ≤ 140737488355328) (hlen : (joinB l sep).size ≤ 140737488355328) : Fun Tryz.prog 61 none [encS l, .str sep] (.str (joinB l sep)) [] := by
  refine Fun.ofV vc_spec_JoinWith_ok ty_spec_JoinWith_ok rfl ?_ (fun hfit => ?_)
  · exact ⟨ty_strS l, trivial, trivial⟩
  unfold vc_spec_JoinWith
  refine den_for l.length (fun k => [.str (joinB (l.take k) sep), .int .i64 k]) (fun _ => True) rfl trivial ?_
  intro k hk hI _
  simp only [List.cons_append, List.nil_append]
  refine den_ite (fun h2 => ?_) (fun h2 => ?_)
  · simp only [E.den, List.map_cons, List.map_nil, Option.map_none, Option.map_some, List.getD_cons_zero, List.getD_cons_succ, List.cons_append, List.nil_append, List.append_nil, D.toI_int, D.toB_bool, D.toS_str, D.toA_agg, D.toT_tup, D.toR_sl, enc_toA, encS_toR, encS_len, List.drop_succ_cons, List.drop_zero, List.take_succ_cons, List.take_zero, len_str, at_byte, cmpI_lss, cmpI_leq, cmpI_gtr, cmpI_geq, cmpI_eql, cmpI_neq, cmpS_eql, cmpS_neq, cmpS_lss, cmpS_geq, Int.toNat_natCast, Int.toNat_zero] at h2
    have h2 : k < l.length := by simp at h2; exact h2
    (refine den_cond (fun hg => ?_) ?_; (focus (simp only [gsH, List.mem_cons, List.not_mem_nil, or_false, forall_eq_or_imp, forall_eq, E.den, List.map_cons, List.map_nil, Option.map_none, Option.map_some, List.getD_cons_zero, List.getD_cons_succ, List.cons_append, List.nil_append, List.append_nil, D.toI_int, D.toB_bool, D.toS_str, D.toA_agg, D.toT_tup, D.toR_sl, enc_toA, encS_toR, encS_len, List.drop_succ_cons, List.drop_zero, List.take_succ_cons, List.take_zero, len_str, at_byte, cmpI_lss, cmpI_leq, cmpI_gtr, cmpI_geq, cmpI_eql, cmpI_neq, cmpS_eql, cmpS_neq, cmpS_lss, cmpS_geq, Int.toNat_natCast, Int.toNat_zero] at hg ⊢; (try simp only [D.bool.injEq] at hg); (try simp only [D.bool.injEq]); grind)))
    have hle := joinB_le l sep (k + 1)
    have e := joinB_succ h2 sep
    refine den_ite (fun h3 => ?_) (fun h3 => ?_)
    · simp only [E.den, List.map_cons, List.map_nil, Option.map_none, Option.map_some, List.getD_cons_zero, List.getD_cons_succ, List.cons_append, List.nil_append, List.append_nil, D.toI_int, D.toB_bool, D.toS_str, D.toA_agg, D.toT_tup, D.toR_sl, enc_toA, encS_toR, encS_len, List.drop_succ_cons, List.drop_zero, List.take_succ_cons, List.take_zero, len_str, at_byte, cmpI_lss, cmpI_leq, cmpI_gtr, cmpI_geq, cmpI_eql, cmpI_neq, cmpS_eql, cmpS_neq, cmpS_lss, cmpS_geq, Int.toNat_natCast, Int.toNat_zero] at h3
      have h3 : k ≠ 0 := by simp at h3; omega
      rw [if_neg h3] at e
      rw [e, ByteArray.size_append, ByteArray.size_append] at hle
      refine den_cond (fun _ => ?_) ?_
      · simp only [E.den, List.map_cons, List.map_nil, Option.map_none, Option.map_some, List.getD_cons_zero, List.getD_cons_succ, List.cons_append, List.nil_append, List.append_nil, D.toI_int, D.toB_bool, D.toS_str, D.toA_agg, D.toT_tup, D.toR_sl, enc_toA, encS_toR, encS_len, List.drop_succ_cons, List.drop_zero, List.take_succ_cons, List.take_zero, len_str, at_byte, cmpI_lss, cmpI_leq, cmpI_gtr, cmpI_geq, cmpI_eql, cmpI_neq, cmpS_eql, cmpS_neq, cmpS_lss, cmpS_geq, Int.toNat_natCast, Int.toNat_zero]; simp [maxLen]; exact decide_eq_true (by omega)
      refine den_cond (fun _ => ?_) ?_
      · simp only [E.den, List.map_cons, List.map_nil, Option.map_none, Option.map_some, List.getD_cons_zero, List.getD_cons_succ, List.cons_append, List.nil_append, List.append_nil, D.toI_int, D.toB_bool, D.toS_str, D.toA_agg, D.toT_tup, D.toR_sl, enc_toA, encS_toR, encS_len, List.drop_succ_cons, List.drop_zero, List.take_succ_cons, List.take_zero, len_str, at_byte, cmpI_lss, cmpI_leq, cmpI_gtr, cmpI_geq, cmpI_eql, cmpI_neq, cmpS_eql, cmpS_neq, cmpS_lss, cmpS_geq, Int.toNat_natCast, Int.toNat_zero, row_str, cells_str]; simp [maxLen, ByteArray.size_append]; omega
      refine den_next h2 ?_ trivial
      simp only [E.den, List.map_cons, List.map_nil, Option.map_none, Option.map_some, List.getD_cons_zero, List.getD_cons_succ, List.cons_append, List.nil_append, List.append_nil, D.toI_int, D.toB_bool, D.toS_str, D.toA_agg, D.toT_tup, D.toR_sl, enc_toA, encS_toR, encS_len, List.drop_succ_cons, List.drop_zero, List.take_succ_cons, List.take_zero, len_str, at_byte, cmpI_lss, cmpI_leq, cmpI_gtr, cmpI_geq, cmpI_eql, cmpI_neq, cmpS_eql, cmpS_neq, cmpS_lss, cmpS_geq, Int.toNat_natCast, Int.toNat_zero, row_str, cells_str]
      rw [ar_add (by omega) (by omega), e]; rfl
    · simp only [E.den, List.map_cons, List.map_nil, Option.map_none, Option.map_some, List.getD_cons_zero, List.getD_cons_succ, List.cons_append, List.nil_append, List.append_nil, D.toI_int, D.toB_bool, D.toS_str, D.toA_agg, D.toT_tup, D.toR_sl, enc_toA, encS_toR, encS_len, List.drop_succ_cons, List.drop_zero, List.take_succ_cons, List.take_zero, len_str, at_byte, cmpI_lss, cmpI_leq, cmpI_gtr, cmpI_geq, cmpI_eql, cmpI_neq, cmpS_eql, cmpS_neq, cmpS_lss, cmpS_geq, Int.toNat_natCast, Int.toNat_zero] at h3
      have h3 : k = 0 := by simp at h3; omega
      subst h3
      rw [if_pos rfl] at e
      rw [e] at hle
      refine den_cond (fun _ => ?_) ?_
      · simp only [E.den, List.map_cons, List.map_nil, Option.map_none, Option.map_some, List.getD_cons_zero, List.getD_cons_succ, List.cons_append, List.nil_append, List.append_nil, D.toI_int, D.toB_bool, D.toS_str, D.toA_agg, D.toT_tup, D.toR_sl, enc_toA, encS_toR, encS_len, List.drop_succ_cons, List.drop_zero, List.take_succ_cons, List.take_zero, len_str, at_byte, cmpI_lss, cmpI_leq, cmpI_gtr, cmpI_geq, cmpI_eql, cmpI_neq, cmpS_eql, cmpS_neq, cmpS_lss, cmpS_geq, Int.toNat_natCast, Int.toNat_zero, row_str, cells_str]; simp [maxLen, joinB_size, Lib.join_nil]; omega
      refine den_next h2 ?_ trivial
      simp only [E.den, List.map_cons, List.map_nil, Option.map_none, Option.map_some, List.getD_cons_zero, List.getD_cons_succ, List.cons_append, List.nil_append, List.append_nil, D.toI_int, D.toB_bool, D.toS_str, D.toA_agg, D.toT_tup, D.toR_sl, enc_toA, encS_toR, encS_len, List.drop_succ_cons, List.drop_zero, List.take_succ_cons, List.take_zero, len_str, at_byte, cmpI_lss, cmpI_leq, cmpI_gtr, cmpI_geq, cmpI_eql, cmpI_neq, cmpS_eql, cmpS_neq, cmpS_lss, cmpS_geq, Int.toNat_natCast, Int.toNat_zero, row_str, cells_str]
      rw [e]
      have : joinB [] sep ++ nth l 0 = nth l 0 := by
        apply ByteArray.ext
        simp [joinB, Lib.join_nil, ByteArray.data_append]
      rw [this]; rfl
  · simp only [E.den, List.map_cons, List.map_nil, Option.map_none, Option.map_some, List.getD_cons_zero, List.getD_cons_succ, List.cons_append, List.nil_append, List.append_nil, D.toI_int, D.toB_bool, D.toS_str, D.toA_agg, D.toT_tup, D.toR_sl, enc_toA, encS_toR, encS_len, List.drop_succ_cons, List.drop_zero, List.take_succ_cons, List.take_zero, len_str, at_byte, cmpI_lss, cmpI_leq, cmpI_gtr, cmpI_geq, cmpI_eql, cmpI_neq, cmpS_eql, cmpS_neq, cmpS_lss, cmpS_geq, Int.toNat_natCast, Int.toNat_zero] at h2
    obtain rfl : k = l.length := by simp at h2; omega
    refine den_ret ?_
    simp only [E.den, List.map_cons, List.map_nil, Option.map_none, Option.map_some, List.getD_cons_zero, List.getD_cons_succ, List.cons_append, List.nil_append, List.append_nil, D.toI_int, D.toB_bool, D.toS_str, D.toA_agg, D.toT_tup, D.toR_sl, enc_toA, encS_toR, encS_len, List.drop_succ_cons, List.drop_zero, List.take_succ_cons, List.take_zero, len_str, at_byte, cmpI_lss, cmpI_leq, cmpI_gtr, cmpI_geq, cmpI_eql, cmpI_neq, cmpS_eql, cmpS_neq, cmpS_lss, cmpS_geq, Int.toNat_natCast, Int.toNat_zero]
    rw [List.take_length]
/-! Arrays of texts that the program's variables hold -/
theorem glob_strs {g : Nat} {l : List ByteArray} (hl : ∀ s ∈ l, s.size ≤ maxLen) (h : ∀ w, GInv w → GHas w g fun cs => cs = (l.map Value.string).toArray) : GlobIs g (.agg (l.map .str)) := by
  intro w hw
  obtain ⟨cs, t, f, h1, rfl⟩ := h w hw
  refine ⟨_, t, f, h1, fun w' M => ?_⟩
  simp only [D.toA_agg, List.toList_toArray]
  clear h h1
  induction l with
  | nil => rfl
  | cons s r ih => exact ⟨.string s, r.map .string, rfl, ⟨rfl, hl s (by simp)⟩, ih fun x hx => hl x (by simp [hx])⟩
theorem sel_strs (l : List ByteArray) (k : Nat) : (((l.map D.str)[k]?).getD (zeroD CT.str)) = .str (nth l k) := by
  unfold nth
  rw [List.getD_eq_getElem?_getD, List.getElem?_map]
  cases l[k]? <;> rfl
def abils : List ByteArray := [⟨#[114, 117, 110]⟩, ⟨#[107, 101, 101, 112]⟩, ⟨#[116, 101, 108, 108]⟩, ⟨#[104, 101, 97, 114]⟩, ⟨#[115, 97, 118, 101]⟩, ⟨#[104, 101, 97, 108]⟩]
class HasAbil : Prop where
  h : ∀ w : World, GInv w → GHas w 1 fun cs => cs = (abils.map Value.string).toArray
def faceL (n k : Nat) : List ByteArray := ((List.range k).filter n.testBit).map (nth abils)
def faceT (n : Nat) : ByteArray := if n = 0 then ⟨#[110, 111, 110, 101]⟩ else joinB (faceL n 6) ⟨#[43]⟩
def faceS (f : Int) : ByteArray := if isFaceB f then faceT f.toNat else ⟨#[]⟩
theorem faceL_yes {n k : Nat} (h : n.testBit k = true) : faceL n (k + 1) = faceL n k ++ [nth abils k] := by simp [faceL, List.range_succ, h]
theorem faceL_no {n k : Nat} (h : n.testBit k = false) : faceL n (k + 1) = faceL n k := by simp [faceL, List.range_succ, h]
theorem faceL_len (n k : Nat) : (faceL n k).length ≤ k := by
  unfold faceL
  rw [List.length_map]
  exact Nat.le_trans (List.length_filter_le _ _) (by simp)
theorem faceL_join (n : Nat) : (joinB (faceL n 6) ⟨#[43]⟩).size ≤ 30 := by
  refine Nat.le_trans (joinB_bound (n := 4) fun k hk => ?_) ?_
  · have hm : nth (faceL n 6) k ∈ faceL n 6 := by
      unfold nth; rw [List.getD_eq_getElem?_getD, List.getElem?_eq_getElem hk]; simp
    obtain ⟨i, hi, e⟩ := List.mem_map.1 (show nth (faceL n 6) k ∈ ((List.range 6).filter n.testBit).map (nth abils) from hm)
    rw [← e]
    have : i < 6 := by simpa using (List.mem_filter.1 hi).1
    obtain rfl | rfl | rfl | rfl | rfl | rfl : i = 0 ∨ i = 1 ∨ i = 2 ∨ i = 3 ∨ i = 4 ∨ i = 5 := by omega
    all_goals decide
  · have := faceL_len n 6
    have h2 : (⟨#[43]⟩ : ByteArray).size = 1 := rfl
    rw [h2]; omega
theorem faceS_size (f : Int) : (faceS f).size ≤ 30 := by
  unfold faceS faceT
  have h := faceL_join f.toNat
  split
  · split
    · decide
    · exact h
  · decide
theorem c_impl_FormatFace [HasAbil] (f : Int) : Fun Tryz.prog 45 none [.int .i64 f] (.str (faceS f)) [] := by
  refine Fun.ofV vc_impl_FormatFace_ok ty_impl_FormatFace_ok rfl ?_ (fun hfit => ?_)
  · exact ⟨rfl, trivial⟩
  unfold vc_impl_FormatFace
  ((first | refine den_call ?_ (c_impl_IsFace f) (trivial) ?_ | refine den_callR ?_ (c_impl_IsFace f) (trivial) ?_ | refine den_call ?_ (.ofR (c_impl_IsFace f)) (trivial) ?_); (focus (simp only [VC.den, E.den, List.map_cons, List.map_nil, Option.map_none, Option.map_some, List.getD_cons_zero, List.getD_cons_succ, List.cons_append, List.nil_append, List.append_nil, D.toI_int, D.toB_bool, D.toS_str, D.toA_agg, D.toT_tup, D.toR_sl, enc_toA, encS_toR, encS_len, List.drop_succ_cons, List.drop_zero, List.take_succ_cons, List.take_zero, gsH_nil, and_true]; try exact rfl)); (simp only [List.cons_append, List.nil_append]))
  refine den_ite (fun h => den_ret ?_) (fun h => ?_)
  · simp only [E.den, List.map_cons, List.map_nil, Option.map_none, Option.map_some, List.getD_cons_zero, List.getD_cons_succ, List.cons_append, List.nil_append, List.append_nil, D.toI_int, D.toB_bool, D.toS_str, D.toA_agg, D.toT_tup, D.toR_sl, enc_toA, encS_toR, encS_len, List.drop_succ_cons, List.drop_zero, List.take_succ_cons, List.take_zero, len_str, at_byte, cmpI_lss, cmpI_leq, cmpI_gtr, cmpI_geq, cmpI_eql, cmpI_neq, cmpS_eql, cmpS_neq, cmpS_lss, cmpS_geq, Int.toNat_natCast, Int.toNat_zero] at h ⊢
    rw [faceS, if_neg (by grind)]
  simp only [E.den, List.map_cons, List.map_nil, Option.map_none, Option.map_some, List.getD_cons_zero, List.getD_cons_succ, List.cons_append, List.nil_append, List.append_nil, D.toI_int, D.toB_bool, D.toS_str, D.toA_agg, D.toT_tup, D.toR_sl, enc_toA, encS_toR, encS_len, List.drop_succ_cons, List.drop_zero, List.take_succ_cons, List.take_zero, len_str, at_byte, cmpI_lss, cmpI_leq, cmpI_gtr, cmpI_geq, cmpI_eql, cmpI_neq, cmpS_eql, cmpS_neq, cmpS_lss, cmpS_geq, Int.toNat_natCast, Int.toNat_zero] at h
  have h : isFaceB f = true := by grind
  obtain ⟨n, rfl, hn⟩ := isFaceB_nat h
  refine den_ite (fun h0 => den_ret ?_) (fun h0 => ?_)
  · simp only [E.den, List.map_cons, List.map_nil, Option.map_none, Option.map_some, List.getD_cons_zero, List.getD_cons_succ, List.cons_append, List.nil_append, List.append_nil, D.toI_int, D.toB_bool, D.toS_str, D.toA_agg, D.toT_tup, D.toR_sl, enc_toA, encS_toR, encS_len, List.drop_succ_cons, List.drop_zero, List.take_succ_cons, List.take_zero, len_str, at_byte, cmpI_lss, cmpI_leq, cmpI_gtr, cmpI_geq, cmpI_eql, cmpI_neq, cmpS_eql, cmpS_neq, cmpS_lss, cmpS_geq, Int.toNat_natCast, Int.toNat_zero] at h0 ⊢
    have h0 : n = 0 := by simp at h0; omega
    subst h0; rfl
  simp only [E.den, List.map_cons, List.map_nil, Option.map_none, Option.map_some, List.getD_cons_zero, List.getD_cons_succ, List.cons_append, List.nil_append, List.append_nil, D.toI_int, D.toB_bool, D.toS_str, D.toA_agg, D.toT_tup, D.toR_sl, enc_toA, encS_toR, encS_len, List.drop_succ_cons, List.drop_zero, List.take_succ_cons, List.take_zero, len_str, at_byte, cmpI_lss, cmpI_leq, cmpI_gtr, cmpI_geq, cmpI_eql, cmpI_neq, cmpS_eql, cmpS_neq, cmpS_lss, cmpS_geq, Int.toNat_natCast, Int.toNat_zero] at h0
  have h0 : n ≠ 0 := by simp at h0; omega
  refine den_glob (.agg (abils.map .str)) (glob_strs (by decide) HasAbil.h) ⟨trivial, trivial, trivial, trivial, trivial, trivial, trivial⟩ trivial ?_
  simp only [List.cons_append, List.nil_append]
  refine den_for 6 (fun k => [encS (faceL n k), .int .i64 k]) (fun _ => True) rfl trivial ?_
  intro k hk hI _
  simp only [List.cons_append, List.nil_append]
  refine den_ite (fun h2 => ?_) (fun h2 => ?_)
  · simp only [E.den, List.map_cons, List.map_nil, Option.map_none, Option.map_some, List.getD_cons_zero, List.getD_cons_succ, List.cons_append, List.nil_append, List.append_nil, D.toI_int, D.toB_bool, D.toS_str, D.toA_agg, D.toT_tup, D.toR_sl, enc_toA, encS_toR, encS_len, List.drop_succ_cons, List.drop_zero, List.take_succ_cons, List.take_zero, len_str, at_byte, cmpI_lss, cmpI_leq, cmpI_gtr, cmpI_geq, cmpI_eql, cmpI_neq, cmpS_eql, cmpS_neq, cmpS_lss, cmpS_geq, Int.toNat_natCast, Int.toNat_zero] at h2
    have h2 : k < 6 := by simp at h2; omega
    refine den_cond (fun _ => ?_) ?_
    · simp only [E.den, List.map_cons, List.map_nil, Option.map_none, Option.map_some, List.getD_cons_zero, List.getD_cons_succ, List.cons_append, List.nil_append, List.append_nil, D.toI_int, D.toB_bool, D.toS_str, D.toA_agg, D.toT_tup, D.toR_sl, enc_toA, encS_toR, encS_len, List.drop_succ_cons, List.drop_zero, List.take_succ_cons, List.take_zero, len_str, at_byte, cmpI_lss, cmpI_leq, cmpI_gtr, cmpI_geq, cmpI_eql, cmpI_neq, cmpS_eql, cmpS_neq, cmpS_lss, cmpS_geq, Int.toNat_natCast, Int.toNat_zero]; simp; omega
    refine den_cond (fun _ => ?_) ?_
    · simp only [E.den, List.map_cons, List.map_nil, Option.map_none, Option.map_some, List.getD_cons_zero, List.getD_cons_succ, List.cons_append, List.nil_append, List.append_nil, D.toI_int, D.toB_bool, D.toS_str, D.toA_agg, D.toT_tup, D.toR_sl, enc_toA, encS_toR, encS_len, List.drop_succ_cons, List.drop_zero, List.take_succ_cons, List.take_zero, len_str, at_byte, cmpI_lss, cmpI_leq, cmpI_gtr, cmpI_geq, cmpI_eql, cmpI_neq, cmpS_eql, cmpS_neq, cmpS_lss, cmpS_geq, Int.toNat_natCast, Int.toNat_zero]; simp
    have hb := bit_of ⟨n, hn⟩ ⟨k, h2⟩
    simp only at hb
    have hfl := faceL_len n k
    refine den_ite (fun h3 => ?_) (fun h3 => ?_)
    · simp only [E.den, List.getD_cons_zero, List.getD_cons_succ, D.toI_int, D.toB_bool, hb] at h3
      refine den_cond (fun _ => ?_) ?_
      · simp only [E.den, List.map_cons, List.map_nil, Option.map_none, Option.map_some, List.getD_cons_zero, List.getD_cons_succ, List.cons_append, List.nil_append, List.append_nil, D.toI_int, D.toB_bool, D.toS_str, D.toA_agg, D.toT_tup, D.toR_sl, enc_toA, encS_toR, encS_len, List.drop_succ_cons, List.drop_zero, List.take_succ_cons, List.take_zero, len_str, at_byte, cmpI_lss, cmpI_leq, cmpI_gtr, cmpI_geq, cmpI_eql, cmpI_neq, cmpS_eql, cmpS_neq, cmpS_lss, cmpS_geq, Int.toNat_natCast, Int.toNat_zero]; simp [maxLen]; omega
      refine den_next h2 ?_ trivial
      simp only [E.den, List.map_cons, List.map_nil, Option.map_none, Option.map_some, List.getD_cons_zero, List.getD_cons_succ, List.cons_append, List.nil_append, List.append_nil, D.toI_int, D.toB_bool, D.toS_str, D.toA_agg, D.toT_tup, D.toR_sl, enc_toA, encS_toR, encS_len, List.drop_succ_cons, List.drop_zero, List.take_succ_cons, List.take_zero, len_str, at_byte, cmpI_lss, cmpI_leq, cmpI_gtr, cmpI_geq, cmpI_eql, cmpI_neq, cmpS_eql, cmpS_neq, cmpS_lss, cmpS_geq, Int.toNat_natCast, Int.toNat_zero, sel_strs]
      rw [ar_add (by omega) (by omega), faceL_yes h3]
      simp [encS, cells_str]
    · simp only [E.den, List.getD_cons_zero, List.getD_cons_succ, D.toI_int, D.toB_bool, hb] at h3
      refine den_next h2 ?_ trivial
      simp only [E.den, List.map_cons, List.map_nil, Option.map_none, Option.map_some, List.getD_cons_zero, List.getD_cons_succ, List.cons_append, List.nil_append, List.append_nil, D.toI_int, D.toB_bool, D.toS_str, D.toA_agg, D.toT_tup, D.toR_sl, enc_toA, encS_toR, encS_len, List.drop_succ_cons, List.drop_zero, List.take_succ_cons, List.take_zero, len_str, at_byte, cmpI_lss, cmpI_leq, cmpI_gtr, cmpI_geq, cmpI_eql, cmpI_neq, cmpS_eql, cmpS_neq, cmpS_lss, cmpS_geq, Int.toNat_natCast, Int.toNat_zero]
      rw [ar_add (by omega) (by omega), faceL_no h3]; rfl
  · simp only [E.den, List.map_cons, List.map_nil, Option.map_none, Option.map_some, List.getD_cons_zero, List.getD_cons_succ, List.cons_append, List.nil_append, List.append_nil, D.toI_int, D.toB_bool, D.toS_str, D.toA_agg, D.toT_tup, D.toR_sl, enc_toA, encS_toR, encS_len, List.drop_succ_cons, List.drop_zero, List.take_succ_cons, List.take_zero, len_str, at_byte, cmpI_lss, cmpI_leq, cmpI_gtr, cmpI_geq, cmpI_eql, cmpI_neq, cmpS_eql, cmpS_neq, cmpS_lss, cmpS_geq, Int.toNat_natCast, Int.toNat_zero] at h2
    obtain rfl : k = 6 := by simp at h2; omega
    have hj := faceL_join n
    have hfl := faceL_len n 6
    ((first | refine den_call ?_ (c_impl_JoinWith (faceL n 6) ⟨#[43]⟩ (by omega) (by omega)) (trivial) ?_ | refine den_callR ?_ (c_impl_JoinWith (faceL n 6) ⟨#[43]⟩ (by omega) (by omega)) (trivial) ?_ | refine den_call ?_ (.ofR (c_impl_JoinWith (faceL n 6) ⟨#[43]⟩ (by omega) (by omega))) (trivial) ?_); (focus (simp only [VC.den, E.den, List.map_cons, List.map_nil, Option.map_none, Option.map_some, List.getD_cons_zero, List.getD_cons_succ, List.cons_append, List.nil_append, List.append_nil, D.toI_int, D.toB_bool, D.toS_str, D.toA_agg, D.toT_tup, D.toR_sl, enc_toA, encS_toR, encS_len, List.drop_succ_cons, List.drop_zero, List.take_succ_cons, List.take_zero, gsH_nil, and_true]; try exact rfl)); (simp only [List.cons_append, List.nil_append]))
    refine den_ret ?_
    simp only [E.den, List.map_cons, List.map_nil, Option.map_none, Option.map_some, List.getD_cons_zero, List.getD_cons_succ, List.cons_append, List.nil_append, List.append_nil, D.toI_int, D.toB_bool, D.toS_str, D.toA_agg, D.toT_tup, D.toR_sl, enc_toA, encS_toR, encS_len, List.drop_succ_cons, List.drop_zero, List.take_succ_cons, List.take_zero, len_str, at_byte, cmpI_lss, cmpI_leq, cmpI_gtr, cmpI_geq, cmpI_eql, cmpI_neq, cmpS_eql, cmpS_neq, cmpS_lss, cmpS_geq, Int.toNat_natCast, Int.toNat_zero]
    rw [faceS, if_pos h, faceT, Int.toNat_natCast, if_neg h0]
theorem c_spec_l2Names : Fun Tryz.prog 184 none [] (encS abils) [] := by
  refine Fun.ofV vc_spec_l2Names_ok ty_spec_l2Names_ok rfl ?_ (fun hfit => ?_)
  · trivial
  unfold vc_spec_l2Names
  simp [VC.den, E.den, cmpI]
  rfl
theorem c_spec_AbilityName (k : Nat) (hk : k < 6) : Fun Tryz.prog 163 none [.int .i64 k] (.str (nth abils k)) [] := by
  refine Fun.ofV vc_spec_AbilityName_ok ty_spec_AbilityName_ok rfl ?_ (fun hfit => ?_)
  · exact ⟨rfl, trivial⟩
  unfold vc_spec_AbilityName
  refine den_ite (fun h => ?_) (fun h => ?_)
  · simp only [E.den, List.map_cons, List.map_nil, Option.map_none, Option.map_some, List.getD_cons_zero, List.getD_cons_succ, List.cons_append, List.nil_append, List.append_nil, D.toI_int, D.toB_bool, D.toS_str, D.toA_agg, D.toT_tup, D.toR_sl, enc_toA, encS_toR, encS_len, List.drop_succ_cons, List.drop_zero, List.take_succ_cons, List.take_zero, len_str, at_byte, cmpI_lss, cmpI_leq, cmpI_gtr, cmpI_geq, cmpI_eql, cmpI_neq, cmpS_eql, cmpS_neq, cmpS_lss, cmpS_geq, Int.toNat_natCast, Int.toNat_zero] at h; simp at h; omega
  ((first | refine den_call ?_ (c_spec_l2Names) (ty_strS _) ?_ | refine den_callR ?_ (c_spec_l2Names) (ty_strS _) ?_ | refine den_call ?_ (.ofR (c_spec_l2Names)) (ty_strS _) ?_); (focus (simp only [VC.den, E.den, List.map_cons, List.map_nil, Option.map_none, Option.map_some, List.getD_cons_zero, List.getD_cons_succ, List.cons_append, List.nil_append, List.append_nil, D.toI_int, D.toB_bool, D.toS_str, D.toA_agg, D.toT_tup, D.toR_sl, enc_toA, encS_toR, encS_len, List.drop_succ_cons, List.drop_zero, List.take_succ_cons, List.take_zero, gsH_nil, and_true]; try exact rfl)); (simp only [List.cons_append, List.nil_append]))
  refine den_cond (fun _ => ?_) (den_ret ?_)
  · simp only [E.den, List.map_cons, List.map_nil, Option.map_none, Option.map_some, List.getD_cons_zero, List.getD_cons_succ, List.cons_append, List.nil_append, List.append_nil, D.toI_int, D.toB_bool, D.toS_str, D.toA_agg, D.toT_tup, D.toR_sl, enc_toA, encS_toR, encS_len, List.drop_succ_cons, List.drop_zero, List.take_succ_cons, List.take_zero, len_str, at_byte, cmpI_lss, cmpI_leq, cmpI_gtr, cmpI_geq, cmpI_eql, cmpI_neq, cmpS_eql, cmpS_neq, cmpS_lss, cmpS_geq, Int.toNat_natCast, Int.toNat_zero]; simp [abils]; omega
  · simp only [E.den, List.map_cons, List.map_nil, Option.map_none, Option.map_some, List.getD_cons_zero, List.getD_cons_succ, List.cons_append, List.nil_append, List.append_nil, D.toI_int, D.toB_bool, D.toS_str, D.toA_agg, D.toT_tup, D.toR_sl, enc_toA, encS_toR, encS_len, List.drop_succ_cons, List.drop_zero, List.take_succ_cons, List.take_zero, len_str, at_byte, cmpI_lss, cmpI_leq, cmpI_gtr, cmpI_geq, cmpI_eql, cmpI_neq, cmpS_eql, cmpS_neq, cmpS_lss, cmpS_geq, Int.toNat_natCast, Int.toNat_zero, row_str, cells_str]
theorem c_spec_FormatFace (f : Int) : Fun Tryz.prog 132 none [.int .i64 f] (.str (faceS f)) [] := by
  refine Fun.ofV vc_spec_FormatFace_ok ty_spec_FormatFace_ok rfl ?_ (fun hfit => ?_)
  · exact ⟨rfl, trivial⟩
  unfold vc_spec_FormatFace
  by_cases h : isFaceB f = true
  · obtain ⟨n, rfl, hn⟩ := isFaceB_nat h
    refine den_for 6 (fun k => [encS (faceL n k), .int .i64 k]) (fun _ => True) rfl trivial ?_
    intro k hk hI _
    simp only [List.cons_append, List.nil_append]
    ((first | refine den_call ?_ (c_spec_IsFace' n) (trivial) ?_ | refine den_callR ?_ (c_spec_IsFace' n) (trivial) ?_ | refine den_call ?_ (.ofR (c_spec_IsFace' n)) (trivial) ?_); (focus (simp only [VC.den, E.den, List.map_cons, List.map_nil, Option.map_none, Option.map_some, List.getD_cons_zero, List.getD_cons_succ, List.cons_append, List.nil_append, List.append_nil, D.toI_int, D.toB_bool, D.toS_str, D.toA_agg, D.toT_tup, D.toR_sl, enc_toA, encS_toR, encS_len, List.drop_succ_cons, List.drop_zero, List.take_succ_cons, List.take_zero, gsH_nil, and_true]; try exact rfl)); (simp only [List.cons_append, List.nil_append]))
    refine den_ite (fun h2 => ?_) (fun h2 => ?_)
    · simp only [E.den, List.map_cons, List.map_nil, Option.map_none, Option.map_some, List.getD_cons_zero, List.getD_cons_succ, List.cons_append, List.nil_append, List.append_nil, D.toI_int, D.toB_bool, D.toS_str, D.toA_agg, D.toT_tup, D.toR_sl, enc_toA, encS_toR, encS_len, List.drop_succ_cons, List.drop_zero, List.take_succ_cons, List.take_zero, len_str, at_byte, cmpI_lss, cmpI_leq, cmpI_gtr, cmpI_geq, cmpI_eql, cmpI_neq, cmpS_eql, cmpS_neq, cmpS_lss, cmpS_geq, Int.toNat_natCast, Int.toNat_zero] at h2
      have h2 : k < 6 := by simp at h2; omega
      ((first | refine den_call ?_ (c_spec_l2Has n k hn h2) (trivial) ?_ | refine den_callR ?_ (c_spec_l2Has n k hn h2) (trivial) ?_ | refine den_call ?_ (.ofR (c_spec_l2Has n k hn h2)) (trivial) ?_); (focus (simp only [VC.den, E.den, List.map_cons, List.map_nil, Option.map_none, Option.map_some, List.getD_cons_zero, List.getD_cons_succ, List.cons_append, List.nil_append, List.append_nil, D.toI_int, D.toB_bool, D.toS_str, D.toA_agg, D.toT_tup, D.toR_sl, enc_toA, encS_toR, encS_len, List.drop_succ_cons, List.drop_zero, List.take_succ_cons, List.take_zero, gsH_nil, and_true]; try exact rfl)); (simp only [List.cons_append, List.nil_append]))
      have hfl := faceL_len n k
      refine den_ite (fun h3 => ?_) (fun h3 => ?_)
      · simp only [E.den, List.map_cons, List.map_nil, Option.map_none, Option.map_some, List.getD_cons_zero, List.getD_cons_succ, List.cons_append, List.nil_append, List.append_nil, D.toI_int, D.toB_bool, D.toS_str, D.toA_agg, D.toT_tup, D.toR_sl, enc_toA, encS_toR, encS_len, List.drop_succ_cons, List.drop_zero, List.take_succ_cons, List.take_zero, len_str, at_byte, cmpI_lss, cmpI_leq, cmpI_gtr, cmpI_geq, cmpI_eql, cmpI_neq, cmpS_eql, cmpS_neq, cmpS_lss, cmpS_geq, Int.toNat_natCast, Int.toNat_zero] at h3
        ((first | refine den_call ?_ (c_spec_AbilityName k h2) (trivial) ?_ | refine den_callR ?_ (c_spec_AbilityName k h2) (trivial) ?_ | refine den_call ?_ (.ofR (c_spec_AbilityName k h2)) (trivial) ?_); (focus (simp only [VC.den, E.den, List.map_cons, List.map_nil, Option.map_none, Option.map_some, List.getD_cons_zero, List.getD_cons_succ, List.cons_append, List.nil_append, List.append_nil, D.toI_int, D.toB_bool, D.toS_str, D.toA_agg, D.toT_tup, D.toR_sl, enc_toA, encS_toR, encS_len, List.drop_succ_cons, List.drop_zero, List.take_succ_cons, List.take_zero, gsH_nil, and_true]; try exact rfl)); (simp only [List.cons_append, List.nil_append]))
        refine den_cond (fun _ => ?_) ?_
        · simp only [E.den, List.map_cons, List.map_nil, Option.map_none, Option.map_some, List.getD_cons_zero, List.getD_cons_succ, List.cons_append, List.nil_append, List.append_nil, D.toI_int, D.toB_bool, D.toS_str, D.toA_agg, D.toT_tup, D.toR_sl, enc_toA, encS_toR, encS_len, List.drop_succ_cons, List.drop_zero, List.take_succ_cons, List.take_zero, len_str, at_byte, cmpI_lss, cmpI_leq, cmpI_gtr, cmpI_geq, cmpI_eql, cmpI_neq, cmpS_eql, cmpS_neq, cmpS_lss, cmpS_geq, Int.toNat_natCast, Int.toNat_zero]; simp [maxLen]; omega
        refine den_next h2 ?_ trivial
        simp only [E.den, List.map_cons, List.map_nil, Option.map_none, Option.map_some, List.getD_cons_zero, List.getD_cons_succ, List.cons_append, List.nil_append, List.append_nil, D.toI_int, D.toB_bool, D.toS_str, D.toA_agg, D.toT_tup, D.toR_sl, enc_toA, encS_toR, encS_len, List.drop_succ_cons, List.drop_zero, List.take_succ_cons, List.take_zero, len_str, at_byte, cmpI_lss, cmpI_leq, cmpI_gtr, cmpI_geq, cmpI_eql, cmpI_neq, cmpS_eql, cmpS_neq, cmpS_lss, cmpS_geq, Int.toNat_natCast, Int.toNat_zero]
        rw [ar_add (by omega) (by omega), faceL_yes h3]
        simp [encS, cells_str]
      · simp only [E.den, List.map_cons, List.map_nil, Option.map_none, Option.map_some, List.getD_cons_zero, List.getD_cons_succ, List.cons_append, List.nil_append, List.append_nil, D.toI_int, D.toB_bool, D.toS_str, D.toA_agg, D.toT_tup, D.toR_sl, enc_toA, encS_toR, encS_len, List.drop_succ_cons, List.drop_zero, List.take_succ_cons, List.take_zero, len_str, at_byte, cmpI_lss, cmpI_leq, cmpI_gtr, cmpI_geq, cmpI_eql, cmpI_neq, cmpS_eql, cmpS_neq, cmpS_lss, cmpS_geq, Int.toNat_natCast, Int.toNat_zero] at h3
        refine den_next h2 ?_ trivial
        simp only [E.den, List.map_cons, List.map_nil, Option.map_none, Option.map_some, List.getD_cons_zero, List.getD_cons_succ, List.cons_append, List.nil_append, List.append_nil, D.toI_int, D.toB_bool, D.toS_str, D.toA_agg, D.toT_tup, D.toR_sl, enc_toA, encS_toR, encS_len, List.drop_succ_cons, List.drop_zero, List.take_succ_cons, List.take_zero, len_str, at_byte, cmpI_lss, cmpI_leq, cmpI_gtr, cmpI_geq, cmpI_eql, cmpI_neq, cmpS_eql, cmpS_neq, cmpS_lss, cmpS_geq, Int.toNat_natCast, Int.toNat_zero]
        rw [ar_add (by omega) (by omega), faceL_no h3]; rfl
    · simp only [E.den, List.map_cons, List.map_nil, Option.map_none, Option.map_some, List.getD_cons_zero, List.getD_cons_succ, List.cons_append, List.nil_append, List.append_nil, D.toI_int, D.toB_bool, D.toS_str, D.toA_agg, D.toT_tup, D.toR_sl, enc_toA, encS_toR, encS_len, List.drop_succ_cons, List.drop_zero, List.take_succ_cons, List.take_zero, len_str, at_byte, cmpI_lss, cmpI_leq, cmpI_gtr, cmpI_geq, cmpI_eql, cmpI_neq, cmpS_eql, cmpS_neq, cmpS_lss, cmpS_geq, Int.toNat_natCast, Int.toNat_zero] at h2
      obtain rfl : k = 6 := by simp [h] at h2; omega
      refine den_ite (fun h3 => den_ret ?_) (fun h3 => ?_)
      · simp only [E.den, List.map_cons, List.map_nil, Option.map_none, Option.map_some, List.getD_cons_zero, List.getD_cons_succ, List.cons_append, List.nil_append, List.append_nil, D.toI_int, D.toB_bool, D.toS_str, D.toA_agg, D.toT_tup, D.toR_sl, enc_toA, encS_toR, encS_len, List.drop_succ_cons, List.drop_zero, List.take_succ_cons, List.take_zero, len_str, at_byte, cmpI_lss, cmpI_leq, cmpI_gtr, cmpI_geq, cmpI_eql, cmpI_neq, cmpS_eql, cmpS_neq, cmpS_lss, cmpS_geq, Int.toNat_natCast, Int.toNat_zero] at h3 ⊢
        have h0 : n = 0 := by simp at h3; omega
        subst h0; rfl
      · simp only [E.den, List.map_cons, List.map_nil, Option.map_none, Option.map_some, List.getD_cons_zero, List.getD_cons_succ, List.cons_append, List.nil_append, List.append_nil, D.toI_int, D.toB_bool, D.toS_str, D.toA_agg, D.toT_tup, D.toR_sl, enc_toA, encS_toR, encS_len, List.drop_succ_cons, List.drop_zero, List.take_succ_cons, List.take_zero, len_str, at_byte, cmpI_lss, cmpI_leq, cmpI_gtr, cmpI_geq, cmpI_eql, cmpI_neq, cmpS_eql, cmpS_neq, cmpS_lss, cmpS_geq, Int.toNat_natCast, Int.toNat_zero] at h3
        have h0 : n ≠ 0 := by simp at h3; omega
        have hj := faceL_join n
        have hfl := faceL_len n 6
        ((first | refine den_call ?_ (c_spec_JoinWith (faceL n 6) ⟨#[43]⟩ (by omega) (by omega)) (trivial) ?_ | refine den_callR ?_ (c_spec_JoinWith (faceL n 6) ⟨#[43]⟩ (by omega) (by omega)) (trivial) ?_ | refine den_call ?_ (.ofR (c_spec_JoinWith (faceL n 6) ⟨#[43]⟩ (by omega) (by omega))) (trivial) ?_); (focus (simp only [VC.den, E.den, List.map_cons, List.map_nil, Option.map_none, Option.map_some, List.getD_cons_zero, List.getD_cons_succ, List.cons_append, List.nil_append, List.append_nil, D.toI_int, D.toB_bool, D.toS_str, D.toA_agg, D.toT_tup, D.toR_sl, enc_toA, encS_toR, encS_len, List.drop_succ_cons, List.drop_zero, List.take_succ_cons, List.take_zero, gsH_nil, and_true]; try exact rfl)); (simp only [List.cons_append, List.nil_append]))
        refine den_ret ?_
        simp only [E.den, List.map_cons, List.map_nil, Option.map_none, Option.map_some, List.getD_cons_zero, List.getD_cons_succ, List.cons_append, List.nil_append, List.append_nil, D.toI_int, D.toB_bool, D.toS_str, D.toA_agg, D.toT_tup, D.toR_sl, enc_toA, encS_toR, encS_len, List.drop_succ_cons, List.drop_zero, List.take_succ_cons, List.take_zero, len_str, at_byte, cmpI_lss, cmpI_leq, cmpI_gtr, cmpI_geq, cmpI_eql, cmpI_neq, cmpS_eql, cmpS_neq, cmpS_lss, cmpS_geq, Int.toNat_natCast, Int.toNat_zero]
        rw [faceS, if_pos h, faceT, Int.toNat_natCast, if_neg h0]
  · refine den_for 6 (fun k => [encS ([] : List ByteArray), .int .i64 k]) (fun k => k = 0) rfl rfl ?_
    intro k hk hI _
    subst hI
    simp only [List.cons_append, List.nil_append]
    ((first | refine den_call ?_ (c_spec_IsFace' f) (trivial) ?_ | refine den_callR ?_ (c_spec_IsFace' f) (trivial) ?_ | refine den_call ?_ (.ofR (c_spec_IsFace' f)) (trivial) ?_); (focus (simp only [VC.den, E.den, List.map_cons, List.map_nil, Option.map_none, Option.map_some, List.getD_cons_zero, List.getD_cons_succ, List.cons_append, List.nil_append, List.append_nil, D.toI_int, D.toB_bool, D.toS_str, D.toA_agg, D.toT_tup, D.toR_sl, enc_toA, encS_toR, encS_len, List.drop_succ_cons, List.drop_zero, List.take_succ_cons, List.take_zero, gsH_nil, and_true]; try exact rfl)); (simp only [List.cons_append, List.nil_append]))
    refine den_ite (fun h2 => ?_) (fun h2 => ?_)
    · simp only [E.den, List.map_cons, List.map_nil, Option.map_none, Option.map_some, List.getD_cons_zero, List.getD_cons_succ, List.cons_append, List.nil_append, List.append_nil, D.toI_int, D.toB_bool, D.toS_str, D.toA_agg, D.toT_tup, D.toR_sl, enc_toA, encS_toR, encS_len, List.drop_succ_cons, List.drop_zero, List.take_succ_cons, List.take_zero, len_str, at_byte, cmpI_lss, cmpI_leq, cmpI_gtr, cmpI_geq, cmpI_eql, cmpI_neq, cmpS_eql, cmpS_neq, cmpS_lss, cmpS_geq, Int.toNat_natCast, Int.toNat_zero] at h2; simp [h] at h2
    refine den_ite (fun h3 => ?_) (fun h3 => ?_)
    · simp only [E.den, List.map_cons, List.map_nil, Option.map_none, Option.map_some, List.getD_cons_zero, List.getD_cons_succ, List.cons_append, List.nil_append, List.append_nil, D.toI_int, D.toB_bool, D.toS_str, D.toA_agg, D.toT_tup, D.toR_sl, enc_toA, encS_toR, encS_len, List.drop_succ_cons, List.drop_zero, List.take_succ_cons, List.take_zero, len_str, at_byte, cmpI_lss, cmpI_leq, cmpI_gtr, cmpI_geq, cmpI_eql, cmpI_neq, cmpS_eql, cmpS_neq, cmpS_lss, cmpS_geq, Int.toNat_natCast, Int.toNat_zero] at h3
      simp at h3; subst h3; exact absurd rfl h
    ((first | refine den_call ?_ (c_spec_JoinWith [] ⟨#[43]⟩ (by simp) (by decide)) (trivial) ?_ | refine den_callR ?_ (c_spec_JoinWith [] ⟨#[43]⟩ (by simp) (by decide)) (trivial) ?_ | refine den_call ?_ (.ofR (c_spec_JoinWith [] ⟨#[43]⟩ (by simp) (by decide))) (trivial) ?_); (focus (simp only [VC.den, E.den, List.map_cons, List.map_nil, Option.map_none, Option.map_some, List.getD_cons_zero, List.getD_cons_succ, List.cons_append, List.nil_append, List.append_nil, D.toI_int, D.toB_bool, D.toS_str, D.toA_agg, D.toT_tup, D.toR_sl, enc_toA, encS_toR, encS_len, List.drop_succ_cons, List.drop_zero, List.take_succ_cons, List.take_zero, gsH_nil, and_true]; try exact rfl)); (simp only [List.cons_append, List.nil_append]))
    refine den_ret ?_
    simp only [E.den, List.map_cons, List.map_nil, Option.map_none, Option.map_some, List.getD_cons_zero, List.getD_cons_succ, List.cons_append, List.nil_append, List.append_nil, D.toI_int, D.toB_bool, D.toS_str, D.toA_agg, D.toT_tup, D.toR_sl, enc_toA, encS_toR, encS_len, List.drop_succ_cons, List.drop_zero, List.take_succ_cons, List.take_zero, len_str, at_byte, cmpI_lss, cmpI_leq, cmpI_gtr, cmpI_geq, cmpI_eql, cmpI_neq, cmpS_eql, cmpS_neq, cmpS_lss, cmpS_geq, Int.toNat_natCast, Int.toNat_zero]
    rw [faceS, if_neg h]; rfl
end Go.Proofs.YtmhfncdhplmomaaGreatDoor
