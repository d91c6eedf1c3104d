/- Contracts: texts joined; faces as texts. -/
import Derived.Test.YtjmakbnblpjkhaaGreatDoorC13
import Derived.Test.YtjmakbnblpjkhaaGreatDoorC14
import Derived.Test.YtjmakbnblpjkhaaGreatDoorC12
set_option linter.unusedVariables false
set_option linter.unusedSimpArgs false
set_option maxRecDepth 100000
set_option linter.unusedSectionVars false
namespace Go.Proofs.YtjmakbnblpjkhaaGreatDoor
open Go.RowKit Go
variable [GC]
def joinB (l : List ByteArray) (sep : ByteArray) : ByteArray := ⟨(Lib.join (l.map (·.data.toList)) sep.data.toList).toArray⟩
theorem joinB_size (l : List ByteArray) (sep : ByteArray) : (joinB l sep).size = (Lib.join (l.map (·.data.toList)) sep.data.toList).length := bs_size _
theorem bs_of (s : ByteArray) : bs s.data.toList = s := by simp [bs]
theorem joinB_succ {l : List ByteArray} {k : Nat} (h : k < l.length) (sep : ByteArray) : joinB (l.take (k + 1)) sep = if k = 0 then nth l k else joinB (l.take k) sep ++ sep ++ nth l k := by
 cases l with
 | nil => simp at h
 | cons x r =>
  cases k with
  | zero =>
   rw [if_pos rfl]
   show bs (Lib.join [x.data.toList] _) = _
   rw [Lib.join_one, bs_of]; rfl
  | succ j =>
   rw [if_neg (by omega)]
   have hj : j < r.length := by simpa using h
   have e : (r.map (·.data.toList))[j]? = some ((nth (x :: r) (j + 1)).data.toList) := by
    simp [nth, hj]
   simp only [joinB, List.take_succ_cons, List.map_cons, List.map_take, Lib.join_cons]
   rw [Lib.joinTail_take_succ _ _ _ _ e]
   apply ByteArray.ext
   simp [ByteArray.data_append]
theorem joinB_le (l : List ByteArray) (sep : ByteArray) (k : Nat) : (joinB (l.take k) sep).size ≤ (joinB l sep).size := by
 rw [joinB_size, joinB_size]
 cases l with
 | nil => simp
 | cons x r =>
  cases k with
  | zero => simp [Lib.join_nil]
  | succ j =>
   simp only [List.take_succ_cons, List.map_cons, List.map_take, Lib.join_cons, List.length_append]
   have := Lib.joinTail_take_le sep.data.toList (r.map (·.data.toList)) j
   omega
theorem joinB_bound {l : List ByteArray} {sep : ByteArray} {n : Nat} (h : ∀ k, k < l.length → (nth l k).size ≤ n) : (joinB l sep).size ≤ l.length * (n + sep.size) := by
 have : ∀ k, k ≤ l.length → (joinB (l.take k) sep).size ≤ k * (n + sep.size) := by
  intro k
  induction k with
  | zero => intro _; simp [joinB_size, Lib.join_nil]
  | succ k ih =>
   intro hk
   have h1 := ih (by omega)
   have h2 := h k (by omega)
   rw [joinB_succ (by omega), Nat.add_mul]
   split
   ·omega
   ·simp only [ByteArray.size_append]; omega
 simpa using this l.length (Nat.le_refl _)
theorem c_Join (l : List ByteArray) (sep : ByteArray) (hN : l.length ≤ 140737488355328) (hlen : (joinB l sep).size ≤ 140737488355328) : Fun Tryz.prog 89 none [encS l, .str sep] (.str (joinB l sep)) [] := by
 refine Fun.of_callsG (by kernel_rfl) fun w M vs hG hr => ?_
 obtain ⟨v, q, rfl, ⟨a, len, cap, rfl, rfl, hc, hm, ha, hb⟩, v2, q2, rfl, ⟨rfl, _⟩, rfl⟩ := hr
 have hsz : (joinB l sep).size ≤ maxLen := by unfold maxLen; omega
 by_cases h0 : l = []
 ·subst h0
  refine (Tryz.strings_Join_none a cap sep w).mono ?_
  rintro e w' ⟨rfl, rfl⟩
  exact ⟨_, rfl, ⟨rfl, hsz⟩, Below.refl _ _⟩
 ·have hpos : 0 < l.length := List.length_pos_iff.2 h0
  simp only [List.length_map] at hc hb ⊢
  cases a with
  | none => have := ha rfl; omega
  | some ad =>
   obtain ⟨b, o, s⟩ := ad
   obtain ⟨h1, h2⟩ := hb b o s rfl
   obtain rfl := h1 hpos
   have hcell : ∀ (j : Nat) x, l[j]? = some x → w.cell? ⟨b, o + j, none⟩ = some (.string x) := fun j x hx => by
    have h3 := Rws.get (n := 1) h2 (fun r hr => by obtain ⟨y, _, rfl⟩ := List.mem_map.1 hr; rfl) (i := j) (r := [.str x]) (by rw [List.getElem?_map, hx]; rfl)
    obtain ⟨⟨v, h4, _, rfl, _⟩, _⟩ := h3
    simpa using h4
   have hbk : b < w.heap.size := by
    have := hcell 0 _ (List.getElem?_eq_getElem hpos)
    unfold World.cell? at this
    rcases Nat.lt_or_ge b w.heap.size with h | h
    ·exact h
    ·simp only [Array.getElem?_eq_none h] at this; cases this
   refine (Tryz.strings_Join b o cap l sep w hcell hbk hN hc (by rw [← joinB_size]; exact hlen)).mono ?_
   rintro e w' ⟨rfl, hw⟩
   exact ⟨_, rfl, ⟨rfl, hsz⟩, hw⟩
theorem c_impl_JoinWith (l : List ByteArray) (sep : ByteArray) (hN : l.length ≤ 140737488355328) (hlen : (joinB l sep).size ≤ 140737488355328) : Fun Tryz.prog 36 none [encS l, .str sep] (.str (joinB l sep)) [] := by
 refine Fun.ofV vc_impl_JoinWith_ok ty_impl_JoinWith_ok rfl ?_ (fun hfit => ?_)
 ·exact ⟨ty_strS l, trivial, trivial⟩
 unfold vc_impl_JoinWith
 ((first | refine den_call ?_ (c_Join l sep hN hlen) (trivial) ?_ | refine den_callR ?_ (c_Join l sep hN hlen) (trivial) ?_ | refine den_call ?_ (.ofR (c_Join l sep hN hlen)) (trivial) ?_); (focus (simp only [VC.den, E.den, dEq, gsH_nil, and_true]; try exact rfl)); (simp only [cA]))
 exact den_ret rfl
theorem c_spec_JoinWith (l : List ByteArray) (sep : ByteArray) (hN : l.length ≤ 140737488355328) (hlen : (joinB l sep).size ≤ 140737488355328) : Fun Tryz.prog 44 none [encS l, .str sep] (.str (joinB l sep)) [] := by
 refine Fun.ofV vc_spec_JoinWith_ok ty_spec_JoinWith_ok rfl ?_ (fun hfit => ?_)
 ·exact ⟨ty_strS l, trivial, trivial⟩
 unfold vc_spec_JoinWith
 refine den_for l.length (fun k => [.str (joinB (l.take k) sep), .int .i64 k]) (fun _ => True) rfl trivial ?_
 intro k hk hI _
 simp only [cA]
 refine den_ite (fun h2 => ?_) (fun h2 => ?_)
 ·simp only [E.den, dEq, iEq, sEq] at h2
  have h2 : k < l.length := by simp at h2; exact h2
  (refine den_cond (fun hg => ?_) ?_; (focus (simp only [gsH, gE, E.den, dEq, iEq, sEq] at hg ⊢; (try simp only [D.bool.injEq] at hg); (try simp only [D.bool.injEq]); grind)))
  have hle := joinB_le l sep (k + 1)
  have e := joinB_succ h2 sep
  refine den_ite (fun h3 => ?_) (fun h3 => ?_)
  ·simp only [E.den, dEq, iEq, sEq] at h3
   have h3 : k ≠ 0 := by simp at h3; omega
   rw [if_neg h3] at e
   rw [e, ByteArray.size_append, ByteArray.size_append] at hle
   refine den_cond (fun _ => ?_) ?_
   ·simp only [E.den, dEq, iEq, sEq]; simp [maxLen]; exact decide_eq_true (by omega)
   refine den_cond (fun _ => ?_) ?_
   ·simp only [E.den, dEq, iEq, sEq, row_str, cells_str]; simp [maxLen, ByteArray.size_append]; omega
   refine den_next h2 ?_ trivial
   simp only [E.den, dEq, iEq, sEq, row_str, cells_str]
   rw [ar_add (by omega) (by omega), e]; rfl
  ·simp only [E.den, dEq, iEq, sEq] at h3
   have h3 : k = 0 := by simp at h3; omega
   subst h3
   rw [if_pos rfl] at e
   rw [e] at hle
   refine den_cond (fun _ => ?_) ?_
   ·simp only [E.den, dEq, iEq, sEq, row_str, cells_str]; simp [maxLen, joinB_size, Lib.join_nil]; omega
   refine den_next h2 ?_ trivial
   simp only [E.den, dEq, iEq, sEq, row_str, cells_str]
   rw [e]
   have : joinB [] sep ++ nth l 0 = nth l 0 := by
    apply ByteArray.ext
    simp [joinB, Lib.join_nil, ByteArray.data_append]
   rw [this]; rfl
 ·simp only [E.den, dEq, iEq, sEq] at h2
  obtain rfl : k = l.length := by simp at h2; omega
  refine den_ret ?_
  simp only [E.den, dEq, iEq, sEq]
  rw [List.take_length]
/-! Arrays of texts that the program's variables hold -/
theorem glob_strs {g : Nat} {l : List ByteArray} (hl : ∀ s ∈ l, s.size ≤ maxLen) (h : ∀ w, GInv w → GHas w g fun cs => cs = (l.map Value.string).toArray) : GlobIs g (.agg (l.map .str)) := by
 intro w hw
 obtain ⟨cs, t, f, h1, rfl⟩ := h w hw
 refine ⟨_, t, f, h1, fun w' M => ?_⟩
 simp only [D.toA_agg, List.toList_toArray]
 clear h h1
 induction l with
 | nil => rfl
 | cons s r ih => exact ⟨.string s, r.map .string, rfl, ⟨rfl, hl s (by simp)⟩, ih fun x hx => hl x (by simp [hx])⟩
theorem sel_strs (l : List ByteArray) (k : Nat) : (((l.map D.str)[k]?).getD (zeroD CT.str)) = .str (nth l k) := by
 unfold nth
 rw [List.getD_eq_getElem?_getD, List.getElem?_map]
 cases l[k]? <;> rfl
def abils : List ByteArray := [⟨#[114, 117, 110]⟩, ⟨#[107, 101, 101, 112]⟩, ⟨#[116, 101, 108, 108]⟩, ⟨#[104, 101, 97, 114]⟩, ⟨#[115, 97, 118, 101]⟩, ⟨#[104, 101, 97, 108]⟩]
class HasAbil : Prop where
 h : ∀ w : World, GInv w → GHas w 1 fun cs => cs = (abils.map Value.string).toArray
def faceL (n k : Nat) : List ByteArray := ((List.range k).filter n.testBit).map (nth abils)
def faceT (n : Nat) : ByteArray := if n = 0 then ⟨#[110, 111, 110, 101]⟩ else joinB (faceL n 6) ⟨#[43]⟩
def faceS (f : Int) : ByteArray := if isFaceB f then faceT f.toNat else ⟨#[]⟩
theorem faceL_yes {n k : Nat} (h : n.testBit k = true) : faceL n (k + 1) = faceL n k ++ [nth abils k] := by simp [faceL, List.range_succ, h]
theorem faceL_no {n k : Nat} (h : n.testBit k = false) : faceL n (k + 1) = faceL n k := by simp [faceL, List.range_succ, h]
theorem faceL_len (n k : Nat) : (faceL n k).length ≤ k := by
 unfold faceL
 rw [List.length_map]
 exact Nat.le_trans (List.length_filter_le _ _) (by simp)
theorem faceL_join (n : Nat) : (joinB (faceL n 6) ⟨#[43]⟩).size ≤ 30 := by
 refine Nat.le_trans (joinB_bound (n := 4) fun k hk => ?_) ?_
 ·have hm : nth (faceL n 6) k ∈ faceL n 6 := by
   unfold nth; rw [List.getD_eq_getElem?_getD, List.getElem?_eq_getElem hk]; simp
  obtain ⟨i, hi, e⟩ := List.mem_map.1 (show nth (faceL n 6) k ∈ ((List.range 6).filter n.testBit).map (nth abils) from hm)
  rw [← e]
  have : i < 6 := by simpa using (List.mem_filter.1 hi).1
  obtain rfl | rfl | rfl | rfl | rfl | rfl : i = 0 ∨ i = 1 ∨ i = 2 ∨ i = 3 ∨ i = 4 ∨ i = 5 := by omega
  all_goals decide
 ·have := faceL_len n 6
  have h2 : (⟨#[43]⟩ : ByteArray).size = 1 := rfl
  rw [h2]; omega
theorem faceS_size (f : Int) : (faceS f).size ≤ 30 := by
 unfold faceS faceT
 have h := faceL_join f.toNat
 split
 ·split
  ·decide
  ·exact h
 ·decide
theorem c_impl_FormatFace [HasAbil] (f : Int) : Fun Tryz.prog 113 none [.int .i64 f] (.str (faceS f)) [] := by
 refine Fun.ofV vc_impl_FormatFace_ok ty_impl_FormatFace_ok rfl ?_ (fun hfit => ?_)
 ·exact ⟨rfl, trivial⟩
 unfold vc_impl_FormatFace
 ((first | refine den_call ?_ (c_impl_IsFace f) (trivial) ?_ | refine den_callR ?_ (c_impl_IsFace f) (trivial) ?_ | refine den_call ?_ (.ofR (c_impl_IsFace f)) (trivial) ?_); (focus (simp only [VC.den, E.den, dEq, gsH_nil, and_true]; try exact rfl)); (simp only [cA]))
 refine den_ite (fun h => den_ret ?_) (fun h => ?_)
 ·simp only [E.den, dEq, iEq, sEq] at h ⊢
  rw [faceS, if_neg (by grind)]
 simp only [E.den, dEq, iEq, sEq] at h
 have h : isFaceB f = true := by grind
 obtain ⟨n, rfl, hn⟩ := isFaceB_nat h
 refine den_ite (fun h0 => den_ret ?_) (fun h0 => ?_)
 ·simp only [E.den, dEq, iEq, sEq] at h0 ⊢
  have h0 : n = 0 := by simp at h0; omega
  subst h0; rfl
 simp only [E.den, dEq, iEq, sEq] at h0
 have h0 : n ≠ 0 := by simp at h0; omega
 refine den_glob (.agg (abils.map .str)) (glob_strs (by decide) HasAbil.h) ⟨trivial, trivial, trivial, trivial, trivial, trivial, trivial⟩ trivial ?_
 simp only [cA]
 refine den_for 6 (fun k => [encS (faceL n k), .int .i64 k]) (fun _ => True) rfl trivial ?_
 intro k hk hI _
 simp only [cA]
 refine den_ite (fun h2 => ?_) (fun h2 => ?_)
 ·simp only [E.den, dEq, iEq, sEq] at h2
  have h2 : k < 6 := by simp at h2; omega
  refine den_cond (fun _ => ?_) ?_
  ·simp only [E.den, dEq, iEq, sEq]; simp; omega
  refine den_cond (fun _ => ?_) ?_
  ·simp only [E.den, dEq, iEq, sEq]; simp
  have hb := bit_of ⟨n, hn⟩ ⟨k, h2⟩
  simp only at hb
  have hfl := faceL_len n k
  refine den_ite (fun h3 => ?_) (fun h3 => ?_)
  ·simp only [E.den, List.getD_cons_zero, List.getD_cons_succ, D.toI_int, D.toB_bool, hb] at h3
   refine den_cond (fun _ => ?_) ?_
   ·simp only [E.den, dEq, iEq, sEq]; simp [maxLen]; omega
   refine den_next h2 ?_ trivial
   simp only [E.den, dEq, iEq, sEq, sel_strs]
   rw [ar_add (by omega) (by omega), faceL_yes h3]
   simp [encS, cells_str]
  ·simp only [E.den, List.getD_cons_zero, List.getD_cons_succ, D.toI_int, D.toB_bool, hb] at h3
   refine den_next h2 ?_ trivial
   simp only [E.den, dEq, iEq, sEq]
   rw [ar_add (by omega) (by omega), faceL_no h3]; rfl
 ·simp only [E.den, dEq, iEq, sEq] at h2
  obtain rfl : k = 6 := by simp at h2; omega
  have hj := faceL_join n
  have hfl := faceL_len n 6
  ((first | refine den_call ?_ (c_impl_JoinWith (faceL n 6) ⟨#[43]⟩ (by omega) (by omega)) (trivial) ?_ | refine den_callR ?_ (c_impl_JoinWith (faceL n 6) ⟨#[43]⟩ (by omega) (by omega)) (trivial) ?_ | refine den_call ?_ (.ofR (c_impl_JoinWith (faceL n 6) ⟨#[43]⟩ (by omega) (by omega))) (trivial) ?_); (focus (simp only [VC.den, E.den, dEq, gsH_nil, and_true]; try exact rfl)); (simp only [cA]))
  refine den_ret ?_
  simp only [E.den, dEq, iEq, sEq]
  rw [faceS, if_pos h, faceT, Int.toNat_natCast, if_neg h0]
theorem c_spec_l2Names : Fun Tryz.prog 216 none [] (encS abils) [] := by
 refine Fun.ofV vc_spec_l2Names_ok ty_spec_l2Names_ok rfl ?_ (fun hfit => ?_)
 ·trivial
 unfold vc_spec_l2Names
 simp [VC.den, E.den, cmpI]
 rfl
theorem c_spec_AbilityName (k : Nat) (hk : k < 6) : Fun Tryz.prog 193 none [.int .i64 k] (.str (nth abils k)) [] := by
 refine Fun.ofV vc_spec_AbilityName_ok ty_spec_AbilityName_ok rfl ?_ (fun hfit => ?_)
 ·exact ⟨rfl, trivial⟩
 unfold vc_spec_AbilityName
 refine den_ite (fun h => ?_) (fun h => ?_)
 ·simp only [E.den, dEq, iEq, sEq] at h; simp at h; omega
 ((first | refine den_call ?_ (c_spec_l2Names) (ty_strS _) ?_ | refine den_callR ?_ (c_spec_l2Names) (ty_strS _) ?_ | refine den_call ?_ (.ofR (c_spec_l2Names)) (ty_strS _) ?_); (focus (simp only [VC.den, E.den, dEq, gsH_nil, and_true]; try exact rfl)); (simp only [cA]))
 refine den_cond (fun _ => ?_) (den_ret ?_)
 ·simp only [E.den, dEq, iEq, sEq]; simp [abils]; omega
 ·simp only [E.den, dEq, iEq, sEq, row_str, cells_str]
theorem c_spec_FormatFace (f : Int) : Fun Tryz.prog 156 none [.int .i64 f] (.str (faceS f)) [] := by
 refine Fun.ofV vc_spec_FormatFace_ok ty_spec_FormatFace_ok rfl ?_ (fun hfit => ?_)
 ·exact ⟨rfl, trivial⟩
 unfold vc_spec_FormatFace
 by_cases h : isFaceB f = true
 ·obtain ⟨n, rfl, hn⟩ := isFaceB_nat h
  refine den_for 6 (fun k => [encS (faceL n k), .int .i64 k]) (fun _ => True) rfl trivial ?_
  intro k hk hI _
  simp only [cA]
  ((first | refine den_call ?_ (c_spec_IsFace' n) (trivial) ?_ | refine den_callR ?_ (c_spec_IsFace' n) (trivial) ?_ | refine den_call ?_ (.ofR (c_spec_IsFace' n)) (trivial) ?_); (focus (simp only [VC.den, E.den, dEq, gsH_nil, and_true]; try exact rfl)); (simp only [cA]))
  refine den_ite (fun h2 => ?_) (fun h2 => ?_)
  ·simp only [E.den, dEq, iEq, sEq] at h2
   have h2 : k < 6 := by simp at h2; omega
   ((first | refine den_call ?_ (c_spec_l2Has n k hn h2) (trivial) ?_ | refine den_callR ?_ (c_spec_l2Has n k hn h2) (trivial) ?_ | refine den_call ?_ (.ofR (c_spec_l2Has n k hn h2)) (trivial) ?_); (focus (simp only [VC.den, E.den, dEq, gsH_nil, and_true]; try exact rfl)); (simp only [cA]))
   have hfl := faceL_len n k
   refine den_ite (fun h3 => ?_) (fun h3 => ?_)
   ·simp only [E.den, dEq, iEq, sEq] at h3
    ((first | refine den_call ?_ (c_spec_AbilityName k h2) (trivial) ?_ | refine den_callR ?_ (c_spec_AbilityName k h2) (trivial) ?_ | refine den_call ?_ (.ofR (c_spec_AbilityName k h2)) (trivial) ?_); (focus (simp only [VC.den, E.den, dEq, gsH_nil, and_true]; try exact rfl)); (simp only [cA]))
    refine den_cond (fun _ => ?_) ?_
    ·simp only [E.den, dEq, iEq, sEq]; simp [maxLen]; omega
    refine den_next h2 ?_ trivial
    simp only [E.den, dEq, iEq, sEq]
    rw [ar_add (by omega) (by omega), faceL_yes h3]
    simp [encS, cells_str]
   ·simp only [E.den, dEq, iEq, sEq] at h3
    refine den_next h2 ?_ trivial
    simp only [E.den, dEq, iEq, sEq]
    rw [ar_add (by omega) (by omega), faceL_no h3]; rfl
  ·simp only [E.den, dEq, iEq, sEq] at h2
   obtain rfl : k = 6 := by simp [h] at h2; omega
   refine den_ite (fun h3 => den_ret ?_) (fun h3 => ?_)
   ·simp only [E.den, dEq, iEq, sEq] at h3 ⊢
    have h0 : n = 0 := by simp at h3; omega
    subst h0; rfl
   ·simp only [E.den, dEq, iEq, sEq] at h3
    have h0 : n ≠ 0 := by simp at h3; omega
    have hj := faceL_join n
    have hfl := faceL_len n 6
    ((first | refine den_call ?_ (c_spec_JoinWith (faceL n 6) ⟨#[43]⟩ (by omega) (by omega)) (trivial) ?_ | refine den_callR ?_ (c_spec_JoinWith (faceL n 6) ⟨#[43]⟩ (by omega) (by omega)) (trivial) ?_ | refine den_call ?_ (.ofR (c_spec_JoinWith (faceL n 6) ⟨#[43]⟩ (by omega) (by omega))) (trivial) ?_); (focus (simp only [VC.den, E.den, dEq, gsH_nil, and_true]; try exact rfl)); (simp only [cA]))
    refine den_ret ?_
    simp only [E.den, dEq, iEq, sEq]
    rw [faceS, if_pos h, faceT, Int.toNat_natCast, if_neg h0]
 ·refine den_for 6 (fun k => [encS ([] : List ByteArray), .int .i64 k]) (fun k => k = 0) rfl rfl ?_
  intro k hk hI _
  subst hI
  simp only [cA]
  ((first | refine den_call ?_ (c_spec_IsFace' f) (trivial) ?_ | refine den_callR ?_ (c_spec_IsFace' f) (trivial) ?_ | refine den_call ?_ (.ofR (c_spec_IsFace' f)) (trivial) ?_); (focus (simp only [VC.den, E.den, dEq, gsH_nil, and_true]; try exact rfl)); (simp only [cA]))
  refine den_ite (fun h2 => ?_) (fun h2 => ?_)
  ·simp only [E.den, dEq, iEq, sEq] at h2; simp [h] at h2
  refine den_ite (fun h3 => ?_) (fun h3 => ?_)
  ·simp only [E.den, dEq, iEq, sEq] at h3
   simp at h3; subst h3; exact absurd rfl h
  ((first | refine den_call ?_ (c_spec_JoinWith [] ⟨#[43]⟩ (by simp) (by decide)) (trivial) ?_ | refine den_callR ?_ (c_spec_JoinWith [] ⟨#[43]⟩ (by simp) (by decide)) (trivial) ?_ | refine den_call ?_ (.ofR (c_spec_JoinWith [] ⟨#[43]⟩ (by simp) (by decide))) (trivial) ?_); (focus (simp only [VC.den, E.den, dEq, gsH_nil, and_true]; try exact rfl)); (simp only [cA]))
  refine den_ret ?_
  simp only [E.den, dEq, iEq, sEq]
  rw [faceS, if_neg h]; rfl
end Go.Proofs.YtjmakbnblpjkhaaGreatDoor
/- Contracts: entries as texts. -/
namespace Go.Proofs.YtjmakbnblpjkhaaGreatDoor
open Go.RowKit Go
variable [GC]
theorem dec_ok {p : Prop} [Decidable p] (h : p) : D.bool (decide p) = .bool true := by simp [h]
def tSp : ByteArray := ⟨#[32]⟩
def tCol : ByteArray := ⟨#[58, 32]⟩
def tSemi : ByteArray := ⟨#[59, 32]⟩
def tCom : ByteArray := ⟨#[44, 32]⟩
def tOf : ByteArray := ⟨#[32, 111, 102, 32]⟩
theorem tSp_eq : (⟨#[32]⟩ : ByteArray) = tSp := rfl
theorem tCol_eq : (⟨#[58, 32]⟩ : ByteArray) = tCol := rfl
theorem tSemi_eq : (⟨#[59, 32]⟩ : ByteArray) = tSemi := rfl
theorem tCom_eq : (⟨#[44, 32]⟩ : ByteArray) = tCom := rfl
theorem tOf_eq : (⟨#[32, 111, 102, 32]⟩ : ByteArray) = tOf := rfl
theorem tSp_size : tSp.size = 1 := rfl
theorem tCol_size : tCol.size = 2 := rfl
theorem tSemi_size : tSemi.size = 2 := rfl
theorem tCom_size : tCom.size = 2 := rfl
theorem tOf_size : tOf.size = 4 := rfl
theorem noText_eq : (⟨#[]⟩ : ByteArray) = noText := rfl
theorem verS_size (v : Ver) : (verS v).size ≤ 7 := by
 unfold verS
 split
 ·rename_i h
  obtain ⟨a, b, ha, hb, rfl⟩ := Ver.nats h
  rw [bs_size]; exact verL_le ha hb
 ·simp
theorem nameB_le {s : ByteArray} (h : nameB s = true) : s.size ≤ 8 := by
 unfold nameB at h; simp at h; omega
def needT (n : Need) : ByteArray := if n.frm = noText then faceS n.face ++ tSp ++ verS n.least else faceS n.face ++ tOf ++ n.frm ++ tSp ++ verS n.least
def entT (e : Entry) : ByteArray :=
 if entryB e then (if e.needs = [] then e.name ++ tCol ++ joinB e.recipe tSp ++ tSemi ++ verS e.ver else e.name ++ tCol ++ joinB e.recipe tSp ++ tSemi ++ verS e.ver ++ tSemi ++ joinB (e.needs.map needT) tCom) else noText
theorem needT_size {n : Need} (h : n.frm.size ≤ 8) : (needT n).size ≤ 50 := by
 have h1 := faceS_size n.face
 have h2 := verS_size n.least
 unfold needT
 split
 ·simp only [ByteArray.size_append, tSp_size]; omega
 ·simp only [ByteArray.size_append, tSp_size, tOf_size]; omega
theorem map_take_succ {α β : Type} [Inhabited α] (f : α → β) {l : List α} {k : Nat} (h : k < l.length) : (l.take (k + 1)).map f = (l.take k).map f ++ [f (nth l k)] := by
 rw [List.take_succ_eq_append_getElem h, List.map_append]
 simp [nth, h]
theorem entryB_need {e : Entry} (h : entryB e = true) {k : Nat} (hk : k < e.needs.length) : (nth e.needs k).frm.size ≤ 8 := by
 unfold entryB at h
 simp only [Bool.and_eq_true] at h
 have := allTo_iff.1 h.2 k hk
 unfold needAt needB at this
 simp only [Bool.and_eq_true, Bool.or_eq_true, decide_eq_true_eq] at this
 rcases this.1.1.2 with h1 | h1
 ·rw [h1]; decide
 ·exact nameB_le h1
theorem entryB_name {e : Entry} (h : entryB e = true) : e.name.size ≤ 8 := by
 unfold entryB at h
 simp only [Bool.and_eq_true] at h
 exact nameB_le (by grind)
theorem entryB_len {e : Entry} (h : entryB e = true) : e.needs.length ≤ 3 := by
 unfold entryB at h
 simp only [Bool.and_eq_true, decide_eq_true_eq] at h
 exact h.1.2
theorem needs_join {e : Entry} (h : entryB e = true) : (joinB (e.needs.map needT) tCom).size ≤ 156 := by
 have h1 := entryB_len h
 refine Nat.le_trans (joinB_bound (n := 50) fun k hk => ?_) ?_
 ·have hk : k < e.needs.length := by simpa using hk
  have : nth (e.needs.map needT) k = needT (nth e.needs k) := by simp [nth, hk]
  rw [this]
  exact needT_size (entryB_need h hk)
 ·rw [List.length_map, tCom_size]; omega
/-! What a recipe's text may be -/
theorem kindOk_le {s : ByteArray} (h : kindOk s = true) : s.size ≤ 8 := by
 unfold kindOk kindAt at h
 repeat' split at h
 all_goals first
  | (rename_i e; rw [e]; decide)
  | simp at h
theorem layOk_le {s : ByteArray} (h : layOk s = true) : s.size ≤ 8 := by
 unfold layOk layAt at h
 repeat' split at h
 all_goals first
  | (rename_i e; rw [e]; decide)
  | simp at h
theorem firstTo_nil {p : Nat → Bool} : ∀ {n : Nat}, firstTo p n = none → ∀ i, i < n → p i = false
 | 0, _, i, h => by omega
 | n + 1, h, i, hi => by
  simp only [firstTo] at h
  split at h
  ·cases h
  ·rename_i hn
   split at h
   ·cases h
   ·rename_i hp
    by_cases e : i = n
    ·subst e; simpa using hp
    ·exact firstTo_nil hn i (by omega)
theorem wrapP_ok {p : Part} {s : ByteArray} (h : (wrapP p s).2.code = 0) : layOk s = true ∧ p.layers.length < 3 ∧ (wrapP p s).1.layers.length = p.layers.length + 1 := by
 unfold wrapP at h ⊢
 split at h
 ·simp [rep] at h
 rename_i h1
 split at h
 ·simp [rep] at h
 rename_i h2
 split at h
 ·simp [rep] at h
 rename_i h3
 rw [if_neg h1, if_neg h2, if_neg h3]
 exact ⟨by grind, by omega, by simp⟩
theorem recOk_bound {l : List ByteArray} (h : recOk l = true) : l.length ≤ 4 ∧ ∀ k, k < l.length → (nth l k).size ≤ 8 := by
 unfold recOk makeP at h
 split at h
 ·simp [rep] at h
 rename_i h0
 have hk0 : kindOk (nth l 0) = true := by grind
 split at h
 ·rename_i k hk
  have h1 : ∀ {n : Nat} {p : Nat → Bool}, firstTo p n = some k → p k = true := by
   intro n
   induction n with
   | zero => intro p h; simp [firstTo] at h
   | succ n ih =>
    intro p h
    simp only [firstTo] at h
    split at h
    ·rename_i j hj
     cases h; exact ih hj
    ·split at h
     ·cases h; assumption
     ·cases h
  have := h1 hk
  grind
 rename_i hn
 have hw : ∀ k, k < l.length - 1 → (wrapR l k).code = 0 := fun k hk => by simpa using firstTo_nil hn k hk
 have hs : ∀ k, k ≤ l.length - 1 → (wrapTo l k).layers.length = k := by
  intro k
  induction k with
  | zero => intro _; simp [wrapTo, newPart]
  | succ k ih =>
   intro hk
   have := wrapP_ok (hw k (by omega))
   simp only [wrapTo]
   rw [this.2.2, ih (by omega)]
 refine ⟨?_, fun k hk => ?_⟩
 ·have h3 := (wrapTo_small l (l.length - 1)).2
  rw [hs _ (Nat.le_refl _)] at h3
  omega
 ·cases k with
  | zero => exact kindOk_le hk0
  | succ k => exact layOk_le (wrapP_ok (hw k (by omega))).1
theorem rec_join {l : List ByteArray} (h : recOk l = true) : l.length ≤ 1048576 ∧ (joinB l tSp).size ≤ 36 := by
 obtain ⟨h1, h2⟩ := recOk_bound h
 refine ⟨by omega, Nat.le_trans (joinB_bound (n := 8) h2) ?_⟩
 rw [tSp_size]
 omega
theorem entryB_rec {e : Entry} (h : entryB e = true) : recOk e.recipe = true := by
 unfold entryB at h
 simp only [Bool.and_eq_true] at h
 grind
theorem c_spec_l6Need (n : Need) (h : n.frm.size ≤ 8) : Fun Tryz.prog 108 none [enc n] (.str (needT n)) [] := by
 refine Fun.ofV vc_spec_l6Need_ok ty_spec_l6Need_ok rfl ?_ (fun hfit => ?_)
 ·exact ⟨ty_Need n, trivial⟩
 unfold vc_spec_l6Need
 have h1 := faceS_size n.face
 have h2 := verS_size n.least
 ((first | refine den_call ?_ (c_spec_FormatFace n.face) (trivial) ?_ | refine den_callR ?_ (c_spec_FormatFace n.face) (trivial) ?_ | refine den_call ?_ (.ofR (c_spec_FormatFace n.face)) (trivial) ?_); (focus (simp only [VC.den, E.den, dEq, gsH_nil, and_true, cells_Need]; try exact rfl)); (simp only [cA]))
 refine den_ite (fun h3 => ?_) (fun h3 => ?_)
 ·simp only [E.den, dEq, iEq, sEq, cells_Need, noText_eq] at h3
  refine den_cond (fun _ => ?_) ?_
  ·simp only [E.den, dEq, iEq, sEq, cells_Need, tOf_eq, tSp_eq]; refine dec_ok ?_; simp only [ByteArray.size_append, tSp_size, tOf_size]; unfold maxLen; omega
  refine den_cond (fun _ => ?_) ?_
  ·simp only [E.den, dEq, iEq, sEq, cells_Need, tOf_eq, tSp_eq]; refine dec_ok ?_; simp only [ByteArray.size_append, tSp_size, tOf_size]; unfold maxLen; omega
  refine den_cond (fun _ => ?_) ?_
  ·simp only [E.den, dEq, iEq, sEq, cells_Need, tOf_eq, tSp_eq]; refine dec_ok ?_; simp only [ByteArray.size_append, tSp_size, tOf_size]; unfold maxLen; omega
  ((first | refine den_call ?_ (c_spec_FormatVersion n.least) (trivial) ?_ | refine den_callR ?_ (c_spec_FormatVersion n.least) (trivial) ?_ | refine den_call ?_ (.ofR (c_spec_FormatVersion n.least)) (trivial) ?_); (focus (simp only [VC.den, E.den, dEq, gsH_nil, and_true, cells_Need]; try exact rfl)); (simp only [cA]))
  refine den_cond (fun _ => ?_) (den_ret ?_)
  ·simp only [E.den, dEq, iEq, sEq, cells_Need, tOf_eq, tSp_eq]; refine dec_ok ?_; simp only [ByteArray.size_append, tSp_size, tOf_size]; unfold maxLen; omega
  ·simp only [E.den, dEq, iEq, sEq, cells_Need, tOf_eq, tSp_eq]
   rw [needT, if_neg (by grind)]
 ·simp only [E.den, dEq, iEq, sEq, cells_Need, noText_eq] at h3
  refine den_cond (fun _ => ?_) ?_
  ·simp only [E.den, dEq, iEq, sEq, cells_Need, tOf_eq, tSp_eq]; refine dec_ok ?_; simp only [ByteArray.size_append, tSp_size, tOf_size]; unfold maxLen; omega
  ((first | refine den_call ?_ (c_spec_FormatVersion n.least) (trivial) ?_ | refine den_callR ?_ (c_spec_FormatVersion n.least) (trivial) ?_ | refine den_call ?_ (.ofR (c_spec_FormatVersion n.least)) (trivial) ?_); (focus (simp only [VC.den, E.den, dEq, gsH_nil, and_true, cells_Need]; try exact rfl)); (simp only [cA]))
  refine den_cond (fun _ => ?_) (den_ret ?_)
  ·simp only [E.den, dEq, iEq, sEq, cells_Need, tOf_eq, tSp_eq]; refine dec_ok ?_; simp only [ByteArray.size_append, tSp_size, tOf_size]; unfold maxLen; omega
  ·simp only [E.den, dEq, iEq, sEq, cells_Need, tOf_eq, tSp_eq]
   rw [needT, if_pos (by grind)]
theorem c_spec_FormatEntry (e : Entry) : Fun Tryz.prog 57 none [enc e] (.str (entT e)) [] := by
 refine Fun.ofV vc_spec_FormatEntry_ok ty_spec_FormatEntry_ok rfl ?_ (fun hfit => ?_)
 ·exact ⟨ty_Entry e, trivial⟩
 unfold vc_spec_FormatEntry
 ((first | refine den_call ?_ (c_spec_IsEntry e) (trivial) ?_ | refine den_callR ?_ (c_spec_IsEntry e) (trivial) ?_ | refine den_call ?_ (.ofR (c_spec_IsEntry e)) (trivial) ?_); (focus (simp only [VC.den, E.den, dEq, gsH_nil, and_true]; try exact rfl)); (simp only [cA]))
 refine den_ite (fun h => den_ret ?_) (fun h => ?_)
 ·simp only [E.den, dEq, iEq, sEq] at h ⊢
  rw [entT, if_neg (by grind)]; rfl
 simp only [E.den, dEq, iEq, sEq] at h
 have h : entryB e = true := by grind
 obtain ⟨hN, hR⟩ := rec_join (entryB_rec h)
 have h1 := entryB_name h
 have h2 := verS_size e.ver
 have h3 := needs_join h
 have h4 := entryB_len h
 have hml : (e.needs.map needT).length ≤ 140737488355328 := by rw [List.length_map]; omega
 refine den_cond (fun _ => ?_) ?_
 ·simp only [E.den, dEq, iEq, sEq, cells_Entry, tCol_eq, tSemi_eq]; refine dec_ok ?_; simp only [ByteArray.size_append, tCol_size, tSemi_size]; unfold maxLen; omega
 ((first | refine den_call ?_ (c_spec_JoinWith e.recipe tSp (by omega) (by omega)) (trivial) ?_ | refine den_callR ?_ (c_spec_JoinWith e.recipe tSp (by omega) (by omega)) (trivial) ?_ | refine den_call ?_ (.ofR (c_spec_JoinWith e.recipe tSp (by omega) (by omega))) (trivial) ?_); (focus (simp only [VC.den, E.den, dEq, gsH_nil, and_true, cells_Entry]; try exact rfl)); (simp only [cA]))
 refine den_cond (fun _ => ?_) ?_
 ·simp only [E.den, dEq, iEq, sEq, cells_Entry, tCol_eq, tSemi_eq]; refine dec_ok ?_; simp only [ByteArray.size_append, tCol_size, tSemi_size]; unfold maxLen; omega
 refine den_cond (fun _ => ?_) ?_
 ·simp only [E.den, dEq, iEq, sEq, cells_Entry, tCol_eq, tSemi_eq]; refine dec_ok ?_; simp only [ByteArray.size_append, tCol_size, tSemi_size]; unfold maxLen; omega
 ((first | refine den_call ?_ (c_spec_FormatVersion e.ver) (trivial) ?_ | refine den_callR ?_ (c_spec_FormatVersion e.ver) (trivial) ?_ | refine den_call ?_ (.ofR (c_spec_FormatVersion e.ver)) (trivial) ?_); (focus (simp only [VC.den, E.den, dEq, gsH_nil, and_true, cells_Entry]; try exact rfl)); (simp only [cA]))
 refine den_cond (fun _ => ?_) ?_
 ·simp only [E.den, dEq, iEq, sEq, cells_Entry, tCol_eq, tSemi_eq]; refine dec_ok ?_; simp only [ByteArray.size_append, tCol_size, tSemi_size]; unfold maxLen; omega
 refine den_for e.needs.length (fun k => [encS ((e.needs.take k).map needT), .int .i64 k]) (fun _ => True) rfl trivial ?_
 intro k hk hI _
 simp only [cA]
 refine den_ite (fun g2 => ?_) (fun g2 => ?_)
 ·simp only [E.den, dEq, iEq, sEq, cells_Entry] at g2
  have g2 : k < e.needs.length := by simp at g2; exact g2
  (refine den_cond (fun hg => ?_) ?_; (focus (simp only [gsH, gE, E.den, dEq, iEq, sEq, cells_Entry] at hg ⊢; (try simp only [D.bool.injEq] at hg); (try simp only [D.bool.injEq]); grind)))
  ((first | refine den_call ?_ (c_spec_l6Need (nth e.needs k) (entryB_need h g2)) (trivial) ?_ | refine den_callR ?_ (c_spec_l6Need (nth e.needs k) (entryB_need h g2)) (trivial) ?_ | refine den_call ?_ (.ofR (c_spec_l6Need (nth e.needs k) (entryB_need h g2))) (trivial) ?_); (focus (simp only [VC.den, E.den, dEq, gsH_nil, and_true, cells_Entry, row_Need]; try exact rfl)); (simp only [cA]))
  refine den_cond (fun _ => ?_) ?_
  ·simp only [E.den, dEq, iEq, sEq]; simp [maxLen]; omega
  refine den_next g2 ?_ trivial
  simp only [E.den, dEq, iEq, sEq]
  rw [ar_add (by omega) (by omega), map_take_succ _ g2]
  simp [encS, cells_str]
 ·simp only [E.den, dEq, iEq, sEq, cells_Entry] at g2
  obtain rfl : k = e.needs.length := by simp at g2; omega
  refine den_ite (fun g3 => ?_) (fun g3 => ?_)
  ·simp only [E.den, dEq, iEq, sEq] at g3
   have g3 : e.needs ≠ [] := by intro e0; simp [e0] at g3
   refine den_cond (fun _ => ?_) ?_
   ·simp only [E.den, dEq, iEq, sEq, cells_Entry, tCol_eq, tSemi_eq]; refine dec_ok ?_; simp only [ByteArray.size_append, tCol_size, tSemi_size]; unfold maxLen; omega
   ((first | refine den_call ?_ (c_spec_JoinWith (e.needs.map needT) tCom hml (by omega)) (trivial) ?_ | refine den_callR ?_ (c_spec_JoinWith (e.needs.map needT) tCom hml (by omega)) (trivial) ?_ | refine den_call ?_ (.ofR (c_spec_JoinWith (e.needs.map needT) tCom hml (by omega))) (trivial) ?_); (focus (simp only [VC.den, E.den, dEq, gsH_nil, and_true, cells_Entry, List.take_length]; try exact rfl)); (simp only [cA]))
   refine den_cond (fun _ => ?_) (den_ret ?_)
   ·simp only [E.den, dEq, iEq, sEq, cells_Entry, tCol_eq, tSemi_eq]; refine dec_ok ?_; simp only [ByteArray.size_append, tCol_size, tSemi_size]; unfold maxLen; omega
   ·simp only [E.den, dEq, iEq, sEq, cells_Entry, tCol_eq, tSemi_eq]
    rw [entT, if_pos h, if_neg g3]
  ·simp only [E.den, dEq, iEq, sEq] at g3
   have g3 : e.needs = [] := by
    cases hn : e.needs with
    | nil => rfl
    | cons x r => rw [hn] at g3; simp at g3
   refine den_ret ?_
   simp only [E.den, dEq, iEq, sEq, cells_Entry, tCol_eq, tSemi_eq]
   rw [entT, if_pos h, if_pos g3]
theorem c_impl_FormatEntry [HasAbil] (e : Entry) : Fun Tryz.prog 61 none [enc e] (.str (entT e)) [] := by
 refine Fun.ofV vc_impl_FormatEntry_ok ty_impl_FormatEntry_ok rfl ?_ (fun hfit => ?_)
 ·exact ⟨ty_Entry e, trivial⟩
 unfold vc_impl_FormatEntry
 ((first | refine den_call ?_ (c_impl_IsEntry e) (trivial) ?_ | refine den_callR ?_ (c_impl_IsEntry e) (trivial) ?_ | refine den_call ?_ (.ofR (c_impl_IsEntry e)) (trivial) ?_); (focus (simp only [VC.den, E.den, dEq, gsH_nil, and_true]; try exact rfl)); (simp only [cA]))
 refine den_ite (fun h => den_ret ?_) (fun h => ?_)
 ·simp only [E.den, dEq, iEq, sEq] at h ⊢
  rw [entT, if_neg (by grind)]; rfl
 simp only [E.den, dEq, iEq, sEq] at h
 have h : entryB e = true := by grind
 obtain ⟨hN, hR⟩ := rec_join (entryB_rec h)
 have h1 := entryB_name h
 have h2 := verS_size e.ver
 have h3 := needs_join h
 have h4 := entryB_len h
 have hml : (e.needs.map needT).length ≤ 140737488355328 := by rw [List.length_map]; omega
 refine den_cond (fun _ => ?_) ?_
 ·simp only [E.den, dEq, iEq, sEq, cells_Entry, tCol_eq, tSemi_eq]; refine dec_ok ?_; simp only [ByteArray.size_append, tCol_size, tSemi_size]; unfold maxLen; omega
 ((first | refine den_call ?_ (c_impl_JoinWith e.recipe tSp (by omega) (by omega)) (trivial) ?_ | refine den_callR ?_ (c_impl_JoinWith e.recipe tSp (by omega) (by omega)) (trivial) ?_ | refine den_call ?_ (.ofR (c_impl_JoinWith e.recipe tSp (by omega) (by omega))) (trivial) ?_); (focus (simp only [VC.den, E.den, dEq, gsH_nil, and_true, cells_Entry]; try exact rfl)); (simp only [cA]))
 refine den_cond (fun _ => ?_) ?_
 ·simp only [E.den, dEq, iEq, sEq, cells_Entry, tCol_eq, tSemi_eq]; refine dec_ok ?_; simp only [ByteArray.size_append, tCol_size, tSemi_size]; unfold maxLen; omega
 refine den_cond (fun _ => ?_) ?_
 ·simp only [E.den, dEq, iEq, sEq, cells_Entry, tCol_eq, tSemi_eq]; refine dec_ok ?_; simp only [ByteArray.size_append, tCol_size, tSemi_size]; unfold maxLen; omega
 ((first | refine den_call ?_ (c_impl_FormatVersion e.ver) (trivial) ?_ | refine den_callR ?_ (c_impl_FormatVersion e.ver) (trivial) ?_ | refine den_call ?_ (.ofR (c_impl_FormatVersion e.ver)) (trivial) ?_); (focus (simp only [VC.den, E.den, dEq, gsH_nil, and_true, cells_Entry]; try exact rfl)); (simp only [cA]))
 refine den_cond (fun _ => ?_) ?_
 ·simp only [E.den, dEq, iEq, sEq, cells_Entry, tCol_eq, tSemi_eq]; refine dec_ok ?_; simp only [ByteArray.size_append, tCol_size, tSemi_size]; unfold maxLen; omega
 refine den_for e.needs.length (fun k => [encS ((e.needs.take k).map needT), .int .i64 k]) (fun _ => True) rfl trivial ?_
 intro k hk hI _
 simp only [cA]
 refine den_ite (fun g2 => ?_) (fun g2 => ?_)
 ·simp only [E.den, dEq, iEq, sEq, cells_Entry] at g2
  have g2 : k < e.needs.length := by simp at g2; exact g2
  have h5 := entryB_need h g2
  have h6 := faceS_size (nth e.needs k).face
  have h7 := verS_size (nth e.needs k).least
  (refine den_cond (fun hg => ?_) ?_; (focus (simp only [gsH, gE, E.den, dEq, iEq, sEq, cells_Entry] at hg ⊢; (try simp only [D.bool.injEq] at hg); (try simp only [D.bool.injEq]); grind)))
  ((first | refine den_call ?_ (c_impl_FormatFace (nth e.needs k).face) (trivial) ?_ | refine den_callR ?_ (c_impl_FormatFace (nth e.needs k).face) (trivial) ?_ | refine den_call ?_ (.ofR (c_impl_FormatFace (nth e.needs k).face)) (trivial) ?_); (focus (simp only [VC.den, E.den, dEq, gsH_nil, and_true, cells_Entry, row_Need, cells_Need]; try exact rfl)); (simp only [cA]))
  refine den_ite (fun g3 => ?_) (fun g3 => ?_)
  ·simp only [E.den, dEq, iEq, sEq, cells_Entry, row_Need, cells_Need, noText_eq] at g3
   refine den_cond (fun _ => ?_) ?_
   ·simp only [E.den, dEq, iEq, sEq, cells_Entry, row_Need, cells_Need, tOf_eq, tSp_eq]; refine dec_ok ?_; simp only [ByteArray.size_append, tSp_size, tOf_size]; unfold maxLen; omega
   refine den_cond (fun _ => ?_) ?_
   ·simp only [E.den, dEq, iEq, sEq, cells_Entry, row_Need, cells_Need, tOf_eq, tSp_eq]; refine dec_ok ?_; simp only [ByteArray.size_append, tSp_size, tOf_size]; unfold maxLen; omega
   refine den_cond (fun _ => ?_) ?_
   ·simp only [E.den, dEq, iEq, sEq, cells_Entry, row_Need, cells_Need, tOf_eq, tSp_eq]; refine dec_ok ?_; simp only [ByteArray.size_append, tSp_size, tOf_size]; unfold maxLen; omega
   ((first | refine den_call ?_ (c_impl_FormatVersion (nth e.needs k).least) (trivial) ?_ | refine den_callR ?_ (c_impl_FormatVersion (nth e.needs k).least) (trivial) ?_ | refine den_call ?_ (.ofR (c_impl_FormatVersion (nth e.needs k).least)) (trivial) ?_); (focus (simp only [VC.den, E.den, dEq, gsH_nil, and_true, cells_Entry, row_Need, cells_Need]; try exact rfl)); (simp only [cA]))
   refine den_cond (fun _ => ?_) ?_
   ·simp only [E.den, dEq, iEq, sEq, cells_Entry, row_Need, cells_Need, tOf_eq, tSp_eq]; refine dec_ok ?_; simp only [ByteArray.size_append, tSp_size, tOf_size]; unfold maxLen; omega
   refine den_cond (fun _ => ?_) ?_
   ·simp only [E.den, dEq, iEq, sEq]; simp [maxLen]; omega
   refine den_next g2 ?_ trivial
   simp only [E.den, dEq, iEq, sEq, cells_Entry, row_Need, cells_Need, tOf_eq, tSp_eq]
   rw [ar_add (by omega) (by omega), map_take_succ _ g2]
   simp [encS, cells_str]
   rw [needT, if_neg (by grind)]
   simp [ByteArray.append_assoc]
  ·simp only [E.den, dEq, iEq, sEq, cells_Entry, row_Need, cells_Need, noText_eq] at g3
   refine den_cond (fun _ => ?_) ?_
   ·simp only [E.den, dEq, iEq, sEq, cells_Entry, row_Need, cells_Need, tOf_eq, tSp_eq]; refine dec_ok ?_; simp only [ByteArray.size_append, tSp_size, tOf_size]; unfold maxLen; omega
   ((first | refine den_call ?_ (c_impl_FormatVersion (nth e.needs k).least) (trivial) ?_ | refine den_callR ?_ (c_impl_FormatVersion (nth e.needs k).least) (trivial) ?_ | refine den_call ?_ (.ofR (c_impl_FormatVersion (nth e.needs k).least)) (trivial) ?_); (focus (simp only [VC.den, E.den, dEq, gsH_nil, and_true, cells_Entry, row_Need, cells_Need]; try exact rfl)); (simp only [cA]))
   refine den_cond (fun _ => ?_) ?_
   ·simp only [E.den, dEq, iEq, sEq, cells_Entry, row_Need, cells_Need, tOf_eq, tSp_eq]; refine dec_ok ?_; simp only [ByteArray.size_append, tSp_size, tOf_size]; unfold maxLen; omega
   refine den_cond (fun _ => ?_) ?_
   ·simp only [E.den, dEq, iEq, sEq]; simp [maxLen]; omega
   refine den_next g2 ?_ trivial
   simp only [E.den, dEq, iEq, sEq, cells_Entry, row_Need, cells_Need, tOf_eq, tSp_eq]
   rw [ar_add (by omega) (by omega), map_take_succ _ g2]
   simp [encS, cells_str]
   rw [needT, if_pos (by grind)]
 ·simp only [E.den, dEq, iEq, sEq, cells_Entry] at g2
  obtain rfl : k = e.needs.length := by simp at g2; omega
  refine den_ite (fun g3 => ?_) (fun g3 => ?_)
  ·simp only [E.den, dEq, iEq, sEq] at g3
   have g3 : e.needs ≠ [] := by intro e0; simp [e0] at g3
   ((first | refine den_call ?_ (c_impl_JoinWith (e.needs.map needT) tCom hml (by omega)) (trivial) ?_ | refine den_callR ?_ (c_impl_JoinWith (e.needs.map needT) tCom hml (by omega)) (trivial) ?_ | refine den_call ?_ (.ofR (c_impl_JoinWith (e.needs.map needT) tCom hml (by omega))) (trivial) ?_); (focus (simp only [VC.den, E.den, dEq, gsH_nil, and_true, cells_Entry, List.take_length]; try exact rfl)); (simp only [cA]))
   refine den_cond (fun _ => ?_) ?_
   ·simp only [E.den, dEq, iEq, sEq, cells_Entry, tCol_eq, tSemi_eq]; refine dec_ok ?_; simp only [ByteArray.size_append, tCol_size, tSemi_size]; unfold maxLen; omega
   refine den_cond (fun _ => ?_) (den_ret ?_)
   ·simp only [E.den, dEq, iEq, sEq, cells_Entry, tCol_eq, tSemi_eq]; refine dec_ok ?_; simp only [ByteArray.size_append, tCol_size, tSemi_size]; unfold maxLen; omega
   ·simp only [E.den, dEq, iEq, sEq, cells_Entry, tCol_eq, tSemi_eq]
    rw [entT, if_pos h, if_neg g3]
    simp [ByteArray.append_assoc]
  ·simp only [E.den, dEq, iEq, sEq] at g3
   have g3 : e.needs = [] := by
    cases hn : e.needs with
    | nil => rfl
    | cons x r => rw [hn] at g3; simp at g3
   refine den_ret ?_
   simp only [E.den, dEq, iEq, sEq, cells_Entry, tCol_eq, tSemi_eq]
   rw [entT, if_pos h, if_pos g3]
end Go.Proofs.YtjmakbnblpjkhaaGreatDoor
/- Whether a list of texts has one; where it stands. -/
namespace Go.Proofs.YtjmakbnblpjkhaaGreatDoor
open Go.RowKit Go
variable [GC]
def hasB (l : List ByteArray) (s : ByteArray) : Bool := l.any fun t => decide (t = s)
theorem c_impl_hasText (l : List ByteArray) (s : ByteArray) : Fun Tryz.prog 35 none [encS l, .str s] (.bool (hasB l s)) [] := by
 refine Fun.ofV vc_impl_hasText_ok ty_impl_hasText_ok rfl ?_ (fun hfit => ?_)
 ·exact ⟨ty_strS l, trivial, trivial⟩
 have hl : l.length ≤ 9223372036854775807 := fits_encS hfit.1
 unfold vc_impl_hasText
 refine den_for l.length (fun k => [.int .i64 k]) (fun k => ∀ i, i < k → nth l i ≠ s) rfl (by omega) ?_
 intro k hk hI _
 simp only [cA]
 refine den_ite (fun h2 => ?_) (fun h2 => ?_)
 ·simp only [E.den, dEq, iEq, sEq] at h2
  have h2 : k < l.length := by simp at h2; exact h2
  (refine den_cond (fun hg => ?_) ?_; (focus (simp only [gsH, gE, E.den, dEq, iEq, sEq] at hg ⊢; (try simp only [D.bool.injEq] at hg); (try simp only [D.bool.injEq]); grind)))
  refine den_ite (fun h3 => ?_) (fun h3 => ?_)
  ·simp only [E.den, dEq, iEq, sEq, row_str, cells_str] at h3
   have hb : hasB l s = true := by
    unfold hasB; rw [List.any_eq_true]; refine ⟨s, ?_, by simp⟩
    have : nth l k = s := by grind
    rw [← this, nth, List.getD_eq_getElem?_getD, List.getElem?_eq_getElem h2]; simp
   exact den_ret (by simp [E.den, hb])
  ·simp only [E.den, dEq, iEq, sEq, row_str, cells_str] at h3
   refine den_next h2 ?_ fun i hi => ?_
   ·simp only [E.den, dEq, iEq, sEq]
    rw [ar_add (by omega) (by omega)]; rfl
   ·rcases Nat.lt_or_ge i k with h | h
    ·exact hI i h
    ·obtain rfl : i = k := by omega
     grind
 ·simp only [E.den, dEq, iEq, sEq] at h2
  obtain rfl : k = l.length := by simp at h2; omega
  have hb : hasB l s = false := by
   unfold hasB; rw [List.any_eq_false]; intro t h
   obtain ⟨i, hi, rfl⟩ := List.getElem_of_mem h
   have := hI i hi
   simpa [nth, List.getD_eq_getElem?_getD, hi] using this
  exact den_ret (by simp [E.den, hb])
theorem c_spec_l1HasText (l : List ByteArray) (s : ByteArray) : Fun Tryz.prog 27 none [encS l, .str s] (.bool (hasB l s)) [] := by
 refine Fun.ofV vc_spec_l1HasText_ok ty_spec_l1HasText_ok rfl ?_ (fun hfit => ?_)
 ·exact ⟨ty_strS l, trivial, trivial⟩
 have hl : l.length ≤ 9223372036854775807 := fits_encS hfit.1
 unfold vc_spec_l1HasText
 refine den_for l.length (fun k => [.int .i64 k]) (fun k => ∀ i, i < k → nth l i ≠ s) rfl (by omega) ?_
 intro k hk hI _
 simp only [cA]
 refine den_ite (fun h2 => ?_) (fun h2 => ?_)
 ·simp only [E.den, dEq, iEq, sEq] at h2
  have h2 : k < l.length := by simp at h2; exact h2
  (refine den_cond (fun hg => ?_) ?_; (focus (simp only [gsH, gE, E.den, dEq, iEq, sEq] at hg ⊢; (try simp only [D.bool.injEq] at hg); (try simp only [D.bool.injEq]); grind)))
  refine den_ite (fun h3 => ?_) (fun h3 => ?_)
  ·simp only [E.den, dEq, iEq, sEq, row_str, cells_str] at h3
   have hb : hasB l s = true := by
    unfold hasB; rw [List.any_eq_true]; refine ⟨s, ?_, by simp⟩
    have : nth l k = s := by grind
    rw [← this, nth, List.getD_eq_getElem?_getD, List.getElem?_eq_getElem h2]; simp
   exact den_ret (by simp [E.den, hb])
  ·simp only [E.den, dEq, iEq, sEq, row_str, cells_str] at h3
   refine den_next h2 ?_ fun i hi => ?_
   ·simp only [E.den, dEq, iEq, sEq]
    rw [ar_add (by omega) (by omega)]; rfl
   ·rcases Nat.lt_or_ge i k with h | h
    ·exact hI i h
    ·obtain rfl : i = k := by omega
     grind
 ·simp only [E.den, dEq, iEq, sEq] at h2
  obtain rfl : k = l.length := by simp at h2; omega
  have hb : hasB l s = false := by
   unfold hasB; rw [List.any_eq_false]; intro t h
   obtain ⟨i, hi, rfl⟩ := List.getElem_of_mem h
   have := hI i hi
   simpa [nth, List.getD_eq_getElem?_getD, hi] using this
  exact den_ret (by simp [E.den, hb])
end Go.Proofs.YtjmakbnblpjkhaaGreatDoor
/- Methods, wants, calls, events: what the program and the reference compute. -/
namespace Go.Proofs.YtjmakbnblpjkhaaGreatDoor
open Go.RowKit Go
variable [GC]
def mStart : ByteArray := ⟨#[83, 116, 97, 114, 116]⟩
def mStop : ByteArray := ⟨#[83, 116, 111, 112]⟩
def mGet : ByteArray := ⟨#[71, 101, 116]⟩
def mPut : ByteArray := ⟨#[80, 117, 116]⟩
def mTell : ByteArray := ⟨#[84, 101, 108, 108]⟩
def mHear : ByteArray := ⟨#[72, 101, 97, 114]⟩
def mLoad : ByteArray := ⟨#[76, 111, 97, 100]⟩
def mSave : ByteArray := ⟨#[83, 97, 118, 101]⟩
def mHeal : ByteArray := ⟨#[72, 101, 97, 108]⟩
def methods : Nat → List ByteArray
 | 0 => [mStart, mStop]
 | 1 => [mGet, mPut]
 | 2 => [mTell]
 | 3 => [mHear]
 | 4 => [mLoad, mSave]
 | 5 => [mHeal]
 | _ => []
theorem meth_index (k : Nat) (hk : k < 6) (v0 v1 v2 v3 v4 v5 : Value) (w : World) : (Instr.index 237 (.agg #[v0, v1, v2, v3, v4, v5]) (.int .i64 k)).run Tryz.prog w = .ok ([v0, v1, v2, v3, v4, v5].getD k (.bool false)) w := by
 obtain rfl | rfl | rfl | rfl | rfl | rfl : k = 0 ∨ k = 1 ∨ k = 2 ∨ k = 3 ∨ k = 4 ∨ k = 5 := by omega
 all_goals kernel_rfl
theorem methods_size : ∀ (k : Fin 6), ∀ s, s ∈ methods k.val → s.size ≤ maxLen := by decide
theorem t_impl_methodsOf (k : Nat) (hk : k < 6) (w : World) (M : Addr → Prop) (hM : ∀ p, M p → p.block < w.heap.size) :
  Calls Tryz.prog 186 #[.int .i64 k] w fun e w' => ∃ v, e = .returned v ∧ R w' M (encS (methods k)) v ∧ Below w.heap.size w w' := by
 have hi := meth_index k hk
 go_enter Tryz.func186, Tryz.ntmps186
 go_wp2
 go_returns
 refine ⟨_, rfl, ?_, by go_grown⟩
 have hz := methods_size ⟨k, hk⟩
 have hm : ∀ n, ∀ o, ¬ M ⟨w.heap.size + n, o, none⟩ := fun n o h => by have := hM _ h; simp at this; omega
 obtain rfl | rfl | rfl | rfl | rfl | rfl : k = 0 ∨ k = 1 ∨ k = 2 ∨ k = 3 ∨ k = 4 ∨ k = 5 := by omega
 ·exact R_strs _ (heap_old (heap_old (heap_old (heap_old (heap_old (heap_new (by simp))))))) rfl rfl (hm 0) hz (by decide)
 ·exact R_strs _ (heap_old (heap_old (heap_old (heap_old (heap_new (by simp)))))) rfl rfl (hm 1) hz (by decide)
 ·exact R_strs _ (heap_old (heap_old (heap_old (heap_new (by simp))))) rfl rfl (hm 2) hz (by decide)
 ·exact R_strs _ (heap_old (heap_old (heap_new (by simp)))) rfl rfl (hm 3) hz (by decide)
 ·exact R_strs _ (heap_old (heap_new (by simp))) rfl rfl (hm 4) hz (by decide)
 ·exact R_strs _ (heap_new (by simp)) rfl rfl (hm 5) hz (by decide)
theorem c_impl_methodsOf (k : Nat) (hk : k < 6) : Fun Tryz.prog 186 none [.int .i64 k] (encS (methods k)) [] := by
 refine Fun.of_calls (by kernel_rfl) fun w M vs hM hr => ?_
 obtain ⟨v, q, rfl, ⟨rfl, _⟩, rfl⟩ := hr
 exact t_impl_methodsOf k hk w M hM
theorem c_spec_l2Methods (k : Nat) (hk : k < 6) : FunR Tryz.prog 220 none [.int .i64 k] (encS (methods k)) [] [(0, 1)] := by
 refine FunR.ofV vc_spec_l2Methods_ok ty_spec_l2Methods_ok rt_spec_l2Methods_ok rfl ?_ (fun hfit => ?_)
 ·exact ⟨rfl, trivial⟩
 unfold vc_spec_l2Methods
 obtain rfl | rfl | rfl | rfl | rfl | rfl : k = 0 ∨ k = 1 ∨ k = 2 ∨ k = 3 ∨ k = 4 ∨ k = 5 := by omega
 all_goals
  simp [VC.den, E.den, cmpI]
  rfl
def abP (s : ByteArray) (k : Nat) : Bool := hasB (methods k) s
def abM (s : ByteArray) : Int := match firstTo (abP s) 6 with | some k => k | none => -1
theorem c_impl_AbilityOfMethod (s : ByteArray) : Fun Tryz.prog 150 none [.str s] (.int .i64 (abM s)) [] := by
 refine Fun.ofV vc_impl_AbilityOfMethod_ok ty_impl_AbilityOfMethod_ok rfl ?_ (fun hfit => ?_)
 ·exact ⟨trivial, trivial⟩
 unfold vc_impl_AbilityOfMethod
 refine den_for 6 (fun k => [.int .i64 k]) (fun k => ∀ i, i < k → abP s i = false) rfl (by omega) ?_
 intro k hk hI _
 simp only [cA]
 refine den_ite (fun h2 => ?_) (fun h2 => ?_)
 ·simp only [E.den, dEq, iEq, sEq] at h2
  have h2 : k < 6 := by simp at h2; omega
  ((first | refine den_call ?_ (c_impl_methodsOf k h2) (ty_strS _) ?_ | refine den_callR ?_ (c_impl_methodsOf k h2) (ty_strS _) ?_ | refine den_call ?_ (.ofR (c_impl_methodsOf k h2)) (ty_strS _) ?_); (focus (simp only [VC.den, E.den, dEq, gsH_nil, and_true]; try exact rfl)); (simp only [cA]))
  ((first | refine den_call ?_ (c_impl_hasText (methods k) s) (trivial) ?_ | refine den_callR ?_ (c_impl_hasText (methods k) s) (trivial) ?_ | refine den_call ?_ (.ofR (c_impl_hasText (methods k) s)) (trivial) ?_); (focus (simp only [VC.den, E.den, dEq, gsH_nil, and_true]; try exact rfl)); (simp only [cA]))
  refine den_ite (fun h3 => ?_) (fun h3 => ?_)
  ·simp only [E.den, dEq, iEq, sEq] at h3
   refine den_ret ?_
   simp [E.den, abM, firstTo_some h3 hI h2]
  ·simp only [E.den, dEq, iEq, sEq] at h3
   refine den_next h2 ?_ fun i hi => ?_
   ·simp only [E.den, dEq, iEq, sEq]
    rw [ar_add (by omega) (by omega)]; rfl
   ·rcases Nat.lt_or_ge i k with h | h
    ·exact hI i h
    ·obtain rfl : i = k := by omega
     exact h3
 ·simp only [E.den, dEq, iEq, sEq] at h2
  obtain rfl : k = 6 := by simp at h2; omega
  exact den_ret (by simp [E.den, abM, firstTo_none hI])
theorem c_spec_AbilityOfMethod (s : ByteArray) : Fun Tryz.prog 199 none [.str s] (.int .i64 (abM s)) [] := by
 refine Fun.ofV vc_spec_AbilityOfMethod_ok ty_spec_AbilityOfMethod_ok rfl ?_ (fun hfit => ?_)
 ·exact ⟨trivial, trivial⟩
 unfold vc_spec_AbilityOfMethod
 refine den_for 6 (fun k => [.int .i64 k]) (fun k => ∀ i, i < k → abP s i = false) rfl (by omega) ?_
 intro k hk hI _
 simp only [cA]
 refine den_ite (fun h2 => ?_) (fun h2 => ?_)
 ·simp only [E.den, dEq, iEq, sEq] at h2
  have h2 : k < 6 := by simp at h2; omega
  ((first | refine den_call ?_ (c_spec_l2Methods k h2) (ty_strS _) ?_ | refine den_callR ?_ (c_spec_l2Methods k h2) (ty_strS _) ?_ | refine den_call ?_ (.ofR (c_spec_l2Methods k h2)) (ty_strS _) ?_); (focus (simp only [VC.den, E.den, dEq, gsH_nil, and_true]; try exact rfl)); (simp only [cA]))
  ((first | refine den_call ?_ (c_spec_l1HasText (methods k) s) (trivial) ?_ | refine den_callR ?_ (c_spec_l1HasText (methods k) s) (trivial) ?_ | refine den_call ?_ (.ofR (c_spec_l1HasText (methods k) s)) (trivial) ?_); (focus (simp only [VC.den, E.den, dEq, gsH_nil, and_true]; try exact rfl)); (simp only [cA]))
  refine den_ite (fun h3 => ?_) (fun h3 => ?_)
  ·simp only [E.den, dEq, iEq, sEq] at h3
   refine den_ret ?_
   simp [E.den, abM, firstTo_some h3 hI h2]
  ·simp only [E.den, dEq, iEq, sEq] at h3
   refine den_next h2 ?_ fun i hi => ?_
   ·simp only [E.den, dEq, iEq, sEq]
    rw [ar_add (by omega) (by omega)]; rfl
   ·rcases Nat.lt_or_ge i k with h | h
    ·exact hI i h
    ·obtain rfl : i = k := by omega
     exact h3
 ·simp only [E.den, dEq, iEq, sEq] at h2
  obtain rfl : k = 6 := by simp at h2; omega
  exact den_ret (by simp [E.den, abM, firstTo_none hI])
theorem abM_lt (s : ByteArray) : abM s < 6 := by
 unfold abM
 cases h : firstTo (abP s) 6 with
 | none => simp
 | some k => have := (firstTo_lt h).1; simp; omega
def wantZ (s : ByteArray) : Int := if abM s < 0 then 0 else ((2 ^ (abM s).toNat : Nat) : Int)
theorem wantZ_zero (s : ByteArray) : (wantZ s = 0) ↔ abM s < 0 := by
 unfold wantZ
 split
 ·simp [*]
 ·have := Nat.two_pow_pos (abM s).toNat
  constructor <;> intro h <;> omega
theorem c_spec_WantOf (s : ByteArray) : Fun Tryz.prog 168 none [.str s] (.int .i64 (wantZ s)) [] := by
 refine Fun.ofV vc_spec_WantOf_ok ty_spec_WantOf_ok rfl ?_ (fun hfit => ?_)
 ·exact ⟨trivial, trivial⟩
 unfold vc_spec_WantOf
 ((first | refine den_call ?_ (c_spec_AbilityOfMethod s) (rfl) ?_ | refine den_callR ?_ (c_spec_AbilityOfMethod s) (rfl) ?_ | refine den_call ?_ (.ofR (c_spec_AbilityOfMethod s)) (rfl) ?_); (focus (simp only [VC.den, E.den, dEq, gsH_nil, and_true]; try exact rfl)); (simp only [cA]))
 refine den_ite (fun h => ?_) (fun h => ?_)
 ·simp only [E.den, dEq, iEq, sEq] at h
  have h : abM s < 0 := by simpa using h
  exact den_ret (by simp [E.den, wantZ, h])
 simp only [E.den, dEq, iEq, sEq] at h
 have h : ¬ abM s < 0 := by simpa using h
 have h6 := abM_lt s
 refine den_cond (fun _ => ?_) (den_ret ?_)
 ·simp [E.den, cmpI]; omega
 ·have e := allow_shl ⟨(abM s).toNat, by omega⟩
  have e2 : (((abM s).toNat : Nat) : Int) = abM s := by omega
  rw [e2] at e
  simp only [E.den, dEq, iEq, sEq, e]
  simp [wantZ, h]
def callB (c : Call) : Bool := !decide (abM c.method < 0) && (decide (c.text = noText) || decide (c.method = mLoad)) &&
 ((decide (c.method = mGet) || decide (c.method = mPut)) && nameB c.key || !(decide (c.method = mGet) || decide (c.method = mPut)) && decide (c.key = noText)) &&
 (decide (c.val = 0) || (decide (c.method = mPut) || decide (c.method = mHear)) && decide (0 < c.val) && decide (c.val ≤ 999))
theorem m_ne : mGet ≠ mPut ∧ mGet ≠ mHear ∧ mPut ≠ mHear := by decide
theorem c_spec_IsCall (c : Call) : Fun Tryz.prog 129 none [enc c] (.bool (callB c)) [] := by
 refine Fun.ofV vc_spec_IsCall_ok ty_spec_IsCall_ok rfl ?_ (fun hfit => ?_)
 ·exact ⟨ty_Call c, trivial⟩
 unfold vc_spec_IsCall
 ((first | refine den_call ?_ (c_spec_WantOf c.method) (rfl) ?_ | refine den_callR ?_ (c_spec_WantOf c.method) (rfl) ?_ | refine den_call ?_ (.ofR (c_spec_WantOf c.method)) (rfl) ?_); (focus (simp only [VC.den, E.den, dEq, gsH_nil, and_true, cells_Call]; try exact rfl)); (simp only [cA]))
 ((first | refine den_call ?_ (c_spec_IsName c.key) (trivial) ?_ | refine den_callR ?_ (c_spec_IsName c.key) (trivial) ?_ | refine den_call ?_ (.ofR (c_spec_IsName c.key)) (trivial) ?_); (focus (simp only [VC.den, E.den, dEq, gsH_nil, and_true, cells_Call]; try exact rfl)); (simp only [cA]))
 refine den_ite (fun h => ?_) (fun h => ?_)
 ·simp only [E.den, dEq, iEq, sEq, cells_Call] at h
  have := wantZ_zero c.method
  have := m_ne
  refine den_ret ?_
  simp only [E.den, D.bool.injEq]
  unfold callB mGet mPut mHear mLoad noText at *; grind
 simp only [E.den, dEq, iEq, sEq, cells_Call] at h
 have := wantZ_zero c.method
 have := m_ne
 refine den_ret ?_
 simp only [E.den, dEq, iEq, sEq, cells_Call]
 simp only [D.bool.injEq]
 unfold callB mGet mPut mHear mLoad noText at *; grind
theorem c_impl_IsCall (c : Call) : Fun Tryz.prog 98 none [enc c] (.bool (callB c)) [] := by
 refine Fun.ofV vc_impl_IsCall_ok ty_impl_IsCall_ok rfl ?_ (fun hfit => ?_)
 ·exact ⟨ty_Call c, trivial⟩
 have hn := m_ne
 unfold vc_impl_IsCall
 ((first | refine den_call ?_ (c_impl_AbilityOfMethod c.method) (rfl) ?_ | refine den_callR ?_ (c_impl_AbilityOfMethod c.method) (rfl) ?_ | refine den_call ?_ (.ofR (c_impl_AbilityOfMethod c.method)) (rfl) ?_); (focus (simp only [VC.den, E.den, dEq, gsH_nil, and_true, cells_Call]; try exact rfl)); (simp only [cA]))
 refine den_ite (fun h => ?_) (fun h => ?_)
 ·simp only [E.den, dEq, iEq, sEq, cells_Call] at h
  refine den_ret ?_
  simp only [E.den, D.bool.injEq]
  unfold callB mGet mPut mHear mLoad noText at *; grind
 simp only [E.den, dEq, iEq, sEq, cells_Call] at h
 refine den_ite (fun h1 => ?_) (fun h1 => ?_)
 ·simp only [E.den, dEq, iEq, sEq, cells_Call] at h1
  ((first | refine den_call ?_ (c_impl_IsName c.key) (trivial) ?_ | refine den_callR ?_ (c_impl_IsName c.key) (trivial) ?_ | refine den_call ?_ (.ofR (c_impl_IsName c.key)) (trivial) ?_); (focus (simp only [VC.den, E.den, dEq, gsH_nil, and_true, cells_Call]; try exact rfl)); (simp only [cA]))
  refine den_ret ?_
  simp only [E.den, dEq, iEq, sEq, cells_Call]
  simp only [D.bool.injEq]
  unfold callB mGet mPut mHear mLoad noText at *; grind
 simp only [E.den, dEq, iEq, sEq, cells_Call] at h1
 refine den_ite (fun h2 => ?_) (fun h2 => ?_)
 ·simp only [E.den, dEq, iEq, sEq, cells_Call] at h2
  ((first | refine den_call ?_ (c_impl_IsName c.key) (trivial) ?_ | refine den_callR ?_ (c_impl_IsName c.key) (trivial) ?_ | refine den_call ?_ (.ofR (c_impl_IsName c.key)) (trivial) ?_); (focus (simp only [VC.den, E.den, dEq, gsH_nil, and_true, cells_Call]; try exact rfl)); (simp only [cA]))
  ((first | refine den_call ?_ (c_impl_isNumber c.val) (trivial) ?_ | refine den_callR ?_ (c_impl_isNumber c.val) (trivial) ?_ | refine den_call ?_ (.ofR (c_impl_isNumber c.val)) (trivial) ?_); (focus (simp only [VC.den, E.den, dEq, gsH_nil, and_true, cells_Call]; try exact rfl)); (simp only [cA]))
  refine den_ret ?_
  simp only [E.den, dEq, iEq, sEq, cells_Call]
  simp only [D.bool.injEq]
  unfold callB mGet mPut mHear mLoad noText numB at *; grind
 simp only [E.den, dEq, iEq, sEq, cells_Call] at h2
 refine den_ite (fun h3 => ?_) (fun h3 => ?_)
 ·simp only [E.den, dEq, iEq, sEq, cells_Call] at h3
  ((first | refine den_call ?_ (c_impl_isNumber c.val) (trivial) ?_ | refine den_callR ?_ (c_impl_isNumber c.val) (trivial) ?_ | refine den_call ?_ (.ofR (c_impl_isNumber c.val)) (trivial) ?_); (focus (simp only [VC.den, E.den, dEq, gsH_nil, and_true, cells_Call]; try exact rfl)); (simp only [cA]))
  refine den_ret ?_
  simp only [E.den, dEq, iEq, sEq, cells_Call]
  simp only [D.bool.injEq]
  unfold callB mGet mPut mHear mLoad noText numB at *; grind
 simp only [E.den, dEq, iEq, sEq, cells_Call] at h3
 refine den_ret ?_
 simp only [E.den, dEq, iEq, sEq, cells_Call]
 simp only [D.bool.injEq]
 unfold callB mGet mPut mHear mLoad noText at *; grind
def zeroC : Call := ⟨noText, noText, 0, noText⟩
theorem eq_zeroC (c : Call) : eqvL [.str c.method, .str c.key, .int .i64 c.val, .str c.text] [.str ⟨#[]⟩, .str ⟨#[]⟩, .int .i64 0, .str ⟨#[]⟩] = decide (c = zeroC) := eqv_Call c zeroC
theorem c_impl_zeroCall (c : Call) : Fun Tryz.prog 102 none [enc c] (.bool (decide (c = zeroC))) [] := by
 refine Fun.ofV vc_impl_zeroCall_ok ty_impl_zeroCall_ok rfl ?_ (fun hfit => ?_)
 ·exact ⟨ty_Call c, trivial⟩
 unfold vc_impl_zeroCall
 refine den_ret ?_
 simp only [E.den, dEq, iEq, sEq, cells_Call, eq_zeroC]
def eventB (e : Event) : Bool := decide (1 ≤ e.kind) && decide (e.kind ≤ 5) && nameB e.name && (decide (e.kind = 3) && callB e.call || !decide (e.kind = 3) && decide (e.call = zeroC)) && (decide (e.kind = 5) && recOk e.recipe || !decide (e.kind = 5) && decide (e.recipe.length = 0))
theorem c_spec_IsEvent (e : Event) : Fun Tryz.prog 75 none [enc e] (.bool (eventB e)) [] := by
 refine Fun.ofV vc_spec_IsEvent_ok ty_spec_IsEvent_ok rfl ?_ (fun hfit => ?_)
 ·exact ⟨ty_Event e, trivial⟩
 unfold vc_spec_IsEvent
 ((first | refine den_call ?_ (c_spec_RecipeFace e.recipe) (⟨rfl, trivial, trivial⟩) ?_ | refine den_callR ?_ (c_spec_RecipeFace e.recipe) (⟨rfl, trivial, trivial⟩) ?_ | refine den_call ?_ (.ofR (c_spec_RecipeFace e.recipe)) (⟨rfl, trivial, trivial⟩) ?_); (focus (simp only [VC.den, E.den, dEq, gsH_nil, and_true, cells_Event]; try exact rfl)); (simp only [cA]))
 ((first | refine den_call ?_ (c_spec_IsCall e.call) (trivial) ?_ | refine den_callR ?_ (c_spec_IsCall e.call) (trivial) ?_ | refine den_call ?_ (.ofR (c_spec_IsCall e.call)) (trivial) ?_); (focus (simp only [VC.den, E.den, dEq, gsH_nil, and_true, cells_Event, cells_Call]; try exact rfl)); (simp only [cA]))
 ((first | refine den_call ?_ (c_spec_IsName e.name) (trivial) ?_ | refine den_callR ?_ (c_spec_IsName e.name) (trivial) ?_ | refine den_call ?_ (.ofR (c_spec_IsName e.name)) (trivial) ?_); (focus (simp only [VC.den, E.den, dEq, gsH_nil, and_true, cells_Event]; try exact rfl)); (simp only [cA]))
 refine den_ite (fun h => ?_) (fun h => ?_)
 ·simp only [E.den, dEq, iEq, sEq, cells_Event] at h
  refine den_ret ?_
  simp only [E.den, D.bool.injEq]
  unfold eventB; grind
 simp only [E.den, dEq, iEq, sEq, cells_Event] at h
 refine den_ite (fun h1 => ?_) (fun h1 => ?_)
 ·simp only [E.den, dEq, iEq, sEq, cells_Event, eq_zeroC] at h1
  refine den_ret ?_
  simp only [E.den, D.bool.injEq]
  unfold eventB; grind
 simp only [E.den, dEq, iEq, sEq, cells_Event, eq_zeroC] at h1
 refine den_ret ?_
 simp only [E.den, dEq, iEq, sEq, cells_Event]
 simp only [D.bool.injEq]
 unfold eventB; grind
theorem c_impl_IsEvent (e : Event) : Fun Tryz.prog 50 none [enc e] (.bool (eventB e)) [] := by
 refine Fun.ofV vc_impl_IsEvent_ok ty_impl_IsEvent_ok rfl ?_ (fun hfit => ?_)
 ·exact ⟨ty_Event e, trivial⟩
 unfold vc_impl_IsEvent
 ((first | refine den_call ?_ (c_impl_IsName e.name) (trivial) ?_ | refine den_callR ?_ (c_impl_IsName e.name) (trivial) ?_ | refine den_call ?_ (.ofR (c_impl_IsName e.name)) (trivial) ?_); (focus (simp only [VC.den, E.den, dEq, gsH_nil, and_true, cells_Event]; try exact rfl)); (simp only [cA]))
 refine den_ite (fun h => ?_) (fun h => ?_)
 ·simp only [E.den, dEq, iEq, sEq, cells_Event] at h
  refine den_ret ?_
  simp only [E.den, D.bool.injEq]
  unfold eventB; grind
 simp only [E.den, dEq, iEq, sEq, cells_Event] at h
 ((first | refine den_call ?_ (c_impl_IsCall e.call) (trivial) ?_ | refine den_callR ?_ (c_impl_IsCall e.call) (trivial) ?_ | refine den_call ?_ (.ofR (c_impl_IsCall e.call)) (trivial) ?_); (focus (simp only [VC.den, E.den, dEq, gsH_nil, and_true, cells_Event, cells_Call]; try exact rfl)); (simp only [cA]))
 ((first | refine den_call ?_ (c_impl_zeroCall e.call) (trivial) ?_ | refine den_callR ?_ (c_impl_zeroCall e.call) (trivial) ?_ | refine den_call ?_ (.ofR (c_impl_zeroCall e.call)) (trivial) ?_); (focus (simp only [VC.den, E.den, dEq, gsH_nil, and_true, cells_Event, cells_Call]; try exact rfl)); (simp only [cA]))
 refine den_ite (fun h1 => ?_) (fun h1 => ?_)
 ·simp only [E.den, dEq, iEq, sEq, cells_Event] at h1
  refine den_ret ?_
  simp only [E.den, D.bool.injEq]
  unfold eventB; grind
 simp only [E.den, dEq, iEq, sEq, cells_Event] at h1
 refine den_ite (fun h2 => ?_) (fun h2 => ?_)
 ·simp only [E.den, dEq, iEq, sEq, cells_Event] at h2
  ((first | refine den_call ?_ (c_impl_RecipeFace e.recipe) (⟨rfl, trivial, trivial⟩) ?_ | refine den_callR ?_ (c_impl_RecipeFace e.recipe) (⟨rfl, trivial, trivial⟩) ?_ | refine den_call ?_ (.ofR (c_impl_RecipeFace e.recipe)) (⟨rfl, trivial, trivial⟩) ?_); (focus (simp only [VC.den, E.den, dEq, gsH_nil, and_true, cells_Event]; try exact rfl)); (simp only [cA]))
  refine den_ret ?_
  simp only [E.den, dEq, iEq, sEq, cells_Event]
  simp only [D.bool.injEq]
  unfold eventB; grind
 simp only [E.den, dEq, iEq, sEq, cells_Event] at h2
 refine den_ret ?_
 simp only [E.den, dEq, iEq, sEq, cells_Event]
 simp only [D.bool.injEq]
 unfold eventB; grind
end Go.Proofs.YtjmakbnblpjkhaaGreatDoor
/- Contracts: events as texts. -/
namespace Go.Proofs.YtjmakbnblpjkhaaGreatDoor
open Go.RowKit Go
variable [GC]
def tPut : ByteArray := ⟨#[80, 117, 116, 32]⟩
def tGet : ByteArray := ⟨#[71, 101, 116, 32]⟩
def tHear : ByteArray := ⟨#[72, 101, 97, 114, 32]⟩
def tLoad : ByteArray := ⟨#[76, 111, 97, 100, 32]⟩
theorem tPut_eq : (⟨#[80, 117, 116, 32]⟩ : ByteArray) = tPut := rfl
theorem tGet_eq : (⟨#[71, 101, 116, 32]⟩ : ByteArray) = tGet := rfl
theorem tHear_eq : (⟨#[72, 101, 97, 114, 32]⟩ : ByteArray) = tHear := rfl
theorem tLoad_eq : (⟨#[76, 111, 97, 100, 32]⟩ : ByteArray) = tLoad := rfl
theorem mPut_eq : (⟨#[80, 117, 116]⟩ : ByteArray) = mPut := rfl
theorem mGet_eq : (⟨#[71, 101, 116]⟩ : ByteArray) = mGet := rfl
theorem mHear_eq : (⟨#[72, 101, 97, 114]⟩ : ByteArray) = mHear := rfl
theorem mLoad_eq : (⟨#[76, 111, 97, 100]⟩ : ByteArray) = mLoad := rfl
theorem tPut_size : tPut.size = 4 := rfl
theorem tGet_size : tGet.size = 4 := rfl
theorem tHear_size : tHear.size = 5 := rfl
theorem tLoad_size : tLoad.size = 5 := rfl
def valT (c : Call) : ByteArray := bs (dig3 c.val.toNat)
def callT (c : Call) : ByteArray :=
 if callB c then (if c.method = mPut then tPut ++ c.key ++ tSp ++ valT c else if c.method = mGet then tGet ++ c.key else if c.method = mHear then tHear ++ valT c else if c.method = mLoad then tLoad ++ c.text else c.method) else noText
theorem callB_val {c : Call} (h : callB c = true) : 0 ≤ c.val ∧ c.val ≤ 999 := by
 unfold callB at h
 simp only [Bool.and_eq_true, Bool.or_eq_true, decide_eq_true_eq] at h
 rcases h.2 with h1 | h1 <;> omega
theorem callB_key {c : Call} (h : callB c = true) : c.key.size ≤ 8 := by
 unfold callB at h
 simp only [Bool.and_eq_true, Bool.or_eq_true, decide_eq_true_eq] at h
 rcases h.1.2 with h1 | h1
 ·exact nameB_le h1.2
 ·rw [h1.2]; decide
theorem valT_size {c : Call} (h : callB c = true) : (valT c).size ≤ 3 := by
 have := callB_val h
 unfold valT
 rw [bs_size]
 exact dig3_le (by omega)
theorem callT_size {c : Call} (h1 : c.method.size ≤ 1048576) (h2 : c.text.size ≤ 1048576) : (callT c).size ≤ 2097152 := by
 unfold callT
 split
 ·rename_i h
  have h3 := callB_key h
  have h4 := valT_size h
  repeat' split
  all_goals (try simp only [ByteArray.size_append, tPut_size, tGet_size, tHear_size, tLoad_size, tSp_size]) <;> omega
 ·decide
theorem m_ne' : mGet ≠ mLoad ∧ mPut ≠ mLoad ∧ mHear ≠ mLoad := by decide
theorem c_impl_FormatCall [HasPow] (c : Call) (ht : c.text.size ≤ 1048576) : Fun Tryz.prog 99 none [enc c] (.str (callT c)) [] := by
 refine Fun.ofV vc_impl_FormatCall_ok ty_impl_FormatCall_ok rfl ?_ (fun hfit => ?_)
 ·exact ⟨ty_Call c, trivial⟩
 have hn := m_ne
 have hn' := m_ne'
 unfold vc_impl_FormatCall
 ((first | refine den_call ?_ (c_impl_IsCall c) (trivial) ?_ | refine den_callR ?_ (c_impl_IsCall c) (trivial) ?_ | refine den_call ?_ (.ofR (c_impl_IsCall c)) (trivial) ?_); (focus (simp only [VC.den, E.den, dEq, gsH_nil, and_true]; try exact rfl)); (simp only [cA]))
 refine den_ite (fun h => den_ret ?_) (fun h => ?_)
 ·simp only [E.den, dEq, iEq, sEq] at h ⊢
  rw [callT, if_neg (by grind)]; rfl
 simp only [E.den, dEq, iEq, sEq] at h
 have h : callB c = true := by grind
 have h3 := callB_key h
 have h4 := valT_size h
 have hv := callB_val h
 have hv' : ((c.val.toNat : Nat) : Int) = c.val := by omega
 have hlt : c.val.toNat < 1000 := by omega
 refine den_ite (fun g1 => ?_) (fun g1 => ?_)
 ·simp only [E.den, dEq, iEq, sEq, cells_Call, mPut_eq] at g1
  have g1 : c.method = mPut := by grind
  refine den_cond (fun _ => ?_) ?_
  ·simp only [E.den, dEq, iEq, sEq, cells_Call, tPut_eq, tSp_eq]; refine dec_ok ?_; simp only [ByteArray.size_append, tPut_size, tSp_size]; unfold maxLen; omega
  refine den_cond (fun _ => ?_) ?_
  ·simp only [E.den, dEq, iEq, sEq, cells_Call, tPut_eq, tSp_eq]; refine dec_ok ?_; simp only [ByteArray.size_append, tPut_size, tSp_size]; unfold maxLen; omega
  ((first | refine den_call ?_ (c_impl_FormatNumber (n := c.val.toNat) hlt) (trivial) ?_ | refine den_callR ?_ (c_impl_FormatNumber (n := c.val.toNat) hlt) (trivial) ?_ | refine den_call ?_ (.ofR (c_impl_FormatNumber (n := c.val.toNat) hlt)) (trivial) ?_); (focus (simp only [VC.den, E.den, dEq, gsH_nil, and_true, cells_Call, hv']; try exact rfl)); (simp only [cA]))
  refine den_cond (fun _ => ?_) (den_ret ?_)
  ·simp only [E.den, dEq, iEq, sEq, cells_Call, tPut_eq, tSp_eq]; refine dec_ok ?_; simp only [ByteArray.size_append, tPut_size, tSp_size]; unfold valT at h4; unfold maxLen; omega
  ·simp only [E.den, dEq, iEq, sEq, cells_Call, tPut_eq, tSp_eq]
   rw [callT, if_pos h, if_pos g1]; rfl
 simp only [E.den, dEq, iEq, sEq, cells_Call, mPut_eq] at g1
 have g1 : c.method ≠ mPut := by grind
 refine den_ite (fun g2 => ?_) (fun g2 => ?_)
 ·simp only [E.den, dEq, iEq, sEq, cells_Call, mGet_eq] at g2
  have g2 : c.method = mGet := by grind
  refine den_cond (fun _ => ?_) (den_ret ?_)
  ·simp only [E.den, dEq, iEq, sEq, cells_Call, tGet_eq]; refine dec_ok ?_; simp only [ByteArray.size_append, tGet_size]; unfold maxLen; omega
  ·simp only [E.den, dEq, iEq, sEq, cells_Call, tGet_eq]
   rw [callT, if_pos h, if_neg g1, if_pos g2]
 simp only [E.den, dEq, iEq, sEq, cells_Call, mGet_eq] at g2
 have g2 : c.method ≠ mGet := by grind
 refine den_ite (fun g3 => ?_) (fun g3 => ?_)
 ·simp only [E.den, dEq, iEq, sEq, cells_Call, mHear_eq] at g3
  have g3 : c.method = mHear := by grind
  ((first | refine den_call ?_ (c_impl_FormatNumber (n := c.val.toNat) hlt) (trivial) ?_ | refine den_callR ?_ (c_impl_FormatNumber (n := c.val.toNat) hlt) (trivial) ?_ | refine den_call ?_ (.ofR (c_impl_FormatNumber (n := c.val.toNat) hlt)) (trivial) ?_); (focus (simp only [VC.den, E.den, dEq, gsH_nil, and_true, cells_Call, hv']; try exact rfl)); (simp only [cA]))
  refine den_cond (fun _ => ?_) (den_ret ?_)
  ·simp only [E.den, dEq, iEq, sEq, cells_Call, tHear_eq]; refine dec_ok ?_; simp only [ByteArray.size_append, tHear_size]; unfold valT at h4; unfold maxLen; omega
  ·simp only [E.den, dEq, iEq, sEq, cells_Call, tHear_eq]
   rw [callT, if_pos h, if_neg g1, if_neg g2, if_pos g3]; rfl
 simp only [E.den, dEq, iEq, sEq, cells_Call, mHear_eq] at g3
 have g3 : c.method ≠ mHear := by grind
 refine den_ite (fun g4 => ?_) (fun g4 => ?_)
 ·simp only [E.den, dEq, iEq, sEq, cells_Call, mLoad_eq] at g4
  have g4 : c.method = mLoad := by grind
  refine den_cond (fun _ => ?_) (den_ret ?_)
  ·simp only [E.den, dEq, iEq, sEq, cells_Call, tLoad_eq]; refine dec_ok ?_; simp only [ByteArray.size_append, tLoad_size]; unfold maxLen; omega
  ·simp only [E.den, dEq, iEq, sEq, cells_Call, tLoad_eq]
   rw [callT, if_pos h, if_neg g1, if_neg g2, if_neg g3, if_pos g4]
 simp only [E.den, dEq, iEq, sEq, cells_Call, mLoad_eq] at g4
 have g4 : c.method ≠ mLoad := by grind
 refine den_ret ?_
 simp only [E.den, dEq, iEq, sEq, cells_Call]
 rw [callT, if_pos h, if_neg g1, if_neg g2, if_neg g3, if_neg g4]
theorem c_spec_FormatCall (c : Call) (ht : c.text.size ≤ 1048576) : Fun Tryz.prog 95 none [enc c] (.str (callT c)) [] := by
 refine Fun.ofV vc_spec_FormatCall_ok ty_spec_FormatCall_ok rfl ?_ (fun hfit => ?_)
 ·exact ⟨ty_Call c, trivial⟩
 have hn := m_ne
 have hn' := m_ne'
 unfold vc_spec_FormatCall
 ((first | refine den_call ?_ (c_spec_IsCall c) (trivial) ?_ | refine den_callR ?_ (c_spec_IsCall c) (trivial) ?_ | refine den_call ?_ (.ofR (c_spec_IsCall c)) (trivial) ?_); (focus (simp only [VC.den, E.den, dEq, gsH_nil, and_true]; try exact rfl)); (simp only [cA]))
 refine den_ite (fun h => den_ret ?_) (fun h => ?_)
 ·simp only [E.den, dEq, iEq, sEq] at h ⊢
  rw [callT, if_neg (by grind)]; rfl
 simp only [E.den, dEq, iEq, sEq] at h
 have h : callB c = true := by grind
 have h3 := callB_key h
 have h4 := valT_size h
 have hv := callB_val h
 have hv' : ((c.val.toNat : Nat) : Int) = c.val := by omega
 have hlt : c.val.toNat < 1000 := by omega
 refine den_ite (fun g2 => ?_) (fun g2 => ?_)
 ·simp only [E.den, dEq, iEq, sEq, cells_Call, mGet_eq] at g2
  have g2 : c.method = mGet := by grind
  have g1 : c.method ≠ mPut := by rw [g2]; exact hn.1
  refine den_cond (fun _ => ?_) (den_ret ?_)
  ·simp only [E.den, dEq, iEq, sEq, cells_Call, tGet_eq]; refine dec_ok ?_; simp only [ByteArray.size_append, tGet_size]; unfold maxLen; omega
  ·simp only [E.den, dEq, iEq, sEq, cells_Call, tGet_eq]
   rw [callT, if_pos h, if_neg g1, if_pos g2]
 simp only [E.den, dEq, iEq, sEq, cells_Call, mGet_eq] at g2
 have g2 : c.method ≠ mGet := by grind
 refine den_ite (fun g1 => ?_) (fun g1 => ?_)
 ·simp only [E.den, dEq, iEq, sEq, cells_Call, mPut_eq] at g1
  have g1 : c.method = mPut := by grind
  refine den_cond (fun _ => ?_) ?_
  ·simp only [E.den, dEq, iEq, sEq, cells_Call, tPut_eq, tSp_eq]; refine dec_ok ?_; simp only [ByteArray.size_append, tPut_size, tSp_size]; unfold maxLen; omega
  refine den_cond (fun _ => ?_) ?_
  ·simp only [E.den, dEq, iEq, sEq, cells_Call, tPut_eq, tSp_eq]; refine dec_ok ?_; simp only [ByteArray.size_append, tPut_size, tSp_size]; unfold maxLen; omega
  ((first | refine den_call ?_ (c_spec_FormatNumber (n := c.val.toNat) hlt) (trivial) ?_ | refine den_callR ?_ (c_spec_FormatNumber (n := c.val.toNat) hlt) (trivial) ?_ | refine den_call ?_ (.ofR (c_spec_FormatNumber (n := c.val.toNat) hlt)) (trivial) ?_); (focus (simp only [VC.den, E.den, dEq, gsH_nil, and_true, cells_Call, hv']; try exact rfl)); (simp only [cA]))
  refine den_cond (fun _ => ?_) (den_ret ?_)
  ·simp only [E.den, dEq, iEq, sEq, cells_Call, tPut_eq, tSp_eq]; refine dec_ok ?_; simp only [ByteArray.size_append, tPut_size, tSp_size]; unfold valT at h4; unfold maxLen; omega
  ·simp only [E.den, dEq, iEq, sEq, cells_Call, tPut_eq, tSp_eq]
   rw [callT, if_pos h, if_pos g1]; rfl
 simp only [E.den, dEq, iEq, sEq, cells_Call, mPut_eq] at g1
 have g1 : c.method ≠ mPut := by grind
 refine den_ite (fun g3 => ?_) (fun g3 => ?_)
 ·simp only [E.den, dEq, iEq, sEq, cells_Call, mHear_eq] at g3
  have g3 : c.method = mHear := by grind
  ((first | refine den_call ?_ (c_spec_FormatNumber (n := c.val.toNat) hlt) (trivial) ?_ | refine den_callR ?_ (c_spec_FormatNumber (n := c.val.toNat) hlt) (trivial) ?_ | refine den_call ?_ (.ofR (c_spec_FormatNumber (n := c.val.toNat) hlt)) (trivial) ?_); (focus (simp only [VC.den, E.den, dEq, gsH_nil, and_true, cells_Call, hv']; try exact rfl)); (simp only [cA]))
  refine den_cond (fun _ => ?_) (den_ret ?_)
  ·simp only [E.den, dEq, iEq, sEq, cells_Call, tHear_eq]; refine dec_ok ?_; simp only [ByteArray.size_append, tHear_size]; unfold valT at h4; unfold maxLen; omega
  ·simp only [E.den, dEq, iEq, sEq, cells_Call, tHear_eq]
   rw [callT, if_pos h, if_neg g1, if_neg g2, if_pos g3]; rfl
 simp only [E.den, dEq, iEq, sEq, cells_Call, mHear_eq] at g3
 have g3 : c.method ≠ mHear := by grind
 refine den_ite (fun g4 => ?_) (fun g4 => ?_)
 ·simp only [E.den, dEq, iEq, sEq, cells_Call, mLoad_eq] at g4
  have g4 : c.method = mLoad := by grind
  refine den_cond (fun _ => ?_) (den_ret ?_)
  ·simp only [E.den, dEq, iEq, sEq, cells_Call, tLoad_eq]; refine dec_ok ?_; simp only [ByteArray.size_append, tLoad_size]; unfold maxLen; omega
  ·simp only [E.den, dEq, iEq, sEq, cells_Call, tLoad_eq]
   rw [callT, if_pos h, if_neg g1, if_neg g2, if_neg g3, if_pos g4]
 simp only [E.den, dEq, iEq, sEq, cells_Call, mLoad_eq] at g4
 have g4 : c.method ≠ mLoad := by grind
 refine den_ret ?_
 simp only [E.den, dEq, iEq, sEq, cells_Call]
 rw [callT, if_pos h, if_neg g1, if_neg g2, if_neg g3, if_neg g4]
def words : List ByteArray := [⟨#[]⟩, ⟨#[115, 116, 97, 114, 116]⟩, ⟨#[115, 116, 111, 112]⟩, ⟨#[99, 97, 108, 108]⟩, ⟨#[104, 101, 97, 108]⟩, ⟨#[115, 119, 97, 112]⟩]
class HasWords : Prop where
 h : ∀ w : World, GInv w → GHas w 0 fun cs => cs = (words.map Value.string).toArray
theorem words_size (k : Nat) : (nth words k).size ≤ 5 := by
 by_cases h : k < 6
 ·obtain rfl | rfl | rfl | rfl | rfl | rfl : k = 0 ∨ k = 1 ∨ k = 2 ∨ k = 3 ∨ k = 4 ∨ k = 5 := by omega
  all_goals decide
 ·unfold nth
  rw [List.getD_eq_getElem?_getD, List.getElem?_eq_none (by simp [words]; omega)]
  decide
def eventT (e : Event) : ByteArray :=
 if eventB e then (if e.kind = 3 then nth words e.kind.toNat ++ tSp ++ e.name ++ tSp ++ callT e.call else if e.kind = 5 then nth words e.kind.toNat ++ tSp ++ e.name ++ tSp ++ joinB e.recipe tSp else nth words e.kind.toNat ++ tSp ++ e.name) else noText
theorem eventB_kind {e : Event} (h : eventB e = true) : 1 ≤ e.kind ∧ e.kind ≤ 5 ∧ e.name.size ≤ 8 := by
 unfold eventB at h
 simp only [Bool.and_eq_true, decide_eq_true_eq] at h
 exact ⟨h.1.1.1.1, h.1.1.1.2, nameB_le h.1.1.2⟩
theorem eventB_rec {e : Event} (h : eventB e = true) (h5 : e.kind = 5) : recOk e.recipe = true := by
 unfold eventB at h
 simp only [Bool.and_eq_true, Bool.or_eq_true, decide_eq_true_eq] at h
 rcases h.2 with h1 | h1
 ·exact h1.2
 ·simp [h5] at h1
def wordE : E := .put (.put (.put (.put (.put (.put (.nilS 9) (.ag1 (.ls ⟨#[]⟩))) (.ag1 (.ls ⟨#[115, 116, 97, 114, 116]⟩))) (.ag1 (.ls ⟨#[115, 116, 111, 112]⟩))) (.ag1 (.ls ⟨#[99, 97, 108, 108]⟩))) (.ag1 (.ls ⟨#[104, 101, 97, 108]⟩))) (.ag1 (.ls ⟨#[115, 119, 97, 112]⟩))
theorem wordE_eq : (E.put (.put (.put (.put (.put (.put (.nilS 9) (.ag1 (.ls ⟨#[]⟩))) (.ag1 (.ls ⟨#[115, 116, 97, 114, 116]⟩))) (.ag1 (.ls ⟨#[115, 116, 111, 112]⟩))) (.ag1 (.ls ⟨#[99, 97, 108, 108]⟩))) (.ag1 (.ls ⟨#[104, 101, 97, 108]⟩))) (.ag1 (.ls ⟨#[115, 119, 97, 112]⟩))) = wordE := rfl
theorem wordE_den (env : List D) : wordE.den env = encS words := rfl
theorem words_len : words.length = 6 := rfl
theorem c_impl_FormatEvent [HasPow] [HasWords] (e : Event) (hm : e.call.method.size ≤ 1048576) (ht : e.call.text.size ≤ 1048576) : Fun Tryz.prog 51 none [enc e] (.str (eventT e)) [] := by
 refine Fun.ofV vc_impl_FormatEvent_ok ty_impl_FormatEvent_ok rfl ?_ (fun hfit => ?_)
 ·exact ⟨ty_Event e, trivial⟩
 unfold vc_impl_FormatEvent
 ((first | refine den_call ?_ (c_impl_IsEvent e) (trivial) ?_ | refine den_callR ?_ (c_impl_IsEvent e) (trivial) ?_ | refine den_call ?_ (.ofR (c_impl_IsEvent e)) (trivial) ?_); (focus (simp only [VC.den, E.den, dEq, gsH_nil, and_true]; try exact rfl)); (simp only [cA]))
 refine den_ite (fun h => den_ret ?_) (fun h => ?_)
 ·simp only [E.den, dEq, iEq, sEq] at h ⊢
  rw [eventT, if_neg (by grind)]; rfl
 simp only [E.den, dEq, iEq, sEq] at h
 have h : eventB e = true := by grind
 obtain ⟨k1, k2, k3⟩ := eventB_kind h
 have k4 := words_size e.kind.toNat
 have k5 := callT_size hm ht
 refine den_glob (.agg (words.map .str)) (glob_strs (by decide) HasWords.h) ⟨trivial, trivial, trivial, trivial, trivial, trivial, trivial⟩ (fun _ => ?_) ?_
 ·simp only [E.den, List.getD_cons_zero, enc_toA, cells_Event, D.toI_int]; omega
 simp only [cA]
 refine den_cond (fun _ => ?_) ?_
 ·simp only [E.den, dEq, iEq, sEq, cells_Event, sel_strs, tSp_eq]; refine dec_ok ?_; simp only [ByteArray.size_append, tSp_size]; unfold maxLen; omega
 refine den_cond (fun _ => ?_) ?_
 ·simp only [E.den, dEq, iEq, sEq, cells_Event, sel_strs, tSp_eq]; refine dec_ok ?_; simp only [ByteArray.size_append, tSp_size]; unfold maxLen; omega
 refine den_ite (fun g1 => ?_) (fun g1 => ?_)
 ·simp only [E.den, dEq, iEq, sEq, cells_Event] at g1
  have g1 : e.kind = 3 := by grind
  ((first | refine den_call ?_ (c_impl_FormatCall e.call ht) (trivial) ?_ | refine den_callR ?_ (c_impl_FormatCall e.call ht) (trivial) ?_ | refine den_call ?_ (.ofR (c_impl_FormatCall e.call ht)) (trivial) ?_); (focus (simp only [VC.den, E.den, dEq, gsH_nil, and_true, cells_Event, cells_Call]; try exact rfl)); (simp only [cA]))
  refine den_cond (fun _ => ?_) ?_
  ·simp only [E.den, dEq, iEq, sEq, cells_Event, sel_strs, tSp_eq]; refine dec_ok ?_; simp only [ByteArray.size_append, tSp_size]; unfold maxLen; omega
  refine den_cond (fun _ => ?_) (den_ret ?_)
  ·simp only [E.den, dEq, iEq, sEq, cells_Event, sel_strs, tSp_eq]; refine dec_ok ?_; simp only [ByteArray.size_append, tSp_size]; unfold maxLen; omega
  ·simp only [E.den, dEq, iEq, sEq, cells_Event, sel_strs, tSp_eq]
   rw [eventT, if_pos h, if_pos g1]
   simp [ByteArray.append_assoc]
 simp only [E.den, dEq, iEq, sEq, cells_Event] at g1
 have g1 : e.kind ≠ 3 := by grind
 refine den_ite (fun g2 => ?_) (fun g2 => den_ret ?_)
 ·simp only [E.den, dEq, iEq, sEq, cells_Event] at g2
  have g2 : e.kind = 5 := by grind
  obtain ⟨hN, hR⟩ := rec_join (eventB_rec h g2)
  ((first | refine den_call ?_ (c_impl_JoinWith e.recipe tSp (by omega) (by omega)) (trivial) ?_ | refine den_callR ?_ (c_impl_JoinWith e.recipe tSp (by omega) (by omega)) (trivial) ?_ | refine den_call ?_ (.ofR (c_impl_JoinWith e.recipe tSp (by omega) (by omega))) (trivial) ?_); (focus (simp only [VC.den, E.den, dEq, gsH_nil, and_true, cells_Event]; try exact rfl)); (simp only [cA]))
  refine den_cond (fun _ => ?_) ?_
  ·simp only [E.den, dEq, iEq, sEq, cells_Event, sel_strs, tSp_eq]; refine dec_ok ?_; simp only [ByteArray.size_append, tSp_size]; unfold maxLen; omega
  refine den_cond (fun _ => ?_) (den_ret ?_)
  ·simp only [E.den, dEq, iEq, sEq, cells_Event, sel_strs, tSp_eq]; refine dec_ok ?_; simp only [ByteArray.size_append, tSp_size]; unfold maxLen; omega
  ·simp only [E.den, dEq, iEq, sEq, cells_Event, sel_strs, tSp_eq]
   rw [eventT, if_pos h, if_neg g1, if_pos g2]
   simp [ByteArray.append_assoc]
 simp only [E.den, dEq, iEq, sEq, cells_Event] at g2
 have g2 : e.kind ≠ 5 := by grind
 simp only [E.den, dEq, iEq, sEq, cells_Event, sel_strs, tSp_eq]
 rw [eventT, if_pos h, if_neg g1, if_neg g2]
theorem c_spec_FormatEvent (e : Event) (hm : e.call.method.size ≤ 1048576) (ht : e.call.text.size ≤ 1048576) : Fun Tryz.prog 46 none [enc e] (.str (eventT e)) [] := by
 refine Fun.ofV vc_spec_FormatEvent_ok ty_spec_FormatEvent_ok rfl ?_ (fun hfit => ?_)
 ·exact ⟨ty_Event e, trivial⟩
 unfold vc_spec_FormatEvent
 simp only [wordE_eq]
 ((first | refine den_call ?_ (c_spec_IsEvent e) (trivial) ?_ | refine den_callR ?_ (c_spec_IsEvent e) (trivial) ?_ | refine den_call ?_ (.ofR (c_spec_IsEvent e)) (trivial) ?_); (focus (simp only [VC.den, E.den, dEq, gsH_nil, and_true]; try exact rfl)); (simp only [cA]))
 refine den_ite (fun h => den_ret ?_) (fun h => ?_)
 ·simp only [E.den, dEq, iEq, sEq] at h ⊢
  rw [eventT, if_neg (by grind)]; rfl
 simp only [E.den, dEq, iEq, sEq] at h
 have h : eventB e = true := by grind
 obtain ⟨k1, k2, k3⟩ := eventB_kind h
 have k4 := words_size e.kind.toNat
 have k5 := callT_size hm ht
 refine den_cond (fun _ => ?_) ?_
 ·simp only [E.den, dEq, iEq, sEq, cells_Event, wordE_den, words_len]; simp; omega
 refine den_cond (fun _ => ?_) ?_
 ·simp only [E.den, dEq, iEq, sEq, cells_Event, wordE_den, row_str, cells_str, tSp_eq]; refine dec_ok ?_; simp only [ByteArray.size_append, tSp_size]; unfold maxLen; omega
 refine den_cond (fun _ => ?_) ?_
 ·simp only [E.den, dEq, iEq, sEq, cells_Event, wordE_den, row_str, cells_str, tSp_eq]; refine dec_ok ?_; simp only [ByteArray.size_append, tSp_size]; unfold maxLen; omega
 refine den_ite (fun g1 => ?_) (fun g1 => ?_)
 ·simp only [E.den, dEq, iEq, sEq, cells_Event] at g1
  have g1 : e.kind = 3 := by grind
  refine den_cond (fun _ => ?_) ?_
  ·simp only [E.den, dEq, iEq, sEq, cells_Event, wordE_den, row_str, cells_str, tSp_eq]; refine dec_ok ?_; simp only [ByteArray.size_append, tSp_size]; unfold maxLen; omega
  ((first | refine den_call ?_ (c_spec_FormatCall e.call ht) (trivial) ?_ | refine den_callR ?_ (c_spec_FormatCall e.call ht) (trivial) ?_ | refine den_call ?_ (.ofR (c_spec_FormatCall e.call ht)) (trivial) ?_); (focus (simp only [VC.den, E.den, dEq, gsH_nil, and_true, cells_Event, cells_Call]; try exact rfl)); (simp only [cA]))
  refine den_cond (fun _ => ?_) (den_ret ?_)
  ·simp only [E.den, dEq, iEq, sEq, cells_Event, wordE_den, row_str, cells_str, tSp_eq]; refine dec_ok ?_; simp only [ByteArray.size_append, tSp_size]; unfold maxLen; omega
  ·simp only [E.den, dEq, iEq, sEq, cells_Event, wordE_den, row_str, cells_str, tSp_eq]
   rw [eventT, if_pos h, if_pos g1]
 simp only [E.den, dEq, iEq, sEq, cells_Event] at g1
 have g1 : e.kind ≠ 3 := by grind
 refine den_ite (fun g2 => ?_) (fun g2 => den_ret ?_)
 ·simp only [E.den, dEq, iEq, sEq, cells_Event] at g2
  have g2 : e.kind = 5 := by grind
  obtain ⟨hN, hR⟩ := rec_join (eventB_rec h g2)
  refine den_cond (fun _ => ?_) ?_
  ·simp only [E.den, dEq, iEq, sEq, cells_Event, wordE_den, row_str, cells_str, tSp_eq]; refine dec_ok ?_; simp only [ByteArray.size_append, tSp_size]; unfold maxLen; omega
  ((first | refine den_call ?_ (c_spec_JoinWith e.recipe tSp (by omega) (by omega)) (trivial) ?_ | refine den_callR ?_ (c_spec_JoinWith e.recipe tSp (by omega) (by omega)) (trivial) ?_ | refine den_call ?_ (.ofR (c_spec_JoinWith e.recipe tSp (by omega) (by omega))) (trivial) ?_); (focus (simp only [VC.den, E.den, dEq, gsH_nil, and_true, cells_Event]; try exact rfl)); (simp only [cA]))
  refine den_cond (fun _ => ?_) (den_ret ?_)
  ·simp only [E.den, dEq, iEq, sEq, cells_Event, wordE_den, row_str, cells_str, tSp_eq]; refine dec_ok ?_; simp only [ByteArray.size_append, tSp_size]; unfold maxLen; omega
  ·simp only [E.den, dEq, iEq, sEq, cells_Event, wordE_den, row_str, cells_str, tSp_eq]
   rw [eventT, if_pos h, if_neg g1, if_pos g2]
 simp only [E.den, dEq, iEq, sEq, cells_Event] at g2
 have g2 : e.kind ≠ 5 := by grind
 simp only [E.den, dEq, iEq, sEq, cells_Event, wordE_den, row_str, cells_str, tSp_eq]
 rw [eventT, if_pos h, if_neg g1, if_neg g2]
end Go.Proofs.YtjmakbnblpjkhaaGreatDoor
/- Contracts: texts cut and divided into pieces. -/
namespace Go.Proofs.YtjmakbnblpjkhaaGreatDoor
open Go.RowKit Go
variable [GC]
theorem cut_len (s sep : List UInt8) : (Lib.cut s sep).1.length ≤ s.length ∧ (Lib.cut s sep).2.1.length ≤ s.length := by
 unfold Lib.cut
 split
 ·simp; omega
 ·simp
def cutD3 (s : ByteArray) (sep : List UInt8) : D := .tup [.str (bs (Lib.cut s.data.toList sep).1), .str (bs (Lib.cut s.data.toList sep).2.1), .bool (Lib.cut s.data.toList sep).2.2]
theorem c_Cut [HasMax] (s : ByteArray) (sep : List UInt8) (hs : s.size < 4294967281) : Fun Tryz.prog 47 none [.str s, .str (bs sep)] (cutD3 s sep) [] := by
 refine Fun.of_callsG (by kernel_rfl) fun w M vs hG hr => ?_
 obtain ⟨v, q, rfl, ⟨rfl, _⟩, v2, q2, rfl, ⟨rfl, _⟩, rfl⟩ := hr
 obtain ⟨cs, ⟨m, hcs⟩, hc⟩ := (HasMax.h w hG.2.1).cell
 have hm := hc 0
 rw [hcs] at hm
 have h := cut_len s.data.toList sep
 rw [size_data] at h
 refine (Tryz.strings_Cut s (bs sep) m w hs hm).mono ?_
 rintro e w' ⟨rfl, k, rfl⟩
 rw [bs_toList]
 refine ⟨_, rfl, ⟨_, rfl, _, _, rfl, ⟨rfl, ?_⟩, _, _, rfl, ⟨rfl, ?_⟩, _, _, rfl, rfl, rfl⟩, ⟨rfl, rfl, rfl, Nat.le_refl _, fun _ _ => rfl⟩⟩
 ·rw [bs_size]; unfold maxLen; omega
 ·rw [bs_size]; unfold maxLen; omega
def pieces (s sep : ByteArray) : List ByteArray := (Lib.split s.data.toList sep.data.toList).map bs
theorem map_bs (l : List ByteArray) : (l.map (·.data.toList)).map bs = l := by
 rw [List.map_map]
 conv => rhs; rw [← List.map_id l]
 exact List.map_congr_left fun x _ => bs_data x
theorem mem_lens {x : List UInt8} : ∀ {l : List (List UInt8)}, x ∈ l → x.length ≤ Lib.lens l
 | y :: r, h => by
  have e : Lib.lens (y :: r) = y.length + Lib.lens r := by simp [Lib.lens]
  rw [e]
  rcases List.mem_cons.1 h with rfl | h
  ·omega
  ·have := mem_lens h
   omega
theorem split_size {s sep : List UInt8} (h : sep ≠ []) : (Lib.split s sep).length ≤ s.length + 1 ∧ ∀ x ∈ Lib.split s sep, x.length ≤ s.length := by
 obtain ⟨h1, h2⟩ := join_split h s.length s (Nat.le_refl _)
 have hpos : 0 < sep.length := List.length_pos_iff.2 h
 cases hl : Lib.split s sep with
 | nil => exact absurd hl h2
 | cons y r =>
  rw [hl, Lib.join_cons] at h1
  have e := congrArg List.length h1
  rw [List.length_append, Lib.joinTail_length] at e
  have : r.length ≤ sep.length * r.length := Nat.le_mul_of_pos_left _ hpos
  refine ⟨by simp; omega, fun x hx => ?_⟩
  rcases List.mem_cons.1 hx with rfl | hx
  ·omega
  ·have := mem_lens hx
   omega
theorem pieces_size {s sep : ByteArray} (h : 1 ≤ sep.size) : (pieces s sep).length ≤ s.size + 1 ∧ ∀ x ∈ pieces s sep, x.size ≤ s.size := by
 have hne : sep.data.toList ≠ [] := fun e => by
  have : sep.size = 0 := by rw [← size_data, e]; rfl
  omega
 obtain ⟨h1, h2⟩ := split_size (s := s.data.toList) hne
 rw [size_data] at h1
 refine ⟨by unfold pieces; rw [List.length_map]; exact h1, fun x hx => ?_⟩
 obtain ⟨y, hy, rfl⟩ := List.mem_map.1 hx
 have := h2 y hy
 rw [size_data] at this
 rw [bs_size]; exact this
theorem piece_size {s sep : ByteArray} (h : 1 ≤ sep.size) {k : Nat} (hk : k < (pieces s sep).length) : (nth (pieces s sep) k).size ≤ s.size := (pieces_size h).2 _ (nth_mem hk)
theorem pieces_eq (s sep : ByteArray) : Lib.splitB sep 0 (Lib.countB s sep) s = pieces s sep := by
 unfold pieces
 rw [← map_bs (Lib.splitB sep 0 (Lib.countB s sep) s), Lib.splitB_data]
 rfl
theorem cR_Split [HasMax] (s sep : ByteArray) (hs : s.size < 4294967281) (h1 : 1 ≤ sep.size) : FunR Tryz.prog 49 none [.str s, .str sep] (encS (pieces s sep)) [] [(0, 1)] := by
 refine ⟨by kernel_rfl, fun w M g vs hG hr _ => ?_⟩
 obtain ⟨v, q, rfl, ⟨rfl, _⟩, v2, q2, rfl, ⟨rfl, _⟩, rfl⟩ := hr
 obtain ⟨cs, ⟨m, hcs⟩, hc⟩ := (HasMax.h w hG.2.1).cell
 have hm := hc 0
 rw [hcs] at hm
 obtain ⟨z1, z2⟩ := pieces_size (s := s) h1
 have hlen : Lib.countB s sep + 1 = (pieces s sep).length := by rw [← pieces_eq, Lib.splitB_all sep h1 0 _ s rfl]
 refine (Tryz.strings_Split s sep m w hs hm h1).mono ?_
 rintro e w' ⟨rfl, rfl⟩
 rw [pieces_eq, hlen]
 have hnsp : ∀ p, ¬ RtM (.slice (some ⟨w.heap.size, 0, none⟩) (pieces s sep).length (pieces s sep).length) [(0, 1)] p := by
  rintro p ⟨x, hx, hsp⟩
  simp at hx
  subst hx
  obtain ⟨b, o, s', len, cap, e, q1, q2, q3⟩ := hsp
  have e : Value.slice (some ⟨w.heap.size, 0, none⟩) (pieces s sep).length (pieces s sep).length = .slice (some ⟨b, o, s'⟩) len cap := e
  cases e
  omega
 have hnew : (w.alloc (.cells ((pieces s sep).map Value.string).toArray 9)).heap[w.heap.size]? = some (.cells ((pieces s sep).map Value.string).toArray 9 (0, 0)) := heap_new (by simp)
 refine ⟨_, rfl, R_strs (pieces s sep) hnew rfl rfl (fun o h => ?_) (fun x hx => ?_) ?_, Fr.of_below ((Below.refl _ _).alloc (Nat.le_refl _) _) (Nat.le_refl _), ⟨fun x hx => ?_, fun i j x y hi hj hij => ?_⟩, fun h => by cases h⟩
 ·rcases h with h | h
  ·have := hG.1 _ h
   simp at this
  ·exact hnsp _ h
 ·have := z2 x hx
  unfold maxLen; omega
 ·unfold maxLen; omega
 ·simp at hx
  subst hx
  intro b o s' len cap e hc
  have e : Value.slice (some ⟨w.heap.size, 0, none⟩) (pieces s sep).length (pieces s sep).length = .slice (some ⟨b, o, s'⟩) len cap := e
  cases e
  exact ⟨rfl, Nat.le_refl _, _, _, hnew, by simp⟩
 ·have h1 := (List.getElem?_eq_some_iff.1 hi).1
  have h2 := (List.getElem?_eq_some_iff.1 hj).1
  simp at h1 h2
  omega
end Go.Proofs.YtjmakbnblpjkhaaGreatDoor
