/- Contracts: entries as texts. -/
import Derived.Test.YtmhfncdhplmomaaGreatDoorBJoin
namespace Go.Proofs.YtmhfncdhplmomaaGreatDoor
open Go.RowKit Go
set_option linter.unusedVariables false
set_option linter.unusedSimpArgs false
set_option maxRecDepth 100000
set_option linter.unusedSectionVars false
variable [GC]
theorem dec_ok {p : Prop} [Decidable p] (h : p) : D.bool (decide p) = .bool true := by simp [h]
def tSp : ByteArray := ⟨#[32]⟩
def tCol : ByteArray := ⟨#[58, 32]⟩
def tSemi : ByteArray := ⟨#[59, 32]⟩
def tCom : ByteArray := ⟨#[44, 32]⟩
def tOf : ByteArray := ⟨#[32, 111, 102, 32]⟩
theorem tSp_eq : (⟨#[32]⟩ : ByteArray) = tSp := rfl
theorem tCol_eq : (⟨#[58, 32]⟩ : ByteArray) = tCol := rfl
theorem tSemi_eq : (⟨#[59, 32]⟩ : ByteArray) = tSemi := rfl
theorem tCom_eq : (⟨#[44, 32]⟩ : ByteArray) = tCom := rfl
theorem tOf_eq : (⟨#[32, 111, 102, 32]⟩ : ByteArray) = tOf := rfl
theorem tSp_size : tSp.size = 1 := rfl
theorem tCol_size : tCol.size = 2 := rfl
theorem tSemi_size : tSemi.size = 2 := rfl
theorem tCom_size : tCom.size = 2 := rfl
theorem tOf_size : tOf.size = 4 := rfl
theorem noText_eq : (⟨#[]⟩ : ByteArray) = noText := rfl
theorem verS_size (v : Ver) : (verS v).size ≤ 7 := by
  unfold verS
  split
  · rename_i h
    obtain ⟨a, b, ha, hb, rfl⟩ := Ver.nats h
    rw [bs_size]; exact verL_le ha hb
  · simp
theorem nameB_le {s : ByteArray} (h : nameB s = true) : s.size ≤ 8 := by
  unfold nameB at h; simp at h; omega
def needT (n : Need) : ByteArray := if n.frm = noText then faceS n.face ++ tSp ++ verS n.least else faceS n.face ++ tOf ++ n.frm ++ tSp ++ verS n.least
def entT (e : Entry) : ByteArray :=
  if entryB e then (if e.needs = [] then e.name ++ tCol ++ joinB e.recipe tSp ++ tSemi ++ verS e.ver else e.name ++ tCol ++ joinB e.recipe tSp ++ tSemi ++ verS e.ver ++ tSemi ++ joinB (e.needs.map needT) tCom) else noText
theorem needT_size {n : Need} (h : n.frm.size ≤ 8) : (needT n).size ≤ 50 := by
  have h1 := faceS_size n.face
  have h2 := verS_size n.least
  unfold needT
  split
  · simp only [ByteArray.size_append, tSp_size]; omega
  · simp only [ByteArray.size_append, tSp_size, tOf_size]; omega
theorem map_take_succ {α β : Type} [Inhabited α] (f : α → β) {l : List α} {k : Nat} (h : k < l.length) : (l.take (k + 1)).map f = (l.take k).map f ++ [f (nth l k)] := by
  rw [List.take_succ_eq_append_getElem h, List.map_append]
  simp [nth, h]
theorem entryB_need {e : Entry} (h : entryB e = true) {k : Nat} (hk : k < e.needs.length) : (nth e.needs k).frm.size ≤ 8 := by
  unfold entryB at h
  simp only [Bool.and_eq_true] at h
  have := allTo_iff.1 h.2 k hk
  unfold needAt needB at this
  simp only [Bool.and_eq_true, Bool.or_eq_true, decide_eq_true_eq] at this
  rcases this.1.1.2 with h1 | h1
  · rw [h1]; decide
  · exact nameB_le h1
theorem entryB_name {e : Entry} (h : entryB e = true) : e.name.size ≤ 8 := by
  unfold entryB at h
  simp only [Bool.and_eq_true] at h
  exact nameB_le (by grind)
theorem entryB_len {e : Entry} (h : entryB e = true) : e.needs.length ≤ 3 := by
  unfold entryB at h
  simp only [Bool.and_eq_true, decide_eq_true_eq] at h
  exact h.1.2
theorem needs_join {e : Entry} (h : entryB e = true) : (joinB (e.needs.map needT) tCom).size ≤ 156 := by
  have h1 := entryB_len h
  refine Nat.le_trans (joinB_bound (n := 50) fun k hk => ?_) ?_
  · have hk : k < e.needs.length := by simpa using hk
    have : nth (e.needs.map needT) k = needT (nth e.needs k) := by simp [nth, hk]
    rw [this]
    exact needT_size (entryB_need h hk)
  · rw [List.length_map, tCom_size]; omega
/-! What a recipe's text may be -/
theorem kindOk_le {s : ByteArray} (h : kindOk s = true) : s.size ≤ 8 := by
  unfold kindOk kindAt at h
  repeat' split at h
  all_goals first
    | (rename_i e; rw [e]; decide)
    | simp at h
theorem layOk_le {s : ByteArray} (h : layOk s = true) : s.size ≤ 8 := by
  unfold layOk layAt at h
  repeat' split at h
  all_goals first
    | (rename_i e; rw [e]; decide)
    | simp at h
theorem firstTo_nil {p : Nat → Bool} : ∀ {n : Nat}, firstTo p n = none → ∀ i, i < n → p i = false
  | 0, _, i, h => by omega
  | n + 1, h, i, hi => by
    simp only [firstTo] at h
    split at h
    · cases h
    · rename_i hn
      split at h
      · cases h
      · rename_i hp
        by_cases e : i = n
        · subst e; simpa using hp
        · exact firstTo_nil hn i (by omega)
theorem wrapP_ok {p : Part} {s : ByteArray} (h : (wrapP p s).2.code = 0) : layOk s = true ∧ p.layers.length < 3 ∧ (wrapP p s).1.layers.length = p.layers.length + 1 := by
  unfold wrapP at h ⊢
  split at h
  · simp [rep] at h
  rename_i h1
  split at h
  · simp [rep] at h
  rename_i h2
  split at h
  · simp [rep] at h
  rename_i h3
  rw [if_neg h1, if_neg h2, if_neg h3]
  exact ⟨by grind, by omega, by simp⟩
theorem recOk_bound {l : List ByteArray} (h : recOk l = true) : l.length ≤ 4 ∧ ∀ k, k < l.length → (nth l k).size ≤ 8 := by
  unfold recOk makeP at h
  split at h
  · simp [rep] at h
  rename_i h0
  have hk0 : kindOk (nth l 0) = true := by grind
  split at h
  · rename_i k hk
    have h1 : ∀ {n : Nat} {p : Nat → Bool}, firstTo p n = some k → p k = true := by
      intro n
      induction n with
      | zero => intro p h; simp [firstTo] at h
      | succ n ih =>
        intro p h
        simp only [firstTo] at h
        split at h
        · rename_i j hj
          cases h; exact ih hj
        · split at h
          · cases h; assumption
          · cases h
    have := h1 hk
    grind
  rename_i hn
  have hw : ∀ k, k < l.length - 1 → (wrapR l k).code = 0 := fun k hk => by simpa using firstTo_nil hn k hk
  have hs : ∀ k, k ≤ l.length - 1 → (wrapTo l k).layers.length = k := by
    intro k
    induction k with
    | zero => intro _; simp [wrapTo, newPart]
    | succ k ih =>
      intro hk
      have := wrapP_ok (hw k (by omega))
      simp only [wrapTo]
      rw [this.2.2, ih (by omega)]
  refine ⟨?_, fun k hk => ?_⟩
  · have h3 := (wrapTo_small l (l.length - 1)).2
    rw [hs _ (Nat.le_refl _)] at h3
    omega
  · cases k with
    | zero => exact kindOk_le hk0
    | succ k => exact layOk_le (wrapP_ok (hw k (by omega))).1
theorem rec_join {l : List ByteArray} (h : recOk l = true) : l.length ≤ 1048576 ∧ (joinB l tSp).size ≤ 36 := by
  obtain ⟨h1, h2⟩ := recOk_bound h
  refine ⟨by omega, Nat.le_trans (joinB_bound (n := 8) h2) ?_⟩
  rw [tSp_size]
  omega
theorem entryB_rec {e : Entry} (h : entryB e = true) : recOk e.recipe = true := by
  unfold entryB at h
  simp only [Bool.and_eq_true] at h
  grind
theorem entT_size (e : Entry) : (entT e).size ≤ 230 := by
  unfold entT
  split
  · rename_i h
    obtain ⟨hN, hR⟩ := rec_join (entryB_rec h)
    have h1 := entryB_name h
    have h2 := verS_size e.ver
    have h3 := needs_join h
    split <;> simp only [ByteArray.size_append, tCol_size, tSemi_size] <;> omega
  · decide
theorem c_spec_l6Need (n : Need) (h : n.frm.size ≤ 8) : Fun Tryz.prog 95 none [enc n] (.str (needT n)) [] := by
  refine Fun.ofV vc_spec_l6Need_ok ty_spec_l6Need_ok rfl ?_ (fun hfit => ?_)
  · exact ⟨ty_Need n, trivial⟩
  unfold vc_spec_l6Need
  have h1 := faceS_size n.face
  have h2 := verS_size n.least
  ((first | refine den_call ?_ (c_spec_FormatFace n.face) (trivial) ?_ | refine den_callR ?_ (c_spec_FormatFace n.face) (trivial) ?_ | refine den_call ?_ (.ofR (c_spec_FormatFace n.face)) (trivial) ?_); (focus (simp only [VC.den, E.den, List.map_cons, List.map_nil, Option.map_none, Option.map_some, List.getD_cons_zero, List.getD_cons_succ, List.cons_append, List.nil_append, List.append_nil, D.toI_int, D.toB_bool, D.toS_str, D.toA_agg, D.toT_tup, D.toR_sl, enc_toA, encS_toR, encS_len, List.drop_succ_cons, List.drop_zero, List.take_succ_cons, List.take_zero, gsH_nil, and_true, cells_Need]; try exact rfl)); (simp only [List.cons_append, List.nil_append]))
  refine den_ite (fun h3 => ?_) (fun h3 => ?_)
  · simp only [E.den, List.map_cons, List.map_nil, Option.map_none, Option.map_some, List.getD_cons_zero, List.getD_cons_succ, List.cons_append, List.nil_append, List.append_nil, D.toI_int, D.toB_bool, D.toS_str, D.toA_agg, D.toT_tup, D.toR_sl, enc_toA, encS_toR, encS_len, List.drop_succ_cons, List.drop_zero, List.take_succ_cons, List.take_zero, len_str, at_byte, cmpI_lss, cmpI_leq, cmpI_gtr, cmpI_geq, cmpI_eql, cmpI_neq, cmpS_eql, cmpS_neq, cmpS_lss, cmpS_geq, Int.toNat_natCast, Int.toNat_zero, cells_Need, noText_eq] at h3
    refine den_cond (fun _ => ?_) ?_
    · simp only [E.den, List.map_cons, List.map_nil, Option.map_none, Option.map_some, List.getD_cons_zero, List.getD_cons_succ, List.cons_append, List.nil_append, List.append_nil, D.toI_int, D.toB_bool, D.toS_str, D.toA_agg, D.toT_tup, D.toR_sl, enc_toA, encS_toR, encS_len, List.drop_succ_cons, List.drop_zero, List.take_succ_cons, List.take_zero, len_str, at_byte, cmpI_lss, cmpI_leq, cmpI_gtr, cmpI_geq, cmpI_eql, cmpI_neq, cmpS_eql, cmpS_neq, cmpS_lss, cmpS_geq, Int.toNat_natCast, Int.toNat_zero, cells_Need, tOf_eq, tSp_eq]; refine dec_ok ?_; simp only [ByteArray.size_append, tSp_size, tOf_size]; unfold maxLen; omega
    refine den_cond (fun _ => ?_) ?_
    · simp only [E.den, List.map_cons, List.map_nil, Option.map_none, Option.map_some, List.getD_cons_zero, List.getD_cons_succ, List.cons_append, List.nil_append, List.append_nil, D.toI_int, D.toB_bool, D.toS_str, D.toA_agg, D.toT_tup, D.toR_sl, enc_toA, encS_toR, encS_len, List.drop_succ_cons, List.drop_zero, List.take_succ_cons, List.take_zero, len_str, at_byte, cmpI_lss, cmpI_leq, cmpI_gtr, cmpI_geq, cmpI_eql, cmpI_neq, cmpS_eql, cmpS_neq, cmpS_lss, cmpS_geq, Int.toNat_natCast, Int.toNat_zero, cells_Need, tOf_eq, tSp_eq]; refine dec_ok ?_; simp only [ByteArray.size_append, tSp_size, tOf_size]; unfold maxLen; omega
    refine den_cond (fun _ => ?_) ?_
    · simp only [E.den, List.map_cons, List.map_nil, Option.map_none, Option.map_some, List.getD_cons_zero, List.getD_cons_succ, List.cons_append, List.nil_append, List.append_nil, D.toI_int, D.toB_bool, D.toS_str, D.toA_agg, D.toT_tup, D.toR_sl, enc_toA, encS_toR, encS_len, List.drop_succ_cons, List.drop_zero, List.take_succ_cons, List.take_zero, len_str, at_byte, cmpI_lss, cmpI_leq, cmpI_gtr, cmpI_geq, cmpI_eql, cmpI_neq, cmpS_eql, cmpS_neq, cmpS_lss, cmpS_geq, Int.toNat_natCast, Int.toNat_zero, cells_Need, tOf_eq, tSp_eq]; refine dec_ok ?_; simp only [ByteArray.size_append, tSp_size, tOf_size]; unfold maxLen; omega
    ((first | refine den_call ?_ (c_spec_FormatVersion n.least) (trivial) ?_ | refine den_callR ?_ (c_spec_FormatVersion n.least) (trivial) ?_ | refine den_call ?_ (.ofR (c_spec_FormatVersion n.least)) (trivial) ?_); (focus (simp only [VC.den, E.den, List.map_cons, List.map_nil, Option.map_none, Option.map_some, List.getD_cons_zero, List.getD_cons_succ, List.cons_append, List.nil_append, List.append_nil, D.toI_int, D.toB_bool, D.toS_str, D.toA_agg, D.toT_tup, D.toR_sl, enc_toA, encS_toR, encS_len, List.drop_succ_cons, List.drop_zero, List.take_succ_cons, List.take_zero, gsH_nil, and_true, cells_Need]; try exact rfl)); (simp only [List.cons_append, List.nil_append]))
    refine den_cond (fun _ => ?_) (den_ret ?_)
    · simp only [E.den, List.map_cons, List.map_nil, Option.map_none, Option.map_some, List.getD_cons_zero, List.getD_cons_succ, List.cons_append, List.nil_append, List.append_nil, D.toI_int, D.toB_bool, D.toS_str, D.toA_agg, D.toT_tup, D.toR_sl, enc_toA, encS_toR, encS_len, List.drop_succ_cons, List.drop_zero, List.take_succ_cons, List.take_zero, len_str, at_byte, cmpI_lss, cmpI_leq, cmpI_gtr, cmpI_geq, cmpI_eql, cmpI_neq, cmpS_eql, cmpS_neq, cmpS_lss, cmpS_geq, Int.toNat_natCast, Int.toNat_zero, cells_Need, tOf_eq, tSp_eq]; refine dec_ok ?_; simp only [ByteArray.size_append, tSp_size, tOf_size]; unfold maxLen; omega
    · simp only [E.den, List.map_cons, List.map_nil, Option.map_none, Option.map_some, List.getD_cons_zero, List.getD_cons_succ, List.cons_append, List.nil_append, List.append_nil, D.toI_int, D.toB_bool, D.toS_str, D.toA_agg, D.toT_tup, D.toR_sl, enc_toA, encS_toR, encS_len, List.drop_succ_cons, List.drop_zero, List.take_succ_cons, List.take_zero, len_str, at_byte, cmpI_lss, cmpI_leq, cmpI_gtr, cmpI_geq, cmpI_eql, cmpI_neq, cmpS_eql, cmpS_neq, cmpS_lss, cmpS_geq, Int.toNat_natCast, Int.toNat_zero, cells_Need, tOf_eq, tSp_eq]
      rw [needT, if_neg (by grind)]
  · simp only [E.den, List.map_cons, List.map_nil, Option.map_none, Option.map_some, List.getD_cons_zero, List.getD_cons_succ, List.cons_append, List.nil_append, List.append_nil, D.toI_int, D.toB_bool, D.toS_str, D.toA_agg, D.toT_tup, D.toR_sl, enc_toA, encS_toR, encS_len, List.drop_succ_cons, List.drop_zero, List.take_succ_cons, List.take_zero, len_str, at_byte, cmpI_lss, cmpI_leq, cmpI_gtr, cmpI_geq, cmpI_eql, cmpI_neq, cmpS_eql, cmpS_neq, cmpS_lss, cmpS_geq, Int.toNat_natCast, Int.toNat_zero, cells_Need, noText_eq] at h3
    refine den_cond (fun _ => ?_) ?_
    · simp only [E.den, List.map_cons, List.map_nil, Option.map_none, Option.map_some, List.getD_cons_zero, List.getD_cons_succ, List.cons_append, List.nil_append, List.append_nil, D.toI_int, D.toB_bool, D.toS_str, D.toA_agg, D.toT_tup, D.toR_sl, enc_toA, encS_toR, encS_len, List.drop_succ_cons, List.drop_zero, List.take_succ_cons, List.take_zero, len_str, at_byte, cmpI_lss, cmpI_leq, cmpI_gtr, cmpI_geq, cmpI_eql, cmpI_neq, cmpS_eql, cmpS_neq, cmpS_lss, cmpS_geq, Int.toNat_natCast, Int.toNat_zero, cells_Need, tOf_eq, tSp_eq]; refine dec_ok ?_; simp only [ByteArray.size_append, tSp_size, tOf_size]; unfold maxLen; omega
    ((first | refine den_call ?_ (c_spec_FormatVersion n.least) (trivial) ?_ | refine den_callR ?_ (c_spec_FormatVersion n.least) (trivial) ?_ | refine den_call ?_ (.ofR (c_spec_FormatVersion n.least)) (trivial) ?_); (focus (simp only [VC.den, E.den, List.map_cons, List.map_nil, Option.map_none, Option.map_some, List.getD_cons_zero, List.getD_cons_succ, List.cons_append, List.nil_append, List.append_nil, D.toI_int, D.toB_bool, D.toS_str, D.toA_agg, D.toT_tup, D.toR_sl, enc_toA, encS_toR, encS_len, List.drop_succ_cons, List.drop_zero, List.take_succ_cons, List.take_zero, gsH_nil, and_true, cells_Need]; try exact rfl)); (simp only [List.cons_append, List.nil_append]))
    refine den_cond (fun _ => ?_) (den_ret ?_)
    · simp only [E.den, List.map_cons, List.map_nil, Option.map_none, Option.map_some, List.getD_cons_zero, List.getD_cons_succ, List.cons_append, List.nil_append, List.append_nil, D.toI_int, D.toB_bool, D.toS_str, D.toA_agg, D.toT_tup, D.toR_sl, enc_toA, encS_toR, encS_len, List.drop_succ_cons, List.drop_zero, List.take_succ_cons, List.take_zero, len_str, at_byte, cmpI_lss, cmpI_leq, cmpI_gtr, cmpI_geq, cmpI_eql, cmpI_neq, cmpS_eql, cmpS_neq, cmpS_lss, cmpS_geq, Int.toNat_natCast, Int.toNat_zero, cells_Need, tOf_eq, tSp_eq]; refine dec_ok ?_; simp only [ByteArray.size_append, tSp_size, tOf_size]; unfold maxLen; omega
    · simp only [E.den, List.map_cons, List.map_nil, Option.map_none, Option.map_some, List.getD_cons_zero, List.getD_cons_succ, List.cons_append, List.nil_append, List.append_nil, D.toI_int, D.toB_bool, D.toS_str, D.toA_agg, D.toT_tup, D.toR_sl, enc_toA, encS_toR, encS_len, List.drop_succ_cons, List.drop_zero, List.take_succ_cons, List.take_zero, len_str, at_byte, cmpI_lss, cmpI_leq, cmpI_gtr, cmpI_geq, cmpI_eql, cmpI_neq, cmpS_eql, cmpS_neq, cmpS_lss, cmpS_geq, Int.toNat_natCast, Int.toNat_zero, cells_Need, tOf_eq, tSp_eq]
      rw [needT, if_pos (by grind)]
theorem c_spec_FormatEntry (e : Entry) : Fun Tryz.prog 54 none [enc e] (.str (entT e)) [] := by
  refine Fun.ofV vc_spec_FormatEntry_ok ty_spec_FormatEntry_ok rfl ?_ (fun hfit => ?_)
  · exact ⟨ty_Entry e, trivial⟩
  unfold vc_spec_FormatEntry
  ((first | refine den_call ?_ (c_spec_IsEntry e) (trivial) ?_ | refine den_callR ?_ (c_spec_IsEntry e) (trivial) ?_ | refine den_call ?_ (.ofR (c_spec_IsEntry e)) (trivial) ?_); (focus (simp only [VC.den, E.den, List.map_cons, List.map_nil, Option.map_none, Option.map_some, List.getD_cons_zero, List.getD_cons_succ, List.cons_append, List.nil_append, List.append_nil, D.toI_int, D.toB_bool, D.toS_str, D.toA_agg, D.toT_tup, D.toR_sl, enc_toA, encS_toR, encS_len, List.drop_succ_cons, List.drop_zero, List.take_succ_cons, List.take_zero, gsH_nil, and_true]; try exact rfl)); (simp only [List.cons_append, List.nil_append]))
  refine den_ite (fun h => den_ret ?_) (fun h => ?_)
  · simp only [E.den, List.map_cons, List.map_nil, Option.map_none, Option.map_some, List.getD_cons_zero, List.getD_cons_succ, List.cons_append, List.nil_append, List.append_nil, D.toI_int, D.toB_bool, D.toS_str, D.toA_agg, D.toT_tup, D.toR_sl, enc_toA, encS_toR, encS_len, List.drop_succ_cons, List.drop_zero, List.take_succ_cons, List.take_zero, len_str, at_byte, cmpI_lss, cmpI_leq, cmpI_gtr, cmpI_geq, cmpI_eql, cmpI_neq, cmpS_eql, cmpS_neq, cmpS_lss, cmpS_geq, Int.toNat_natCast, Int.toNat_zero] at h ⊢
    rw [entT, if_neg (by grind)]; rfl
  simp only [E.den, List.map_cons, List.map_nil, Option.map_none, Option.map_some, List.getD_cons_zero, List.getD_cons_succ, List.cons_append, List.nil_append, List.append_nil, D.toI_int, D.toB_bool, D.toS_str, D.toA_agg, D.toT_tup, D.toR_sl, enc_toA, encS_toR, encS_len, List.drop_succ_cons, List.drop_zero, List.take_succ_cons, List.take_zero, len_str, at_byte, cmpI_lss, cmpI_leq, cmpI_gtr, cmpI_geq, cmpI_eql, cmpI_neq, cmpS_eql, cmpS_neq, cmpS_lss, cmpS_geq, Int.toNat_natCast, Int.toNat_zero] at h
  have h : entryB e = true := by grind
  obtain ⟨hN, hR⟩ := rec_join (entryB_rec h)
  have h1 := entryB_name h
  have h2 := verS_size e.ver
  have h3 := needs_join h
  have h4 := entryB_len h
  have hml : (e.needs.map needT).length ≤ 140737488355328 := by rw [List.length_map]; omega
  refine den_cond (fun _ => ?_) ?_
  · simp only [E.den, List.map_cons, List.map_nil, Option.map_none, Option.map_some, List.getD_cons_zero, List.getD_cons_succ, List.cons_append, List.nil_append, List.append_nil, D.toI_int, D.toB_bool, D.toS_str, D.toA_agg, D.toT_tup, D.toR_sl, enc_toA, encS_toR, encS_len, List.drop_succ_cons, List.drop_zero, List.take_succ_cons, List.take_zero, len_str, at_byte, cmpI_lss, cmpI_leq, cmpI_gtr, cmpI_geq, cmpI_eql, cmpI_neq, cmpS_eql, cmpS_neq, cmpS_lss, cmpS_geq, Int.toNat_natCast, Int.toNat_zero, cells_Entry, tCol_eq, tSemi_eq]; refine dec_ok ?_; simp only [ByteArray.size_append, tCol_size, tSemi_size]; unfold maxLen; omega
  ((first | refine den_call ?_ (c_spec_JoinWith e.recipe tSp (by omega) (by omega)) (trivial) ?_ | refine den_callR ?_ (c_spec_JoinWith e.recipe tSp (by omega) (by omega)) (trivial) ?_ | refine den_call ?_ (.ofR (c_spec_JoinWith e.recipe tSp (by omega) (by omega))) (trivial) ?_); (focus (simp only [VC.den, E.den, List.map_cons, List.map_nil, Option.map_none, Option.map_some, List.getD_cons_zero, List.getD_cons_succ, List.cons_append, List.nil_append, List.append_nil, D.toI_int, D.toB_bool, D.toS_str, D.toA_agg, D.toT_tup, D.toR_sl, enc_toA, encS_toR, encS_len, List.drop_succ_cons, List.drop_zero, List.take_succ_cons, List.take_zero, gsH_nil, and_true, cells_Entry]; try exact rfl)); (simp only [List.cons_append, List.nil_append]))
  refine den_cond (fun _ => ?_) ?_
  · simp only [E.den, List.map_cons, List.map_nil, Option.map_none, Option.map_some, List.getD_cons_zero, List.getD_cons_succ, List.cons_append, List.nil_append, List.append_nil, D.toI_int, D.toB_bool, D.toS_str, D.toA_agg, D.toT_tup, D.toR_sl, enc_toA, encS_toR, encS_len, List.drop_succ_cons, List.drop_zero, List.take_succ_cons, List.take_zero, len_str, at_byte, cmpI_lss, cmpI_leq, cmpI_gtr, cmpI_geq, cmpI_eql, cmpI_neq, cmpS_eql, cmpS_neq, cmpS_lss, cmpS_geq, Int.toNat_natCast, Int.toNat_zero, cells_Entry, tCol_eq, tSemi_eq]; refine dec_ok ?_; simp only [ByteArray.size_append, tCol_size, tSemi_size]; unfold maxLen; omega
  refine den_cond (fun _ => ?_) ?_
  · simp only [E.den, List.map_cons, List.map_nil, Option.map_none, Option.map_some, List.getD_cons_zero, List.getD_cons_succ, List.cons_append, List.nil_append, List.append_nil, D.toI_int, D.toB_bool, D.toS_str, D.toA_agg, D.toT_tup, D.toR_sl, enc_toA, encS_toR, encS_len, List.drop_succ_cons, List.drop_zero, List.take_succ_cons, List.take_zero, len_str, at_byte, cmpI_lss, cmpI_leq, cmpI_gtr, cmpI_geq, cmpI_eql, cmpI_neq, cmpS_eql, cmpS_neq, cmpS_lss, cmpS_geq, Int.toNat_natCast, Int.toNat_zero, cells_Entry, tCol_eq, tSemi_eq]; refine dec_ok ?_; simp only [ByteArray.size_append, tCol_size, tSemi_size]; unfold maxLen; omega
  ((first | refine den_call ?_ (c_spec_FormatVersion e.ver) (trivial) ?_ | refine den_callR ?_ (c_spec_FormatVersion e.ver) (trivial) ?_ | refine den_call ?_ (.ofR (c_spec_FormatVersion e.ver)) (trivial) ?_); (focus (simp only [VC.den, E.den, List.map_cons, List.map_nil, Option.map_none, Option.map_some, List.getD_cons_zero, List.getD_cons_succ, List.cons_append, List.nil_append, List.append_nil, D.toI_int, D.toB_bool, D.toS_str, D.toA_agg, D.toT_tup, D.toR_sl, enc_toA, encS_toR, encS_len, List.drop_succ_cons, List.drop_zero, List.take_succ_cons, List.take_zero, gsH_nil, and_true, cells_Entry]; try exact rfl)); (simp only [List.cons_append, List.nil_append]))
  refine den_cond (fun _ => ?_) ?_
  · simp only [E.den, List.map_cons, List.map_nil, Option.map_none, Option.map_some, List.getD_cons_zero, List.getD_cons_succ, List.cons_append, List.nil_append, List.append_nil, D.toI_int, D.toB_bool, D.toS_str, D.toA_agg, D.toT_tup, D.toR_sl, enc_toA, encS_toR, encS_len, List.drop_succ_cons, List.drop_zero, List.take_succ_cons, List.take_zero, len_str, at_byte, cmpI_lss, cmpI_leq, cmpI_gtr, cmpI_geq, cmpI_eql, cmpI_neq, cmpS_eql, cmpS_neq, cmpS_lss, cmpS_geq, Int.toNat_natCast, Int.toNat_zero, cells_Entry, tCol_eq, tSemi_eq]; refine dec_ok ?_; simp only [ByteArray.size_append, tCol_size, tSemi_size]; unfold maxLen; omega
  refine den_for e.needs.length (fun k => [encS ((e.needs.take k).map needT), .int .i64 k]) (fun _ => True) rfl trivial ?_
  intro k hk hI _
  simp only [List.cons_append, List.nil_append]
  refine den_ite (fun g2 => ?_) (fun g2 => ?_)
  · simp only [E.den, List.map_cons, List.map_nil, Option.map_none, Option.map_some, List.getD_cons_zero, List.getD_cons_succ, List.cons_append, List.nil_append, List.append_nil, D.toI_int, D.toB_bool, D.toS_str, D.toA_agg, D.toT_tup, D.toR_sl, enc_toA, encS_toR, encS_len, List.drop_succ_cons, List.drop_zero, List.take_succ_cons, List.take_zero, len_str, at_byte, cmpI_lss, cmpI_leq, cmpI_gtr, cmpI_geq, cmpI_eql, cmpI_neq, cmpS_eql, cmpS_neq, cmpS_lss, cmpS_geq, Int.toNat_natCast, Int.toNat_zero, cells_Entry] at g2
    have g2 : k < e.needs.length := by simp at g2; exact g2
    (refine den_cond (fun hg => ?_) ?_; (focus (simp only [gsH, List.mem_cons, List.not_mem_nil, or_false, forall_eq_or_imp, forall_eq, E.den, List.map_cons, List.map_nil, Option.map_none, Option.map_some, List.getD_cons_zero, List.getD_cons_succ, List.cons_append, List.nil_append, List.append_nil, D.toI_int, D.toB_bool, D.toS_str, D.toA_agg, D.toT_tup, D.toR_sl, enc_toA, encS_toR, encS_len, List.drop_succ_cons, List.drop_zero, List.take_succ_cons, List.take_zero, len_str, at_byte, cmpI_lss, cmpI_leq, cmpI_gtr, cmpI_geq, cmpI_eql, cmpI_neq, cmpS_eql, cmpS_neq, cmpS_lss, cmpS_geq, Int.toNat_natCast, Int.toNat_zero, cells_Entry] at hg ⊢; (try simp only [D.bool.injEq] at hg); (try simp only [D.bool.injEq]); grind)))
    ((first | refine den_call ?_ (c_spec_l6Need (nth e.needs k) (entryB_need h g2)) (trivial) ?_ | refine den_callR ?_ (c_spec_l6Need (nth e.needs k) (entryB_need h g2)) (trivial) ?_ | refine den_call ?_ (.ofR (c_spec_l6Need (nth e.needs k) (entryB_need h g2))) (trivial) ?_); (focus (simp only [VC.den, E.den, List.map_cons, List.map_nil, Option.map_none, Option.map_some, List.getD_cons_zero, List.getD_cons_succ, List.cons_append, List.nil_append, List.append_nil, D.toI_int, D.toB_bool, D.toS_str, D.toA_agg, D.toT_tup, D.toR_sl, enc_toA, encS_toR, encS_len, List.drop_succ_cons, List.drop_zero, List.take_succ_cons, List.take_zero, gsH_nil, and_true, cells_Entry, row_Need]; try exact rfl)); (simp only [List.cons_append, List.nil_append]))
    refine den_cond (fun _ => ?_) ?_
    · simp only [E.den, List.map_cons, List.map_nil, Option.map_none, Option.map_some, List.getD_cons_zero, List.getD_cons_succ, List.cons_append, List.nil_append, List.append_nil, D.toI_int, D.toB_bool, D.toS_str, D.toA_agg, D.toT_tup, D.toR_sl, enc_toA, encS_toR, encS_len, List.drop_succ_cons, List.drop_zero, List.take_succ_cons, List.take_zero, len_str, at_byte, cmpI_lss, cmpI_leq, cmpI_gtr, cmpI_geq, cmpI_eql, cmpI_neq, cmpS_eql, cmpS_neq, cmpS_lss, cmpS_geq, Int.toNat_natCast, Int.toNat_zero]; simp [maxLen]; omega
    refine den_next g2 ?_ trivial
    simp only [E.den, List.map_cons, List.map_nil, Option.map_none, Option.map_some, List.getD_cons_zero, List.getD_cons_succ, List.cons_append, List.nil_append, List.append_nil, D.toI_int, D.toB_bool, D.toS_str, D.toA_agg, D.toT_tup, D.toR_sl, enc_toA, encS_toR, encS_len, List.drop_succ_cons, List.drop_zero, List.take_succ_cons, List.take_zero, len_str, at_byte, cmpI_lss, cmpI_leq, cmpI_gtr, cmpI_geq, cmpI_eql, cmpI_neq, cmpS_eql, cmpS_neq, cmpS_lss, cmpS_geq, Int.toNat_natCast, Int.toNat_zero]
    rw [ar_add (by omega) (by omega), map_take_succ _ g2]
    simp [encS, cells_str]
  · simp only [E.den, List.map_cons, List.map_nil, Option.map_none, Option.map_some, List.getD_cons_zero, List.getD_cons_succ, List.cons_append, List.nil_append, List.append_nil, D.toI_int, D.toB_bool, D.toS_str, D.toA_agg, D.toT_tup, D.toR_sl, enc_toA, encS_toR, encS_len, List.drop_succ_cons, List.drop_zero, List.take_succ_cons, List.take_zero, len_str, at_byte, cmpI_lss, cmpI_leq, cmpI_gtr, cmpI_geq, cmpI_eql, cmpI_neq, cmpS_eql, cmpS_neq, cmpS_lss, cmpS_geq, Int.toNat_natCast, Int.toNat_zero, cells_Entry] at g2
    obtain rfl : k = e.needs.length := by simp at g2; omega
    refine den_ite (fun g3 => ?_) (fun g3 => ?_)
    · simp only [E.den, List.map_cons, List.map_nil, Option.map_none, Option.map_some, List.getD_cons_zero, List.getD_cons_succ, List.cons_append, List.nil_append, List.append_nil, D.toI_int, D.toB_bool, D.toS_str, D.toA_agg, D.toT_tup, D.toR_sl, enc_toA, encS_toR, encS_len, List.drop_succ_cons, List.drop_zero, List.take_succ_cons, List.take_zero, len_str, at_byte, cmpI_lss, cmpI_leq, cmpI_gtr, cmpI_geq, cmpI_eql, cmpI_neq, cmpS_eql, cmpS_neq, cmpS_lss, cmpS_geq, Int.toNat_natCast, Int.toNat_zero] at g3
      have g3 : e.needs ≠ [] := by intro e0; simp [e0] at g3
      refine den_cond (fun _ => ?_) ?_
      · simp only [E.den, List.map_cons, List.map_nil, Option.map_none, Option.map_some, List.getD_cons_zero, List.getD_cons_succ, List.cons_append, List.nil_append, List.append_nil, D.toI_int, D.toB_bool, D.toS_str, D.toA_agg, D.toT_tup, D.toR_sl, enc_toA, encS_toR, encS_len, List.drop_succ_cons, List.drop_zero, List.take_succ_cons, List.take_zero, len_str, at_byte, cmpI_lss, cmpI_leq, cmpI_gtr, cmpI_geq, cmpI_eql, cmpI_neq, cmpS_eql, cmpS_neq, cmpS_lss, cmpS_geq, Int.toNat_natCast, Int.toNat_zero, cells_Entry, tCol_eq, tSemi_eq]; refine dec_ok ?_; simp only [ByteArray.size_append, tCol_size, tSemi_size]; unfold maxLen; omega
      ((first | refine den_call ?_ (c_spec_JoinWith (e.needs.map needT) tCom hml (by omega)) (trivial) ?_ | refine den_callR ?_ (c_spec_JoinWith (e.needs.map needT) tCom hml (by omega)) (trivial) ?_ | refine den_call ?_ (.ofR (c_spec_JoinWith (e.needs.map needT) tCom hml (by omega))) (trivial) ?_); (focus (simp only [VC.den, E.den, List.map_cons, List.map_nil, Option.map_none, Option.map_some, List.getD_cons_zero, List.getD_cons_succ, List.cons_append, List.nil_append, List.append_nil, D.toI_int, D.toB_bool, D.toS_str, D.toA_agg, D.toT_tup, D.toR_sl, enc_toA, encS_toR, encS_len, List.drop_succ_cons, List.drop_zero, List.take_succ_cons, List.take_zero, gsH_nil, and_true, cells_Entry, List.take_length]; try exact rfl)); (simp only [List.cons_append, List.nil_append]))
      refine den_cond (fun _ => ?_) (den_ret ?_)
      · simp only [E.den, List.map_cons, List.map_nil, Option.map_none, Option.map_some, List.getD_cons_zero, List.getD_cons_succ, List.cons_append, List.nil_append, List.append_nil, D.toI_int, D.toB_bool, D.toS_str, D.toA_agg, D.toT_tup, D.toR_sl, enc_toA, encS_toR, encS_len, List.drop_succ_cons, List.drop_zero, List.take_succ_cons, List.take_zero, len_str, at_byte, cmpI_lss, cmpI_leq, cmpI_gtr, cmpI_geq, cmpI_eql, cmpI_neq, cmpS_eql, cmpS_neq, cmpS_lss, cmpS_geq, Int.toNat_natCast, Int.toNat_zero, cells_Entry, tCol_eq, tSemi_eq]; refine dec_ok ?_; simp only [ByteArray.size_append, tCol_size, tSemi_size]; unfold maxLen; omega
      · simp only [E.den, List.map_cons, List.map_nil, Option.map_none, Option.map_some, List.getD_cons_zero, List.getD_cons_succ, List.cons_append, List.nil_append, List.append_nil, D.toI_int, D.toB_bool, D.toS_str, D.toA_agg, D.toT_tup, D.toR_sl, enc_toA, encS_toR, encS_len, List.drop_succ_cons, List.drop_zero, List.take_succ_cons, List.take_zero, len_str, at_byte, cmpI_lss, cmpI_leq, cmpI_gtr, cmpI_geq, cmpI_eql, cmpI_neq, cmpS_eql, cmpS_neq, cmpS_lss, cmpS_geq, Int.toNat_natCast, Int.toNat_zero, cells_Entry, tCol_eq, tSemi_eq]
        rw [entT, if_pos h, if_neg g3]
    · simp only [E.den, List.map_cons, List.map_nil, Option.map_none, Option.map_some, List.getD_cons_zero, List.getD_cons_succ, List.cons_append, List.nil_append, List.append_nil, D.toI_int, D.toB_bool, D.toS_str, D.toA_agg, D.toT_tup, D.toR_sl, enc_toA, encS_toR, encS_len, List.drop_succ_cons, List.drop_zero, List.take_succ_cons, List.take_zero, len_str, at_byte, cmpI_lss, cmpI_leq, cmpI_gtr, cmpI_geq, cmpI_eql, cmpI_neq, cmpS_eql, cmpS_neq, cmpS_lss, cmpS_geq, Int.toNat_natCast, Int.toNat_zero] at g3
      have g3 : e.needs = [] := by
        cases hn : e.needs with
        | nil => rfl
        | cons x r => rw [hn] at g3; simp at g3
      refine den_ret ?_
      simp only [E.den, List.map_cons, List.map_nil, Option.map_none, Option.map_some, List.getD_cons_zero, List.getD_cons_succ, List.cons_append, List.nil_append, List.append_nil, D.toI_int, D.toB_bool, D.toS_str, D.toA_agg, D.toT_tup, D.toR_sl, enc_toA, encS_toR, encS_len, List.drop_succ_cons, List.drop_zero, List.take_succ_cons, List.take_zero, len_str, at_byte, cmpI_lss, cmpI_leq, cmpI_gtr, cmpI_geq, cmpI_eql, cmpI_neq, cmpS_eql, cmpS_neq, cmpS_lss, cmpS_geq, Int.toNat_natCast, Int.toNat_zero, cells_Entry, tCol_eq, tSemi_eq]
      rw [entT, if_pos h, if_pos g3]
theorem c_impl_FormatEntry [HasAbil] (e : Entry) : Fun Tryz.prog 15 none [enc e] (.str (entT e)) [] := by
  refine Fun.ofV vc_impl_FormatEntry_ok ty_impl_FormatEntry_ok rfl ?_ (fun hfit => ?_)
  · exact ⟨ty_Entry e, trivial⟩
  unfold vc_impl_FormatEntry
  ((first | refine den_call ?_ (c_impl_IsEntry e) (trivial) ?_ | refine den_callR ?_ (c_impl_IsEntry e) (trivial) ?_ | refine den_call ?_ (.ofR (c_impl_IsEntry e)) (trivial) ?_); (focus (simp only [VC.den, E.den, List.map_cons, List.map_nil, Option.map_none, Option.map_some, List.getD_cons_zero, List.getD_cons_succ, List.cons_append, List.nil_append, List.append_nil, D.toI_int, D.toB_bool, D.toS_str, D.toA_agg, D.toT_tup, D.toR_sl, enc_toA, encS_toR, encS_len, List.drop_succ_cons, List.drop_zero, List.take_succ_cons, List.take_zero, gsH_nil, and_true]; try exact rfl)); (simp only [List.cons_append, List.nil_append]))
  refine den_ite (fun h => den_ret ?_) (fun h => ?_)
  · simp only [E.den, List.map_cons, List.map_nil, Option.map_none, Option.map_some, List.getD_cons_zero, List.getD_cons_succ, List.cons_append, List.nil_append, List.append_nil, D.toI_int, D.toB_bool, D.toS_str, D.toA_agg, D.toT_tup, D.toR_sl, enc_toA, encS_toR, encS_len, List.drop_succ_cons, List.drop_zero, List.take_succ_cons, List.take_zero, len_str, at_byte, cmpI_lss, cmpI_leq, cmpI_gtr, cmpI_geq, cmpI_eql, cmpI_neq, cmpS_eql, cmpS_neq, cmpS_lss, cmpS_geq, Int.toNat_natCast, Int.toNat_zero] at h ⊢
    rw [entT, if_neg (by grind)]; rfl
  simp only [E.den, List.map_cons, List.map_nil, Option.map_none, Option.map_some, List.getD_cons_zero, List.getD_cons_succ, List.cons_append, List.nil_append, List.append_nil, D.toI_int, D.toB_bool, D.toS_str, D.toA_agg, D.toT_tup, D.toR_sl, enc_toA, encS_toR, encS_len, List.drop_succ_cons, List.drop_zero, List.take_succ_cons, List.take_zero, len_str, at_byte, cmpI_lss, cmpI_leq, cmpI_gtr, cmpI_geq, cmpI_eql, cmpI_neq, cmpS_eql, cmpS_neq, cmpS_lss, cmpS_geq, Int.toNat_natCast, Int.toNat_zero] at h
  have h : entryB e = true := by grind
  obtain ⟨hN, hR⟩ := rec_join (entryB_rec h)
  have h1 := entryB_name h
  have h2 := verS_size e.ver
  have h3 := needs_join h
  have h4 := entryB_len h
  have hml : (e.needs.map needT).length ≤ 140737488355328 := by rw [List.length_map]; omega
  refine den_cond (fun _ => ?_) ?_
  · simp only [E.den, List.map_cons, List.map_nil, Option.map_none, Option.map_some, List.getD_cons_zero, List.getD_cons_succ, List.cons_append, List.nil_append, List.append_nil, D.toI_int, D.toB_bool, D.toS_str, D.toA_agg, D.toT_tup, D.toR_sl, enc_toA, encS_toR, encS_len, List.drop_succ_cons, List.drop_zero, List.take_succ_cons, List.take_zero, len_str, at_byte, cmpI_lss, cmpI_leq, cmpI_gtr, cmpI_geq, cmpI_eql, cmpI_neq, cmpS_eql, cmpS_neq, cmpS_lss, cmpS_geq, Int.toNat_natCast, Int.toNat_zero, cells_Entry, tCol_eq, tSemi_eq]; refine dec_ok ?_; simp only [ByteArray.size_append, tCol_size, tSemi_size]; unfold maxLen; omega
  ((first | refine den_call ?_ (c_impl_JoinWith e.recipe tSp (by omega) (by omega)) (trivial) ?_ | refine den_callR ?_ (c_impl_JoinWith e.recipe tSp (by omega) (by omega)) (trivial) ?_ | refine den_call ?_ (.ofR (c_impl_JoinWith e.recipe tSp (by omega) (by omega))) (trivial) ?_); (focus (simp only [VC.den, E.den, List.map_cons, List.map_nil, Option.map_none, Option.map_some, List.getD_cons_zero, List.getD_cons_succ, List.cons_append, List.nil_append, List.append_nil, D.toI_int, D.toB_bool, D.toS_str, D.toA_agg, D.toT_tup, D.toR_sl, enc_toA, encS_toR, encS_len, List.drop_succ_cons, List.drop_zero, List.take_succ_cons, List.take_zero, gsH_nil, and_true, cells_Entry]; try exact rfl)); (simp only [List.cons_append, List.nil_append]))
  refine den_cond (fun _ => ?_) ?_
  · simp only [E.den, List.map_cons, List.map_nil, Option.map_none, Option.map_some, List.getD_cons_zero, List.getD_cons_succ, List.cons_append, List.nil_append, List.append_nil, D.toI_int, D.toB_bool, D.toS_str, D.toA_agg, D.toT_tup, D.toR_sl, enc_toA, encS_toR, encS_len, List.drop_succ_cons, List.drop_zero, List.take_succ_cons, List.take_zero, len_str, at_byte, cmpI_lss, cmpI_leq, cmpI_gtr, cmpI_geq, cmpI_eql, cmpI_neq, cmpS_eql, cmpS_neq, cmpS_lss, cmpS_geq, Int.toNat_natCast, Int.toNat_zero, cells_Entry, tCol_eq, tSemi_eq]; refine dec_ok ?_; simp only [ByteArray.size_append, tCol_size, tSemi_size]; unfold maxLen; omega
  refine den_cond (fun _ => ?_) ?_
  · simp only [E.den, List.map_cons, List.map_nil, Option.map_none, Option.map_some, List.getD_cons_zero, List.getD_cons_succ, List.cons_append, List.nil_append, List.append_nil, D.toI_int, D.toB_bool, D.toS_str, D.toA_agg, D.toT_tup, D.toR_sl, enc_toA, encS_toR, encS_len, List.drop_succ_cons, List.drop_zero, List.take_succ_cons, List.take_zero, len_str, at_byte, cmpI_lss, cmpI_leq, cmpI_gtr, cmpI_geq, cmpI_eql, cmpI_neq, cmpS_eql, cmpS_neq, cmpS_lss, cmpS_geq, Int.toNat_natCast, Int.toNat_zero, cells_Entry, tCol_eq, tSemi_eq]; refine dec_ok ?_; simp only [ByteArray.size_append, tCol_size, tSemi_size]; unfold maxLen; omega
  ((first | refine den_call ?_ (c_impl_FormatVersion e.ver) (trivial) ?_ | refine den_callR ?_ (c_impl_FormatVersion e.ver) (trivial) ?_ | refine den_call ?_ (.ofR (c_impl_FormatVersion e.ver)) (trivial) ?_); (focus (simp only [VC.den, E.den, List.map_cons, List.map_nil, Option.map_none, Option.map_some, List.getD_cons_zero, List.getD_cons_succ, List.cons_append, List.nil_append, List.append_nil, D.toI_int, D.toB_bool, D.toS_str, D.toA_agg, D.toT_tup, D.toR_sl, enc_toA, encS_toR, encS_len, List.drop_succ_cons, List.drop_zero, List.take_succ_cons, List.take_zero, gsH_nil, and_true, cells_Entry]; try exact rfl)); (simp only [List.cons_append, List.nil_append]))
  refine den_cond (fun _ => ?_) ?_
  · simp only [E.den, List.map_cons, List.map_nil, Option.map_none, Option.map_some, List.getD_cons_zero, List.getD_cons_succ, List.cons_append, List.nil_append, List.append_nil, D.toI_int, D.toB_bool, D.toS_str, D.toA_agg, D.toT_tup, D.toR_sl, enc_toA, encS_toR, encS_len, List.drop_succ_cons, List.drop_zero, List.take_succ_cons, List.take_zero, len_str, at_byte, cmpI_lss, cmpI_leq, cmpI_gtr, cmpI_geq, cmpI_eql, cmpI_neq, cmpS_eql, cmpS_neq, cmpS_lss, cmpS_geq, Int.toNat_natCast, Int.toNat_zero, cells_Entry, tCol_eq, tSemi_eq]; refine dec_ok ?_; simp only [ByteArray.size_append, tCol_size, tSemi_size]; unfold maxLen; omega
  refine den_for e.needs.length (fun k => [encS ((e.needs.take k).map needT), .int .i64 k]) (fun _ => True) rfl trivial ?_
  intro k hk hI _
  simp only [List.cons_append, List.nil_append]
  refine den_ite (fun g2 => ?_) (fun g2 => ?_)
  · simp only [E.den, List.map_cons, List.map_nil, Option.map_none, Option.map_some, List.getD_cons_zero, List.getD_cons_succ, List.cons_append, List.nil_append, List.append_nil, D.toI_int, D.toB_bool, D.toS_str, D.toA_agg, D.toT_tup, D.toR_sl, enc_toA, encS_toR, encS_len, List.drop_succ_cons, List.drop_zero, List.take_succ_cons, List.take_zero, len_str, at_byte, cmpI_lss, cmpI_leq, cmpI_gtr, cmpI_geq, cmpI_eql, cmpI_neq, cmpS_eql, cmpS_neq, cmpS_lss, cmpS_geq, Int.toNat_natCast, Int.toNat_zero, cells_Entry] at g2
    have g2 : k < e.needs.length := by simp at g2; exact g2
    have h5 := entryB_need h g2
    have h6 := faceS_size (nth e.needs k).face
    have h7 := verS_size (nth e.needs k).least
    (refine den_cond (fun hg => ?_) ?_; (focus (simp only [gsH, List.mem_cons, List.not_mem_nil, or_false, forall_eq_or_imp, forall_eq, E.den, List.map_cons, List.map_nil, Option.map_none, Option.map_some, List.getD_cons_zero, List.getD_cons_succ, List.cons_append, List.nil_append, List.append_nil, D.toI_int, D.toB_bool, D.toS_str, D.toA_agg, D.toT_tup, D.toR_sl, enc_toA, encS_toR, encS_len, List.drop_succ_cons, List.drop_zero, List.take_succ_cons, List.take_zero, len_str, at_byte, cmpI_lss, cmpI_leq, cmpI_gtr, cmpI_geq, cmpI_eql, cmpI_neq, cmpS_eql, cmpS_neq, cmpS_lss, cmpS_geq, Int.toNat_natCast, Int.toNat_zero, cells_Entry] at hg ⊢; (try simp only [D.bool.injEq] at hg); (try simp only [D.bool.injEq]); grind)))
    ((first | refine den_call ?_ (c_impl_FormatFace (nth e.needs k).face) (trivial) ?_ | refine den_callR ?_ (c_impl_FormatFace (nth e.needs k).face) (trivial) ?_ | refine den_call ?_ (.ofR (c_impl_FormatFace (nth e.needs k).face)) (trivial) ?_); (focus (simp only [VC.den, E.den, List.map_cons, List.map_nil, Option.map_none, Option.map_some, List.getD_cons_zero, List.getD_cons_succ, List.cons_append, List.nil_append, List.append_nil, D.toI_int, D.toB_bool, D.toS_str, D.toA_agg, D.toT_tup, D.toR_sl, enc_toA, encS_toR, encS_len, List.drop_succ_cons, List.drop_zero, List.take_succ_cons, List.take_zero, gsH_nil, and_true, cells_Entry, row_Need, cells_Need]; try exact rfl)); (simp only [List.cons_append, List.nil_append]))
    refine den_ite (fun g3 => ?_) (fun g3 => ?_)
    · simp only [E.den, List.map_cons, List.map_nil, Option.map_none, Option.map_some, List.getD_cons_zero, List.getD_cons_succ, List.cons_append, List.nil_append, List.append_nil, D.toI_int, D.toB_bool, D.toS_str, D.toA_agg, D.toT_tup, D.toR_sl, enc_toA, encS_toR, encS_len, List.drop_succ_cons, List.drop_zero, List.take_succ_cons, List.take_zero, len_str, at_byte, cmpI_lss, cmpI_leq, cmpI_gtr, cmpI_geq, cmpI_eql, cmpI_neq, cmpS_eql, cmpS_neq, cmpS_lss, cmpS_geq, Int.toNat_natCast, Int.toNat_zero, cells_Entry, row_Need, cells_Need, noText_eq] at g3
      refine den_cond (fun _ => ?_) ?_
      · simp only [E.den, List.map_cons, List.map_nil, Option.map_none, Option.map_some, List.getD_cons_zero, List.getD_cons_succ, List.cons_append, List.nil_append, List.append_nil, D.toI_int, D.toB_bool, D.toS_str, D.toA_agg, D.toT_tup, D.toR_sl, enc_toA, encS_toR, encS_len, List.drop_succ_cons, List.drop_zero, List.take_succ_cons, List.take_zero, len_str, at_byte, cmpI_lss, cmpI_leq, cmpI_gtr, cmpI_geq, cmpI_eql, cmpI_neq, cmpS_eql, cmpS_neq, cmpS_lss, cmpS_geq, Int.toNat_natCast, Int.toNat_zero, cells_Entry, row_Need, cells_Need, tOf_eq, tSp_eq]; refine dec_ok ?_; simp only [ByteArray.size_append, tSp_size, tOf_size]; unfold maxLen; omega
      refine den_cond (fun _ => ?_) ?_
      · simp only [E.den, List.map_cons, List.map_nil, Option.map_none, Option.map_some, List.getD_cons_zero, List.getD_cons_succ, List.cons_append, List.nil_append, List.append_nil, D.toI_int, D.toB_bool, D.toS_str, D.toA_agg, D.toT_tup, D.toR_sl, enc_toA, encS_toR, encS_len, List.drop_succ_cons, List.drop_zero, List.take_succ_cons, List.take_zero, len_str, at_byte, cmpI_lss, cmpI_leq, cmpI_gtr, cmpI_geq, cmpI_eql, cmpI_neq, cmpS_eql, cmpS_neq, cmpS_lss, cmpS_geq, Int.toNat_natCast, Int.toNat_zero, cells_Entry, row_Need, cells_Need, tOf_eq, tSp_eq]; refine dec_ok ?_; simp only [ByteArray.size_append, tSp_size, tOf_size]; unfold maxLen; omega
      refine den_cond (fun _ => ?_) ?_
      · simp only [E.den, List.map_cons, List.map_nil, Option.map_none, Option.map_some, List.getD_cons_zero, List.getD_cons_succ, List.cons_append, List.nil_append, List.append_nil, D.toI_int, D.toB_bool, D.toS_str, D.toA_agg, D.toT_tup, D.toR_sl, enc_toA, encS_toR, encS_len, List.drop_succ_cons, List.drop_zero, List.take_succ_cons, List.take_zero, len_str, at_byte, cmpI_lss, cmpI_leq, cmpI_gtr, cmpI_geq, cmpI_eql, cmpI_neq, cmpS_eql, cmpS_neq, cmpS_lss, cmpS_geq, Int.toNat_natCast, Int.toNat_zero, cells_Entry, row_Need, cells_Need, tOf_eq, tSp_eq]; refine dec_ok ?_; simp only [ByteArray.size_append, tSp_size, tOf_size]; unfold maxLen; omega
      ((first | refine den_call ?_ (c_impl_FormatVersion (nth e.needs k).least) (trivial) ?_ | refine den_callR ?_ (c_impl_FormatVersion (nth e.needs k).least) (trivial) ?_ | refine den_call ?_ (.ofR (c_impl_FormatVersion (nth e.needs k).least)) (trivial) ?_); (focus (simp only [VC.den, E.den, List.map_cons, List.map_nil, Option.map_none, Option.map_some, List.getD_cons_zero, List.getD_cons_succ, List.cons_append, List.nil_append, List.append_nil, D.toI_int, D.toB_bool, D.toS_str, D.toA_agg, D.toT_tup, D.toR_sl, enc_toA, encS_toR, encS_len, List.drop_succ_cons, List.drop_zero, List.take_succ_cons, List.take_zero, gsH_nil, and_true, cells_Entry, row_Need, cells_Need]; try exact rfl)); (simp only [List.cons_append, List.nil_append]))
      refine den_cond (fun _ => ?_) ?_
      · simp only [E.den, List.map_cons, List.map_nil, Option.map_none, Option.map_some, List.getD_cons_zero, List.getD_cons_succ, List.cons_append, List.nil_append, List.append_nil, D.toI_int, D.toB_bool, D.toS_str, D.toA_agg, D.toT_tup, D.toR_sl, enc_toA, encS_toR, encS_len, List.drop_succ_cons, List.drop_zero, List.take_succ_cons, List.take_zero, len_str, at_byte, cmpI_lss, cmpI_leq, cmpI_gtr, cmpI_geq, cmpI_eql, cmpI_neq, cmpS_eql, cmpS_neq, cmpS_lss, cmpS_geq, Int.toNat_natCast, Int.toNat_zero, cells_Entry, row_Need, cells_Need, tOf_eq, tSp_eq]; refine dec_ok ?_; simp only [ByteArray.size_append, tSp_size, tOf_size]; unfold maxLen; omega
      refine den_cond (fun _ => ?_) ?_
      · simp only [E.den, List.map_cons, List.map_nil, Option.map_none, Option.map_some, List.getD_cons_zero, List.getD_cons_succ, List.cons_append, List.nil_append, List.append_nil, D.toI_int, D.toB_bool, D.toS_str, D.toA_agg, D.toT_tup, D.toR_sl, enc_toA, encS_toR, encS_len, List.drop_succ_cons, List.drop_zero, List.take_succ_cons, List.take_zero, len_str, at_byte, cmpI_lss, cmpI_leq, cmpI_gtr, cmpI_geq, cmpI_eql, cmpI_neq, cmpS_eql, cmpS_neq, cmpS_lss, cmpS_geq, Int.toNat_natCast, Int.toNat_zero]; simp [maxLen]; omega
      refine den_next g2 ?_ trivial
      simp only [E.den, List.map_cons, List.map_nil, Option.map_none, Option.map_some, List.getD_cons_zero, List.getD_cons_succ, List.cons_append, List.nil_append, List.append_nil, D.toI_int, D.toB_bool, D.toS_str, D.toA_agg, D.toT_tup, D.toR_sl, enc_toA, encS_toR, encS_len, List.drop_succ_cons, List.drop_zero, List.take_succ_cons, List.take_zero, len_str, at_byte, cmpI_lss, cmpI_leq, cmpI_gtr, cmpI_geq, cmpI_eql, cmpI_neq, cmpS_eql, cmpS_neq, cmpS_lss, cmpS_geq, Int.toNat_natCast, Int.toNat_zero, cells_Entry, row_Need, cells_Need, tOf_eq, tSp_eq]
      rw [ar_add (by omega) (by omega), map_take_succ _ g2]
      simp [encS, cells_str]
      rw [needT, if_neg (by grind)]
      simp [ByteArray.append_assoc]
    · simp only [E.den, List.map_cons, List.map_nil, Option.map_none, Option.map_some, List.getD_cons_zero, List.getD_cons_succ, List.cons_append, List.nil_append, List.append_nil, D.toI_int, D.toB_bool, D.toS_str, D.toA_agg, D.toT_tup, D.toR_sl, enc_toA, encS_toR, encS_len, List.drop_succ_cons, List.drop_zero, List.take_succ_cons, List.take_zero, len_str, at_byte, cmpI_lss, cmpI_leq, cmpI_gtr, cmpI_geq, cmpI_eql, cmpI_neq, cmpS_eql, cmpS_neq, cmpS_lss, cmpS_geq, Int.toNat_natCast, Int.toNat_zero, cells_Entry, row_Need, cells_Need, noText_eq] at g3
      refine den_cond (fun _ => ?_) ?_
      · simp only [E.den, List.map_cons, List.map_nil, Option.map_none, Option.map_some, List.getD_cons_zero, List.getD_cons_succ, List.cons_append, List.nil_append, List.append_nil, D.toI_int, D.toB_bool, D.toS_str, D.toA_agg, D.toT_tup, D.toR_sl, enc_toA, encS_toR, encS_len, List.drop_succ_cons, List.drop_zero, List.take_succ_cons, List.take_zero, len_str, at_byte, cmpI_lss, cmpI_leq, cmpI_gtr, cmpI_geq, cmpI_eql, cmpI_neq, cmpS_eql, cmpS_neq, cmpS_lss, cmpS_geq, Int.toNat_natCast, Int.toNat_zero, cells_Entry, row_Need, cells_Need, tOf_eq, tSp_eq]; refine dec_ok ?_; simp only [ByteArray.size_append, tSp_size, tOf_size]; unfold maxLen; omega
      ((first | refine den_call ?_ (c_impl_FormatVersion (nth e.needs k).least) (trivial) ?_ | refine den_callR ?_ (c_impl_FormatVersion (nth e.needs k).least) (trivial) ?_ | refine den_call ?_ (.ofR (c_impl_FormatVersion (nth e.needs k).least)) (trivial) ?_); (focus (simp only [VC.den, E.den, List.map_cons, List.map_nil, Option.map_none, Option.map_some, List.getD_cons_zero, List.getD_cons_succ, List.cons_append, List.nil_append, List.append_nil, D.toI_int, D.toB_bool, D.toS_str, D.toA_agg, D.toT_tup, D.toR_sl, enc_toA, encS_toR, encS_len, List.drop_succ_cons, List.drop_zero, List.take_succ_cons, List.take_zero, gsH_nil, and_true, cells_Entry, row_Need, cells_Need]; try exact rfl)); (simp only [List.cons_append, List.nil_append]))
      refine den_cond (fun _ => ?_) ?_
      · simp only [E.den, List.map_cons, List.map_nil, Option.map_none, Option.map_some, List.getD_cons_zero, List.getD_cons_succ, List.cons_append, List.nil_append, List.append_nil, D.toI_int, D.toB_bool, D.toS_str, D.toA_agg, D.toT_tup, D.toR_sl, enc_toA, encS_toR, encS_len, List.drop_succ_cons, List.drop_zero, List.take_succ_cons, List.take_zero, len_str, at_byte, cmpI_lss, cmpI_leq, cmpI_gtr, cmpI_geq, cmpI_eql, cmpI_neq, cmpS_eql, cmpS_neq, cmpS_lss, cmpS_geq, Int.toNat_natCast, Int.toNat_zero, cells_Entry, row_Need, cells_Need, tOf_eq, tSp_eq]; refine dec_ok ?_; simp only [ByteArray.size_append, tSp_size, tOf_size]; unfold maxLen; omega
      refine den_cond (fun _ => ?_) ?_
      · simp only [E.den, List.map_cons, List.map_nil, Option.map_none, Option.map_some, List.getD_cons_zero, List.getD_cons_succ, List.cons_append, List.nil_append, List.append_nil, D.toI_int, D.toB_bool, D.toS_str, D.toA_agg, D.toT_tup, D.toR_sl, enc_toA, encS_toR, encS_len, List.drop_succ_cons, List.drop_zero, List.take_succ_cons, List.take_zero, len_str, at_byte, cmpI_lss, cmpI_leq, cmpI_gtr, cmpI_geq, cmpI_eql, cmpI_neq, cmpS_eql, cmpS_neq, cmpS_lss, cmpS_geq, Int.toNat_natCast, Int.toNat_zero]; simp [maxLen]; omega
      refine den_next g2 ?_ trivial
      simp only [E.den, List.map_cons, List.map_nil, Option.map_none, Option.map_some, List.getD_cons_zero, List.getD_cons_succ, List.cons_append, List.nil_append, List.append_nil, D.toI_int, D.toB_bool, D.toS_str, D.toA_agg, D.toT_tup, D.toR_sl, enc_toA, encS_toR, encS_len, List.drop_succ_cons, List.drop_zero, List.take_succ_cons, List.take_zero, len_str, at_byte, cmpI_lss, cmpI_leq, cmpI_gtr, cmpI_geq, cmpI_eql, cmpI_neq, cmpS_eql, cmpS_neq, cmpS_lss, cmpS_geq, Int.toNat_natCast, Int.toNat_zero, cells_Entry, row_Need, cells_Need, tOf_eq, tSp_eq]
      rw [ar_add (by omega) (by omega), map_take_succ _ g2]
      simp [encS, cells_str]
      rw [needT, if_pos (by grind)]
  · simp only [E.den, List.map_cons, List.map_nil, Option.map_none, Option.map_some, List.getD_cons_zero, List.getD_cons_succ, List.cons_append, List.nil_append, List.append_nil, D.toI_int, D.toB_bool, D.toS_str, D.toA_agg, D.toT_tup, D.toR_sl, enc_toA, encS_toR, encS_len, List.drop_succ_cons, List.drop_zero, List.take_succ_cons, List.take_zero, len_str, at_byte, cmpI_lss, cmpI_leq, cmpI_gtr, cmpI_geq, cmpI_eql, cmpI_neq, cmpS_eql, cmpS_neq, cmpS_lss, cmpS_geq, Int.toNat_natCast, Int.toNat_zero, cells_Entry] at g2
    obtain rfl : k = e.needs.length := by simp at g2; omega
    refine den_ite (fun g3 => ?_) (fun g3 => ?_)
    · simp only [E.den, List.map_cons, List.map_nil, Option.map_none, Option.map_some, List.getD_cons_zero, List.getD_cons_succ, List.cons_append, List.nil_append, List.append_nil, D.toI_int, D.toB_bool, D.toS_str, D.toA_agg, D.toT_tup, D.toR_sl, enc_toA, encS_toR, encS_len, List.drop_succ_cons, List.drop_zero, List.take_succ_cons, List.take_zero, len_str, at_byte, cmpI_lss, cmpI_leq, cmpI_gtr, cmpI_geq, cmpI_eql, cmpI_neq, cmpS_eql, cmpS_neq, cmpS_lss, cmpS_geq, Int.toNat_natCast, Int.toNat_zero] at g3
      have g3 : e.needs ≠ [] := by intro e0; simp [e0] at g3
      ((first | refine den_call ?_ (c_impl_JoinWith (e.needs.map needT) tCom hml (by omega)) (trivial) ?_ | refine den_callR ?_ (c_impl_JoinWith (e.needs.map needT) tCom hml (by omega)) (trivial) ?_ | refine den_call ?_ (.ofR (c_impl_JoinWith (e.needs.map needT) tCom hml (by omega))) (trivial) ?_); (focus (simp only [VC.den, E.den, List.map_cons, List.map_nil, Option.map_none, Option.map_some, List.getD_cons_zero, List.getD_cons_succ, List.cons_append, List.nil_append, List.append_nil, D.toI_int, D.toB_bool, D.toS_str, D.toA_agg, D.toT_tup, D.toR_sl, enc_toA, encS_toR, encS_len, List.drop_succ_cons, List.drop_zero, List.take_succ_cons, List.take_zero, gsH_nil, and_true, cells_Entry, List.take_length]; try exact rfl)); (simp only [List.cons_append, List.nil_append]))
      refine den_cond (fun _ => ?_) ?_
      · simp only [E.den, List.map_cons, List.map_nil, Option.map_none, Option.map_some, List.getD_cons_zero, List.getD_cons_succ, List.cons_append, List.nil_append, List.append_nil, D.toI_int, D.toB_bool, D.toS_str, D.toA_agg, D.toT_tup, D.toR_sl, enc_toA, encS_toR, encS_len, List.drop_succ_cons, List.drop_zero, List.take_succ_cons, List.take_zero, len_str, at_byte, cmpI_lss, cmpI_leq, cmpI_gtr, cmpI_geq, cmpI_eql, cmpI_neq, cmpS_eql, cmpS_neq, cmpS_lss, cmpS_geq, Int.toNat_natCast, Int.toNat_zero, cells_Entry, tCol_eq, tSemi_eq]; refine dec_ok ?_; simp only [ByteArray.size_append, tCol_size, tSemi_size]; unfold maxLen; omega
      refine den_cond (fun _ => ?_) (den_ret ?_)
      · simp only [E.den, List.map_cons, List.map_nil, Option.map_none, Option.map_some, List.getD_cons_zero, List.getD_cons_succ, List.cons_append, List.nil_append, List.append_nil, D.toI_int, D.toB_bool, D.toS_str, D.toA_agg, D.toT_tup, D.toR_sl, enc_toA, encS_toR, encS_len, List.drop_succ_cons, List.drop_zero, List.take_succ_cons, List.take_zero, len_str, at_byte, cmpI_lss, cmpI_leq, cmpI_gtr, cmpI_geq, cmpI_eql, cmpI_neq, cmpS_eql, cmpS_neq, cmpS_lss, cmpS_geq, Int.toNat_natCast, Int.toNat_zero, cells_Entry, tCol_eq, tSemi_eq]; refine dec_ok ?_; simp only [ByteArray.size_append, tCol_size, tSemi_size]; unfold maxLen; omega
      · simp only [E.den, List.map_cons, List.map_nil, Option.map_none, Option.map_some, List.getD_cons_zero, List.getD_cons_succ, List.cons_append, List.nil_append, List.append_nil, D.toI_int, D.toB_bool, D.toS_str, D.toA_agg, D.toT_tup, D.toR_sl, enc_toA, encS_toR, encS_len, List.drop_succ_cons, List.drop_zero, List.take_succ_cons, List.take_zero, len_str, at_byte, cmpI_lss, cmpI_leq, cmpI_gtr, cmpI_geq, cmpI_eql, cmpI_neq, cmpS_eql, cmpS_neq, cmpS_lss, cmpS_geq, Int.toNat_natCast, Int.toNat_zero, cells_Entry, tCol_eq, tSemi_eq]
        rw [entT, if_pos h, if_neg g3]
        simp [ByteArray.append_assoc]
    · simp only [E.den, List.map_cons, List.map_nil, Option.map_none, Option.map_some, List.getD_cons_zero, List.getD_cons_succ, List.cons_append, List.nil_append, List.append_nil, D.toI_int, D.toB_bool, D.toS_str, D.toA_agg, D.toT_tup, D.toR_sl, enc_toA, encS_toR, encS_len, List.drop_succ_cons, List.drop_zero, List.take_succ_cons, List.take_zero, len_str, at_byte, cmpI_lss, cmpI_leq, cmpI_gtr, cmpI_geq, cmpI_eql, cmpI_neq, cmpS_eql, cmpS_neq, cmpS_lss, cmpS_geq, Int.toNat_natCast, Int.toNat_zero] at g3
      have g3 : e.needs = [] := by
        cases hn : e.needs with
        | nil => rfl
        | cons x r => rw [hn] at g3; simp at g3
      refine den_ret ?_
      simp only [E.den, List.map_cons, List.map_nil, Option.map_none, Option.map_some, List.getD_cons_zero, List.getD_cons_succ, List.cons_append, List.nil_append, List.append_nil, D.toI_int, D.toB_bool, D.toS_str, D.toA_agg, D.toT_tup, D.toR_sl, enc_toA, encS_toR, encS_len, List.drop_succ_cons, List.drop_zero, List.take_succ_cons, List.take_zero, len_str, at_byte, cmpI_lss, cmpI_leq, cmpI_gtr, cmpI_geq, cmpI_eql, cmpI_neq, cmpS_eql, cmpS_neq, cmpS_lss, cmpS_geq, Int.toNat_natCast, Int.toNat_zero, cells_Entry, tCol_eq, tSemi_eq]
      rw [entT, if_pos h, if_pos g3]
theorem join_sm {l : List ByteArray} (h : Sm.sm l) : l.length ≤ 1048576 ∧ (joinB l tSp).size ≤ 4398046511104 := by
  obtain ⟨h1, h2⟩ := sm_list.1 h
  refine ⟨h1, Nat.le_trans (joinB_bound (n := 1048576) fun k hk => sm_str.1 (h2 k hk)) ?_⟩
  rw [tSp_size]
  have : l.length * (1048576 + 1) ≤ 1048576 * (1048576 + 1) := Nat.mul_le_mul_right _ h1
  omega
end Go.Proofs.YtmhfncdhplmomaaGreatDoor
