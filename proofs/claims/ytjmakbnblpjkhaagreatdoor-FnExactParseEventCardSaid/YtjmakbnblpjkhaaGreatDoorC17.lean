/- Contracts: texts read as calls and events, by the program and by the reference. -/
import Derived.Test.YtjmakbnblpjkhaaGreatDoorC16
import Derived.Test.YtjmakbnblpjkhaaGreatDoorC14
import Derived.Test.YtjmakbnblpjkhaaGreatDoorC13
import Derived.Test.YtjmakbnblpjkhaaGreatDoorC12
import Derived.WalkKit
import Derived.ProofKit
import Derived.OpenShut
import Derived.ShutString
import Derived.ChangeOld
import Derived.Below
import Derived.Deep.Slices
set_option linter.unusedVariables false
set_option linter.unusedSimpArgs false
set_option maxRecDepth 100000
set_option linter.unusedSectionVars false
namespace Go.Proofs.YtjmakbnblpjkhaaGreatDoor
open Go.RowKit Go
variable [GC]
theorem txtS_enc (l : List (List UInt8)) : txtS l = encS (l.map bs) := by
 simp only [txtS, encS, List.map_map]
 congr 1
theorem cS_SplitAt (s sep : ByteArray) (h0 : sep.data.toList ≠ []) (h1 : sep.data.toList.length ≤ 100) (hs : s.size < 4294967281) : FunR Tryz.prog 42 none [.str s, .str sep] (encS (pieces s sep)) [] [(0, 1)] := by
 have h := c_spec_SplitAt s sep.data.toList h0 h1 hs
 rw [txtS_enc, bs_of] at h
 exact h
theorem c_spec_l1Min (a b : Int) : Fun Tryz.prog 94 none [.int .i64 a, .int .i64 b] (.int .i64 (if a < b then a else b)) [] := by
 refine Fun.ofV vc_spec_l1Min_ok ty_spec_l1Min_ok rfl ?_ (fun hfit => ?_)
 ·exact ⟨rfl, rfl, trivial⟩
 unfold vc_spec_l1Min
 refine den_ite (fun h => den_ret ?_) (fun h => den_ret ?_)
 ·simp only [E.den, dEq, iEq, sEq] at h ⊢
  have h : a < b := by simpa using h
  rw [if_pos h]
 ·simp only [E.den, dEq, iEq, sEq] at h ⊢
  have h : ¬ a < b := by simpa using h
  rw [if_neg h]
theorem join_len (x : List UInt8) : ∀ (l : List (List UInt8)) (sep : List UInt8), (Lib.join l sep).length ≤ (Lib.join (x :: l) sep).length
 | [], sep => by simp [Lib.join_nil]
 | y :: r, sep => by
  have e : Lib.join (x :: y :: r) sep = x ++ (sep ++ Lib.join (y :: r) sep) := by
   rw [Lib.join_cons, Lib.join_cons]
   simp [Lib.joinTail]
  rw [e]
  simp
  omega
def cut3 (s : ByteArray) : D := .tup [.str (cutA s), .str (cutZ s), .bool (Lib.cut s.data.toList [32]).2.2]
theorem c_Cut3 [HasMax] (s : ByteArray) (hs : s.size < 4294967281) : Fun Tryz.prog 47 none [.str s, .str (bs [32])] (cut3 s) [] := c_Cut s [32] hs
theorem drop_join_size (s : ByteArray) (k : Nat) : (joinB ((pieces s tSp).drop k) tSp).size ≤ s.size := by
 have h : ∀ (l : List ByteArray) (k : Nat), (joinB (l.drop k) tSp).size ≤ (joinB l tSp).size := by
  intro l
  induction l with
  | nil => intro k; simp
  | cons x l ih =>
   intro k
   cases k with
   | zero => exact Nat.le_refl _
   | succ k =>
    refine Nat.le_trans (ih k) ?_
    rw [joinB_size, joinB_size, List.map_cons]
    exact join_len _ _ _
 have := h (pieces s tSp) k
 rwa [join_pieces] at this
theorem rcV_size (s : ByteArray) : (rcV s).method.size ≤ s.size ∧ (rcV s).text.size ≤ s.size := by
 have h1 := cutA_size s
 have h2 := cutZ_size s
 have h0 : noText.size = 0 := rfl
 unfold rcV candI
 split
 ·repeat' split
  all_goals exact ⟨by omega, by simp only; omega⟩
 ·exact ⟨Nat.zero_le _, Nat.zero_le _⟩
theorem rc_no {s : ByteArray} (h : ¬ (callB (candI s) = true ∧ callT (candI s) = s)) : D.tup [enc (rcV s), .bool (rcB s)] = .tup [enc noCall, .bool false] := by
 have hb : rcB s = false := by
  unfold rcB
  simpa using h
 rw [rcV, hb]; rfl
theorem rc_yes {s : ByteArray} (h : callB (candI s) = true ∧ callT (candI s) = s) : D.tup [enc (rcV s), .bool (rcB s)] = .tup [enc (candI s), .bool true] := by
 have hb : rcB s = true := by
  unfold rcB
  simpa using h
 rw [rcV, hb]; rfl
theorem rc_noS {s : ByteArray} (h : ¬ (callT (candS (pieces s tSp)) = s ∧ s ≠ noText)) : D.tup [enc (rcV s), .bool (rcB s)] = .tup [enc noCall, .bool false] := by
 have hb : rcB s = false := by
  cases e : rcB s with
  | false => rfl
  | true => exact absurd ((rc_spec s).1.1 e) h
 rw [rcV, hb]; rfl
theorem rc_yesS {s : ByteArray} (h : callT (candS (pieces s tSp)) = s ∧ s ≠ noText) : D.tup [enc (rcV s), .bool (rcB s)] = .tup [enc (candS (pieces s tSp)), .bool true] := by
 have hb : rcB s = true := (rc_spec s).1.2 h
 rw [(rc_spec s).2 hb, hb]
theorem ty_rc (s : ByteArray) : HasVT tbl.tab (.tup [.agg [.str, .str, .int .i64, .str], .c .bool]) (.tup [enc (rcV s), .bool (rcB s)]) := ⟨ty_Call _, trivial, trivial⟩
theorem noText_le (n : Nat) : noText.size ≤ n := Nat.zero_le n
theorem c_impl_ParseCall [HasMax] [HasPow] [HasErr] (s : ByteArray) (hs : s.size ≤ 1048576) : Fun Tryz.prog 48 none [.str s] (.tup [enc (rcV s), .bool (rcB s)]) [] := by
 refine Fun.ofV vc_impl_ParseCall_ok ty_impl_ParseCall_ok rfl ?_ (fun hfit => ?_)
 ·exact ⟨trivial, trivial⟩
 unfold vc_impl_ParseCall
 have hn := m_ne
 have hn' := m_ne'
 have hz := cutZ_size s
 have hzz := cutZ_size (cutZ s)
 have hs1 : s.size < 4294967281 := by omega
 have hs2 : (cutZ s).size < 4294967281 := by omega
 have hs3 : (cutZ s).size ≤ 1048576 := by omega
 ((first | refine den_call ?_ (c_Cut3 s hs1) (⟨trivial, trivial, trivial, trivial⟩) ?_ | refine den_callR ?_ (c_Cut3 s hs1) (⟨trivial, trivial, trivial, trivial⟩) ?_ | refine den_call ?_ (.ofR (c_Cut3 s hs1)) (⟨trivial, trivial, trivial, trivial⟩) ?_); (focus (simp only [VC.den, E.den, dEq, gsH_nil, and_true]; try exact rfl)); (simp only [cA]))
 refine den_ite (fun g1 => ?_) (fun g1 => ?_)
 ·simp only [E.den, dEq, iEq, sEq, cut3, mPut_eq] at g1
  have g1 : cutA s = mPut := by simpa using g1
  ((first | refine den_call ?_ (c_Cut3 (cutZ s) hs2) (⟨trivial, trivial, trivial, trivial⟩) ?_ | refine den_callR ?_ (c_Cut3 (cutZ s) hs2) (⟨trivial, trivial, trivial, trivial⟩) ?_ | refine den_call ?_ (.ofR (c_Cut3 (cutZ s) hs2)) (⟨trivial, trivial, trivial, trivial⟩) ?_); (focus (simp only [VC.den, E.den, dEq, gsH_nil, and_true, cut3]; try exact rfl)); (simp only [cA]))
  ((first | refine den_call ?_ (c_impl_ParseNumber (cutZ (cutZ s))) (ty_numD _) ?_ | refine den_callR ?_ (c_impl_ParseNumber (cutZ (cutZ s))) (ty_numD _) ?_ | refine den_call ?_ (.ofR (c_impl_ParseNumber (cutZ (cutZ s)))) (ty_numD _) ?_); (focus (simp only [VC.den, E.den, dEq, gsH_nil, and_true, cut3]; try exact rfl)); (simp only [cA]))
  have hX : candI s = ⟨cutA s, cutA (cutZ s), numI (cutZ (cutZ s)), noText⟩ := by unfold candI; rw [if_pos g1]
  ((first | refine den_call ?_ (c_impl_IsCall ⟨cutA s, cutA (cutZ s), numI (cutZ (cutZ s)), noText⟩) (trivial) ?_ | refine den_callR ?_ (c_impl_IsCall ⟨cutA s, cutA (cutZ s), numI (cutZ (cutZ s)), noText⟩) (trivial) ?_ | refine den_call ?_ (.ofR (c_impl_IsCall ⟨cutA s, cutA (cutZ s), numI (cutZ (cutZ s)), noText⟩)) (trivial) ?_); (focus (simp only [VC.den, E.den, dEq, gsH_nil, and_true, cut3, numD]; try exact rfl)); (simp only [cA]))
  ((first | refine den_call ?_ (c_impl_FormatCall ⟨cutA s, cutA (cutZ s), numI (cutZ (cutZ s)), noText⟩ (noText_le _)) (trivial) ?_ | refine den_callR ?_ (c_impl_FormatCall ⟨cutA s, cutA (cutZ s), numI (cutZ (cutZ s)), noText⟩ (noText_le _)) (trivial) ?_ | refine den_call ?_ (.ofR (c_impl_FormatCall ⟨cutA s, cutA (cutZ s), numI (cutZ (cutZ s)), noText⟩ (noText_le _))) (trivial) ?_); (focus (simp only [VC.den, E.den, dEq, gsH_nil, and_true, cut3, numD]; try exact rfl)); (simp only [cA]))
  refine den_ite (fun h => den_ret ?_) (fun h => den_ret ?_)
  ·simp only [E.den, dEq, iEq, sEq, cut3, numD] at h
   have hn : ¬ (callB (candI s) = true ∧ callT (candI s) = s) := by rw [hX]; grind
   rw [rc_no hn]; rfl
  ·simp only [E.den, dEq, iEq, sEq, cut3, numD] at h
   have hy : callB (candI s) = true ∧ callT (candI s) = s := by rw [hX]; grind
   rw [rc_yes hy, hX]; rfl
 simp only [E.den, dEq, iEq, sEq, cut3, mPut_eq] at g1
 have g1 : cutA s ≠ mPut := by simpa using g1
 refine den_ite (fun g2 => ?_) (fun g2 => ?_)
 ·simp only [E.den, dEq, iEq, sEq, cut3, mGet_eq] at g2
  have g2 : cutA s = mGet := by simpa using g2
  have hX : candI s = ⟨cutA s, cutZ s, 0, noText⟩ := by unfold candI; rw [if_neg g1, if_pos g2]
  ((first | refine den_call ?_ (c_impl_IsCall ⟨cutA s, cutZ s, 0, noText⟩) (trivial) ?_ | refine den_callR ?_ (c_impl_IsCall ⟨cutA s, cutZ s, 0, noText⟩) (trivial) ?_ | refine den_call ?_ (.ofR (c_impl_IsCall ⟨cutA s, cutZ s, 0, noText⟩)) (trivial) ?_); (focus (simp only [VC.den, E.den, dEq, gsH_nil, and_true, cut3, numD]; try exact rfl)); (simp only [cA]))
  ((first | refine den_call ?_ (c_impl_FormatCall ⟨cutA s, cutZ s, 0, noText⟩ (noText_le _)) (trivial) ?_ | refine den_callR ?_ (c_impl_FormatCall ⟨cutA s, cutZ s, 0, noText⟩ (noText_le _)) (trivial) ?_ | refine den_call ?_ (.ofR (c_impl_FormatCall ⟨cutA s, cutZ s, 0, noText⟩ (noText_le _))) (trivial) ?_); (focus (simp only [VC.den, E.den, dEq, gsH_nil, and_true, cut3, numD]; try exact rfl)); (simp only [cA]))
  refine den_ite (fun h => den_ret ?_) (fun h => den_ret ?_)
  ·simp only [E.den, dEq, iEq, sEq, cut3, numD] at h
   have hn : ¬ (callB (candI s) = true ∧ callT (candI s) = s) := by rw [hX]; grind
   rw [rc_no hn]; rfl
  ·simp only [E.den, dEq, iEq, sEq, cut3, numD] at h
   have hy : callB (candI s) = true ∧ callT (candI s) = s := by rw [hX]; grind
   rw [rc_yes hy, hX]; rfl
 simp only [E.den, dEq, iEq, sEq, cut3, mGet_eq] at g2
 have g2 : cutA s ≠ mGet := by simpa using g2
 refine den_ite (fun g3 => ?_) (fun g3 => ?_)
 ·simp only [E.den, dEq, iEq, sEq, cut3, mHear_eq] at g3
  have g3 : cutA s = mHear := by simpa using g3
  ((first | refine den_call ?_ (c_impl_ParseNumber (cutZ s)) (ty_numD _) ?_ | refine den_callR ?_ (c_impl_ParseNumber (cutZ s)) (ty_numD _) ?_ | refine den_call ?_ (.ofR (c_impl_ParseNumber (cutZ s))) (ty_numD _) ?_); (focus (simp only [VC.den, E.den, dEq, gsH_nil, and_true, cut3]; try exact rfl)); (simp only [cA]))
  have hX : candI s = ⟨cutA s, noText, numI (cutZ s), noText⟩ := by unfold candI; rw [if_neg g1, if_neg g2, if_pos g3]
  ((first | refine den_call ?_ (c_impl_IsCall ⟨cutA s, noText, numI (cutZ s), noText⟩) (trivial) ?_ | refine den_callR ?_ (c_impl_IsCall ⟨cutA s, noText, numI (cutZ s), noText⟩) (trivial) ?_ | refine den_call ?_ (.ofR (c_impl_IsCall ⟨cutA s, noText, numI (cutZ s), noText⟩)) (trivial) ?_); (focus (simp only [VC.den, E.den, dEq, gsH_nil, and_true, cut3, numD]; try exact rfl)); (simp only [cA]))
  ((first | refine den_call ?_ (c_impl_FormatCall ⟨cutA s, noText, numI (cutZ s), noText⟩ (noText_le _)) (trivial) ?_ | refine den_callR ?_ (c_impl_FormatCall ⟨cutA s, noText, numI (cutZ s), noText⟩ (noText_le _)) (trivial) ?_ | refine den_call ?_ (.ofR (c_impl_FormatCall ⟨cutA s, noText, numI (cutZ s), noText⟩ (noText_le _))) (trivial) ?_); (focus (simp only [VC.den, E.den, dEq, gsH_nil, and_true, cut3, numD]; try exact rfl)); (simp only [cA]))
  refine den_ite (fun h => den_ret ?_) (fun h => den_ret ?_)
  ·simp only [E.den, dEq, iEq, sEq, cut3, numD] at h
   have hn : ¬ (callB (candI s) = true ∧ callT (candI s) = s) := by rw [hX]; grind
   rw [rc_no hn]; rfl
  ·simp only [E.den, dEq, iEq, sEq, cut3, numD] at h
   have hy : callB (candI s) = true ∧ callT (candI s) = s := by rw [hX]; grind
   rw [rc_yes hy, hX]; rfl
 simp only [E.den, dEq, iEq, sEq, cut3, mHear_eq] at g3
 have g3 : cutA s ≠ mHear := by simpa using g3
 refine den_ite (fun g4 => ?_) (fun g4 => ?_)
 ·simp only [E.den, dEq, iEq, sEq, cut3, mLoad_eq] at g4
  have g4 : cutA s = mLoad := by simpa using g4
  have hX : candI s = ⟨cutA s, noText, 0, cutZ s⟩ := by unfold candI; rw [if_neg g1, if_neg g2, if_neg g3, if_pos g4]
  ((first | refine den_call ?_ (c_impl_IsCall ⟨cutA s, noText, 0, cutZ s⟩) (trivial) ?_ | refine den_callR ?_ (c_impl_IsCall ⟨cutA s, noText, 0, cutZ s⟩) (trivial) ?_ | refine den_call ?_ (.ofR (c_impl_IsCall ⟨cutA s, noText, 0, cutZ s⟩)) (trivial) ?_); (focus (simp only [VC.den, E.den, dEq, gsH_nil, and_true, cut3, numD]; try exact rfl)); (simp only [cA]))
  ((first | refine den_call ?_ (c_impl_FormatCall ⟨cutA s, noText, 0, cutZ s⟩ hs3) (trivial) ?_ | refine den_callR ?_ (c_impl_FormatCall ⟨cutA s, noText, 0, cutZ s⟩ hs3) (trivial) ?_ | refine den_call ?_ (.ofR (c_impl_FormatCall ⟨cutA s, noText, 0, cutZ s⟩ hs3)) (trivial) ?_); (focus (simp only [VC.den, E.den, dEq, gsH_nil, and_true, cut3, numD]; try exact rfl)); (simp only [cA]))
  refine den_ite (fun h => den_ret ?_) (fun h => den_ret ?_)
  ·simp only [E.den, dEq, iEq, sEq, cut3, numD] at h
   have hn : ¬ (callB (candI s) = true ∧ callT (candI s) = s) := by rw [hX]; grind
   rw [rc_no hn]; rfl
  ·simp only [E.den, dEq, iEq, sEq, cut3, numD] at h
   have hy : callB (candI s) = true ∧ callT (candI s) = s := by rw [hX]; grind
   rw [rc_yes hy, hX]; rfl
 simp only [E.den, dEq, iEq, sEq, cut3, mLoad_eq] at g4
 have g4 : cutA s ≠ mLoad := by simpa using g4
 have hX : candI s = ⟨cutA s, noText, 0, noText⟩ := by unfold candI; rw [if_neg g1, if_neg g2, if_neg g3, if_neg g4]
 ((first | refine den_call ?_ (c_impl_IsCall ⟨cutA s, noText, 0, noText⟩) (trivial) ?_ | refine den_callR ?_ (c_impl_IsCall ⟨cutA s, noText, 0, noText⟩) (trivial) ?_ | refine den_call ?_ (.ofR (c_impl_IsCall ⟨cutA s, noText, 0, noText⟩)) (trivial) ?_); (focus (simp only [VC.den, E.den, dEq, gsH_nil, and_true, cut3, numD]; try exact rfl)); (simp only [cA]))
 ((first | refine den_call ?_ (c_impl_FormatCall ⟨cutA s, noText, 0, noText⟩ (noText_le _)) (trivial) ?_ | refine den_callR ?_ (c_impl_FormatCall ⟨cutA s, noText, 0, noText⟩ (noText_le _)) (trivial) ?_ | refine den_call ?_ (.ofR (c_impl_FormatCall ⟨cutA s, noText, 0, noText⟩ (noText_le _))) (trivial) ?_); (focus (simp only [VC.den, E.den, dEq, gsH_nil, and_true, cut3, numD]; try exact rfl)); (simp only [cA]))
 refine den_ite (fun h => den_ret ?_) (fun h => den_ret ?_)
 ·simp only [E.den, dEq, iEq, sEq, cut3, numD] at h
  have hn : ¬ (callB (candI s) = true ∧ callT (candI s) = s) := by rw [hX]; grind
  rw [rc_no hn]; rfl
 ·simp only [E.den, dEq, iEq, sEq, cut3, numD] at h
  have hy : callB (candI s) = true ∧ callT (candI s) = s := by rw [hX]; grind
  rw [rc_yes hy, hX]; rfl
theorem c_spec_ParseCall (s : ByteArray) (hs : s.size ≤ 1048576) : Fun Tryz.prog 43 none [.str s] (.tup [enc (rcV s), .bool (rcB s)]) [] := by
 refine Fun.ofV vc_spec_ParseCall_ok ty_spec_ParseCall_ok rfl ?_ (fun hfit => ?_)
 ·exact ⟨trivial, trivial⟩
 unfold vc_spec_ParseCall
 have hs1 : s.size < 4294967281 := by omega
 ((first | refine den_call ?_ (cS_SplitAt s tSp (by decide) (by decide) hs1) (ty_strS _) ?_ | refine den_callR ?_ (cS_SplitAt s tSp (by decide) (by decide) hs1) (ty_strS _) ?_ | refine den_call ?_ (.ofR (cS_SplitAt s tSp (by decide) (by decide) hs1)) (ty_strS _) ?_); (focus (simp only [VC.den, E.den, dEq, gsH_nil, and_true]; try exact rfl)); (simp only [cA]))
 have hno := fun h => rc_noS (s := s) h
 have hyes := fun h => rc_yesS (s := s) h
 have hd1 := drop_join_size s 1
 have hps := pieces_size (s := s) (sep := tSp) (by decide)
 have hne : pieces s tSp ≠ [] := by
  have := (join_split (sep := tSp.data.toList) (by decide) _ s.data.toList (Nat.le_refl _)).2
  unfold pieces
  simpa using this
 generalize pieces s tSp = p at hno hyes hd1 hps hne ⊢
 have hpos := List.length_pos_iff.2 hne
 have hpl := hps.1
 have hz : arI .sub .i64 (p.length : Int) 1 = ((p.length - 1 : Nat) : Int) := by rw [ar_sub (by omega) (by omega)]; omega
 have hlt : (((p.length - 1 : Nat) : Int)).toNat = p.length - 1 := Int.toNat_natCast _
 refine den_cond (fun _ => ?_) ?_
 ·simp only [E.den, dEq, iEq, sEq]; simp; omega
 refine den_cond (fun _ => ?_) ?_
 ·simp only [E.den, dEq, iEq, sEq, hz]; simp; omega
 ((first | refine den_call ?_ (c_spec_ParseNumber (lastP p)) (ty_numD _) ?_ | refine den_callR ?_ (c_spec_ParseNumber (lastP p)) (ty_numD _) ?_ | refine den_call ?_ (.ofR (c_spec_ParseNumber (lastP p))) (ty_numD _) ?_); (focus (simp only [VC.den, E.den, dEq, gsH_nil, and_true, row_str, cells_str, hz, hlt]; try exact rfl)); (simp only [cA]))
 refine den_cond (fun _ => ?_) ?_
 ·simp only [E.den, dEq, iEq, sEq]; simp; omega
 refine den_ite (fun g2 => ?_) (fun g2 => ?_)
 ·simp only [E.den, dEq, iEq, sEq, row_str, cells_str, Int.toNat_zero, mGet_eq] at g2
  have g2 : nth p 0 = mGet := by simpa using g2
  have hX : candS p = ⟨nth p 0, lastP p, 0, noText⟩ := by unfold candS; rw [if_pos g2]
  ((first | refine den_call ?_ (c_spec_FormatCall ⟨nth p 0, lastP p, 0, noText⟩ (noText_le _)) (trivial) ?_ | refine den_callR ?_ (c_spec_FormatCall ⟨nth p 0, lastP p, 0, noText⟩ (noText_le _)) (trivial) ?_ | refine den_call ?_ (.ofR (c_spec_FormatCall ⟨nth p 0, lastP p, 0, noText⟩ (noText_le _))) (trivial) ?_); (focus (simp only [VC.den, E.den, dEq, gsH_nil, and_true, row_str, cells_str, Int.toNat_zero, numD, hz, hlt]; try exact rfl)); (simp only [cA]))
  refine den_ite (fun h => den_ret ?_) (fun h => den_ret ?_)
  ·simp only [E.den, dEq, iEq, sEq, row_str, cells_str, Int.toNat_zero, numD, hz, hlt] at h
   have hn : ¬ (callT (candS p) = s ∧ s ≠ noText) := by rw [hX]; unfold noText at *; grind
   rw [hno hn]; rfl
  ·simp only [E.den, dEq, iEq, sEq, row_str, cells_str, Int.toNat_zero, numD, hz, hlt] at h
   have hy : callT (candS p) = s ∧ s ≠ noText := by rw [hX]; unfold noText at *; grind
   rw [hyes hy, hX]; simp only [E.den, dEq, iEq, sEq, row_str, cells_str, Int.toNat_zero, numD, hz, hlt]; rfl
 simp only [E.den, dEq, iEq, sEq, row_str, cells_str, Int.toNat_zero, mGet_eq] at g2
 have g2 : nth p 0 ≠ mGet := by simpa using g2
 refine den_ite (fun g1 => ?_) (fun g1 => ?_)
 ·simp only [E.den, dEq, iEq, sEq, row_str, cells_str, Int.toNat_zero, mPut_eq] at g1
  have g1 : nth p 0 = mPut := by simpa using g1
  have hm : (if (1 : Int) < ((p.length - 1 : Nat) : Int) then (1 : Int) else ((p.length - 1 : Nat) : Int)) = ((min 1 (p.length - 1) : Nat) : Int) := by split <;> omega
  ((first | refine den_call ?_ (c_spec_l1Min 1 ((p.length - 1 : Nat) : Int)) (rfl) ?_ | refine den_callR ?_ (c_spec_l1Min 1 ((p.length - 1 : Nat) : Int)) (rfl) ?_ | refine den_call ?_ (.ofR (c_spec_l1Min 1 ((p.length - 1 : Nat) : Int))) (rfl) ?_); (focus (simp only [VC.den, E.den, dEq, gsH_nil, and_true, hz]; try exact rfl)); (simp only [cA]))
  rw [hm]
  have hz2 : arI .sub .i64 (p.length : Int) ((min 1 (p.length - 1) : Nat) : Int) = ((p.length - min 1 (p.length - 1) : Nat) : Int) := by rw [ar_sub (by omega) (by omega)]; omega
  have hcut : cutD (encS p) 1 ((p.length - min 1 (p.length - 1) : Nat) : Int) = encS ((p.take (p.length - min 1 (p.length - 1))).drop 1) := by
   simp only [cutD, encS, Int.toNat_natCast, Int.toNat_one, List.map_drop, List.map_take, D.sl.injEq]
   rw [List.drop_take]
  have hjl : ((p.take (p.length - min 1 (p.length - 1))).drop 1).length ≤ 1048577 := by simp; omega
  have hjs : (joinB ((p.take (p.length - min 1 (p.length - 1))).drop 1) tSp).size ≤ 140737488355328 := by
   refine Nat.le_trans (joinB_bound (n := 1048576) fun k hk => ?_) ?_
   ·have hm := nth_mem hk
    have := hps.2 _ (List.mem_of_mem_take (List.mem_of_mem_drop hm))
    omega
   ·have : tSp.size = 1 := rfl
    rw [this]
    omega
  refine den_cond (fun _ => ?_) ?_
  ·simp only [E.den, dEq, iEq, sEq, hz2]; simp; omega
  ((first | refine den_call ?_ (c_spec_JoinWith ((p.take (p.length - min 1 (p.length - 1))).drop 1) tSp (by omega) hjs) (trivial) ?_ | refine den_callR ?_ (c_spec_JoinWith ((p.take (p.length - min 1 (p.length - 1))).drop 1) tSp (by omega) hjs) (trivial) ?_ | refine den_call ?_ (.ofR (c_spec_JoinWith ((p.take (p.length - min 1 (p.length - 1))).drop 1) tSp (by omega) hjs)) (trivial) ?_); (focus (simp only [VC.den, E.den, dEq, gsH_nil, and_true, hz2, hcut]; try exact rfl)); (simp only [cA]))
  have hX : candS p = ⟨nth p 0, joinB ((p.take (p.length - min 1 (p.length - 1))).drop 1) tSp, numI (lastP p), noText⟩ := by unfold candS; rw [if_neg g2, if_pos g1]
  ((first | refine den_call ?_ (c_spec_FormatCall ⟨nth p 0, joinB ((p.take (p.length - min 1 (p.length - 1))).drop 1) tSp, numI (lastP p), noText⟩ (noText_le _)) (trivial) ?_ | refine den_callR ?_ (c_spec_FormatCall ⟨nth p 0, joinB ((p.take (p.length - min 1 (p.length - 1))).drop 1) tSp, numI (lastP p), noText⟩ (noText_le _)) (trivial) ?_ | refine den_call ?_ (.ofR (c_spec_FormatCall ⟨nth p 0, joinB ((p.take (p.length - min 1 (p.length - 1))).drop 1) tSp, numI (lastP p), noText⟩ (noText_le _))) (trivial) ?_); (focus (simp only [VC.den, E.den, dEq, gsH_nil, and_true, row_str, cells_str, Int.toNat_zero, numD, hz, hlt]; try exact rfl)); (simp only [cA]))
  refine den_ite (fun h => den_ret ?_) (fun h => den_ret ?_)
  ·simp only [E.den, dEq, iEq, sEq, row_str, cells_str, Int.toNat_zero, numD, hz, hlt] at h
   have hn : ¬ (callT (candS p) = s ∧ s ≠ noText) := by rw [hX]; unfold noText at *; grind
   rw [hno hn]; rfl
  ·simp only [E.den, dEq, iEq, sEq, row_str, cells_str, Int.toNat_zero, numD, hz, hlt] at h
   have hy : callT (candS p) = s ∧ s ≠ noText := by rw [hX]; unfold noText at *; grind
   rw [hyes hy, hX]; simp only [E.den, dEq, iEq, sEq, row_str, cells_str, Int.toNat_zero, numD, hz, hlt]; rfl
 simp only [E.den, dEq, iEq, sEq, row_str, cells_str, Int.toNat_zero, mPut_eq] at g1
 have g1 : nth p 0 ≠ mPut := by simpa using g1
 refine den_ite (fun g3 => ?_) (fun g3 => ?_)
 ·simp only [E.den, dEq, iEq, sEq, row_str, cells_str, Int.toNat_zero, mHear_eq] at g3
  have g3 : nth p 0 = mHear := by simpa using g3
  have hX : candS p = ⟨nth p 0, noText, numI (lastP p), noText⟩ := by unfold candS; rw [if_neg g2, if_neg g1, if_pos g3]
  ((first | refine den_call ?_ (c_spec_FormatCall ⟨nth p 0, noText, numI (lastP p), noText⟩ (noText_le _)) (trivial) ?_ | refine den_callR ?_ (c_spec_FormatCall ⟨nth p 0, noText, numI (lastP p), noText⟩ (noText_le _)) (trivial) ?_ | refine den_call ?_ (.ofR (c_spec_FormatCall ⟨nth p 0, noText, numI (lastP p), noText⟩ (noText_le _))) (trivial) ?_); (focus (simp only [VC.den, E.den, dEq, gsH_nil, and_true, row_str, cells_str, Int.toNat_zero, numD, hz, hlt]; try exact rfl)); (simp only [cA]))
  refine den_ite (fun h => den_ret ?_) (fun h => den_ret ?_)
  ·simp only [E.den, dEq, iEq, sEq, row_str, cells_str, Int.toNat_zero, numD, hz, hlt] at h
   have hn : ¬ (callT (candS p) = s ∧ s ≠ noText) := by rw [hX]; unfold noText at *; grind
   rw [hno hn]; rfl
  ·simp only [E.den, dEq, iEq, sEq, row_str, cells_str, Int.toNat_zero, numD, hz, hlt] at h
   have hy : callT (candS p) = s ∧ s ≠ noText := by rw [hX]; unfold noText at *; grind
   rw [hyes hy, hX]; simp only [E.den, dEq, iEq, sEq, row_str, cells_str, Int.toNat_zero, numD, hz, hlt]; rfl
 simp only [E.den, dEq, iEq, sEq, row_str, cells_str, Int.toNat_zero, mHear_eq] at g3
 have g3 : nth p 0 ≠ mHear := by simpa using g3
 refine den_ite (fun g4 => ?_) (fun g4 => ?_)
 ·simp only [E.den, dEq, iEq, sEq, row_str, cells_str, Int.toNat_zero, mLoad_eq] at g4
  have g4 : nth p 0 = mLoad := by simpa using g4
  have hcut : cutD (encS p) 1 (p.length : Int) = encS (p.drop 1) := by
   simp only [cutD, encS, Int.toNat_natCast, Int.toNat_one, List.map_drop, D.sl.injEq]
   rw [List.take_of_length_le (by simp)]
  have hdl : (p.drop 1).length ≤ 140737488355328 := by simp; omega
  have hd2 : (joinB (p.drop 1) tSp).size ≤ 140737488355328 := by omega
  have hd3 : (joinB (p.drop 1) tSp).size ≤ 1048576 := by omega
  refine den_cond (fun _ => ?_) ?_
  ·simp only [E.den, dEq, iEq, sEq]; simp; omega
  ((first | refine den_call ?_ (c_spec_JoinWith (p.drop 1) tSp hdl hd2) (trivial) ?_ | refine den_callR ?_ (c_spec_JoinWith (p.drop 1) tSp hdl hd2) (trivial) ?_ | refine den_call ?_ (.ofR (c_spec_JoinWith (p.drop 1) tSp hdl hd2)) (trivial) ?_); (focus (simp only [VC.den, E.den, dEq, gsH_nil, and_true, hcut]; try exact rfl)); (simp only [cA]))
  have hX : candS p = ⟨nth p 0, noText, 0, joinB (p.drop 1) tSp⟩ := by unfold candS; rw [if_neg g2, if_neg g1, if_neg g3, if_pos g4]
  ((first | refine den_call ?_ (c_spec_FormatCall ⟨nth p 0, noText, 0, joinB (p.drop 1) tSp⟩ hd3) (trivial) ?_ | refine den_callR ?_ (c_spec_FormatCall ⟨nth p 0, noText, 0, joinB (p.drop 1) tSp⟩ hd3) (trivial) ?_ | refine den_call ?_ (.ofR (c_spec_FormatCall ⟨nth p 0, noText, 0, joinB (p.drop 1) tSp⟩ hd3)) (trivial) ?_); (focus (simp only [VC.den, E.den, dEq, gsH_nil, and_true, row_str, cells_str, Int.toNat_zero, numD, hz, hlt]; try exact rfl)); (simp only [cA]))
  refine den_ite (fun h => den_ret ?_) (fun h => den_ret ?_)
  ·simp only [E.den, dEq, iEq, sEq, row_str, cells_str, Int.toNat_zero, numD, hz, hlt] at h
   have hn : ¬ (callT (candS p) = s ∧ s ≠ noText) := by rw [hX]; unfold noText at *; grind
   rw [hno hn]; rfl
  ·simp only [E.den, dEq, iEq, sEq, row_str, cells_str, Int.toNat_zero, numD, hz, hlt] at h
   have hy : callT (candS p) = s ∧ s ≠ noText := by rw [hX]; unfold noText at *; grind
   rw [hyes hy, hX]; simp only [E.den, dEq, iEq, sEq, row_str, cells_str, Int.toNat_zero, numD, hz, hlt]; rfl
 simp only [E.den, dEq, iEq, sEq, row_str, cells_str, Int.toNat_zero, mLoad_eq] at g4
 have g4 : nth p 0 ≠ mLoad := by simpa using g4
 have hX : candS p = ⟨nth p 0, noText, 0, noText⟩ := by unfold candS; rw [if_neg g2, if_neg g1, if_neg g3, if_neg g4]
 ((first | refine den_call ?_ (c_spec_FormatCall ⟨nth p 0, noText, 0, noText⟩ (noText_le _)) (trivial) ?_ | refine den_callR ?_ (c_spec_FormatCall ⟨nth p 0, noText, 0, noText⟩ (noText_le _)) (trivial) ?_ | refine den_call ?_ (.ofR (c_spec_FormatCall ⟨nth p 0, noText, 0, noText⟩ (noText_le _))) (trivial) ?_); (focus (simp only [VC.den, E.den, dEq, gsH_nil, and_true, row_str, cells_str, Int.toNat_zero, numD, hz, hlt]; try exact rfl)); (simp only [cA]))
 refine den_ite (fun h => den_ret ?_) (fun h => den_ret ?_)
 ·simp only [E.den, dEq, iEq, sEq, row_str, cells_str, Int.toNat_zero, numD, hz, hlt] at h
  have hn : ¬ (callT (candS p) = s ∧ s ≠ noText) := by rw [hX]; unfold noText at *; grind
  rw [hno hn]; rfl
 ·simp only [E.den, dEq, iEq, sEq, row_str, cells_str, Int.toNat_zero, numD, hz, hlt] at h
  have hy : callT (candS p) = s ∧ s ≠ noText := by rw [hX]; unfold noText at *; grind
  rw [hyes hy, hX]; simp only [E.den, dEq, iEq, sEq, row_str, cells_str, Int.toNat_zero, numD, hz, hlt]; rfl
end Go.Proofs.YtjmakbnblpjkhaaGreatDoor
/- Registries: copies, finding, adding: what the program and the reference compute. -/
namespace Go.Proofs.YtjmakbnblpjkhaaGreatDoor
open Go.RowKit Go
variable [GC]
theorem c_spec_l1Texts (l : List ByteArray) (h : l.length ≤ 1048576) : FunR Tryz.prog 45 none [encS l] (encS l) [] [(0, 1)] := by
 refine FunR.ofV vc_spec_l1Texts_ok ty_spec_l1Texts_ok rt_spec_l1Texts_ok rfl ?_ (fun hfit => ?_)
 ·exact ⟨ty_strS l, trivial⟩
 unfold vc_spec_l1Texts
 refine den_cond (fun _ => ?_) (den_ret ?_)
 ·simp [E.den]; omega
 ·simp [E.den, encS]
end Go.Proofs.YtjmakbnblpjkhaaGreatDoor
/- Contracts: texts read as events, by the program and by the reference. -/
namespace Go.Proofs.YtjmakbnblpjkhaaGreatDoor
open Go.RowKit Go
variable [GC]
theorem re_no {s : ByteArray} (h : ¬ (eventB (evI s) = true ∧ eventT (evI s) = s)) : D.tup [enc (reV s), .bool (reB s)] = .tup [enc noEvent, .bool false] := by
 have hb : reB s = false := by
  unfold reB
  simpa using h
 rw [reV, hb]; rfl
theorem re_yes {s : ByteArray} (h : eventB (evI s) = true ∧ eventT (evI s) = s) : D.tup [enc (reV s), .bool (reB s)] = .tup [enc (evI s), .bool true] := by
 have hb : reB s = true := by
  unfold reB
  simpa using h
 rw [reV, hb]; rfl
theorem re_noS {s : ByteArray} (h : ¬ (2 ≤ (pieces s tSp).length ∧ eventT (evS (pieces s tSp)) = s)) : D.tup [enc (reV s), .bool (reB s)] = .tup [enc noEvent, .bool false] := by
 have hb : reB s = false := by
  cases e : reB s with
  | false => rfl
  | true => exact absurd ((re_spec s).1.1 e) h
 rw [reV, hb]; rfl
theorem re_yesS {s : ByteArray} (h : 2 ≤ (pieces s tSp).length ∧ eventT (evS (pieces s tSp)) = s) : D.tup [enc (reV s), .bool (reB s)] = .tup [enc (evS (pieces s tSp)), .bool true] := by
 have hb : reB s = true := (re_spec s).1.2 h
 rw [(re_spec s).2 hb, hb]
theorem zeroC_le : zeroC.method.size ≤ 1048576 ∧ zeroC.text.size ≤ 1048576 := by decide
theorem kindW_at {k : Nat} (h : k < 5) {s : ByteArray} (e : nth words (k + 1) = s) : kindW s = ((k + 1 : Nat) : Int) := by
 have := (kindW_of (k := ((k + 1 : Nat) : Int)) (by omega) (by omega)).1
 rw [Int.toNat_natCast, e] at this
 exact this
theorem kindW_none {s : ByteArray} (h : ∀ i, i < 5 → nth words (i + 1) ≠ s) : kindW s = 0 := by
 unfold kindW
 rw [if_neg (fun e => h 0 (by omega) e.symm), if_neg (fun e => h 1 (by omega) e.symm), if_neg (fun e => h 2 (by omega) e.symm), if_neg (fun e => h 3 (by omega) e.symm), if_neg (fun e => h 4 (by omega) e.symm)]
theorem ty_words : HasVT tbl.tab (.one (.agg [.str, .str, .str, .str, .str, .str])) (.agg (words.map .str)) := ⟨trivial, trivial, trivial, trivial, trivial, trivial, trivial⟩
theorem cR_impl_ParseEvent [HasMax] [HasPow] [HasErr] [HasWords] (s : ByteArray) (hs : s.size ≤ 1048576) : FunR Tryz.prog 12 none [.str s] (.tup [enc (reV s), .bool (reB s)]) [] [(6, 1)] := by
 refine FunR.ofV vc_impl_ParseEvent_ok ty_impl_ParseEvent_ok rt_impl_ParseEvent_ok rfl ?_ (fun hfit => ?_)
 ·exact ⟨trivial, trivial⟩
 unfold vc_impl_ParseEvent
 have hz := cutZ_size s
 have hzz := cutZ_size (cutZ s)
 have hs1 : s.size < 4294967281 := by omega
 have hs2 : (cutZ s).size < 4294967281 := by omega
 have hs3 : (cutZ (cutZ s)).size ≤ 1048576 := by omega
 have hs4 : (cutZ (cutZ s)).size < 4294967281 := by omega
 have hrc := rcV_size (cutZ (cutZ s))
 have hm3 : (rcV (cutZ (cutZ s))).method.size ≤ 1048576 := by omega
 have ht3 : (rcV (cutZ (cutZ s))).text.size ≤ 1048576 := by omega
 ((first | refine den_call ?_ (c_Cut3 s hs1) (⟨trivial, trivial, trivial, trivial⟩) ?_ | refine den_callR ?_ (c_Cut3 s hs1) (⟨trivial, trivial, trivial, trivial⟩) ?_ | refine den_call ?_ (.ofR (c_Cut3 s hs1)) (⟨trivial, trivial, trivial, trivial⟩) ?_); (focus (simp only [VC.den, E.den, dEq, gsH_nil, and_true]; try exact rfl)); (simp only [cA]))
 ((first | refine den_call ?_ (c_Cut3 (cutZ s) hs2) (⟨trivial, trivial, trivial, trivial⟩) ?_ | refine den_callR ?_ (c_Cut3 (cutZ s) hs2) (⟨trivial, trivial, trivial, trivial⟩) ?_ | refine den_call ?_ (.ofR (c_Cut3 (cutZ s) hs2)) (⟨trivial, trivial, trivial, trivial⟩) ?_); (focus (simp only [VC.den, E.den, dEq, gsH_nil, and_true, cut3]; try exact rfl)); (simp only [cA]))
 refine den_for 5 (fun k => [.int .i64 ((k + 1 : Nat) : Int)]) (fun k => ∀ i, i < k → nth words (i + 1) ≠ cutA s) rfl (fun i hi => absurd hi (by omega)) ?_
 intro k hk hI _
 simp only [cA]
 refine den_ite (fun h2 => ?_) (fun h2 => ?_)
 ·simp only [E.den, dEq, iEq, sEq] at h2
  have h2 : k < 5 := by simp at h2; omega
  refine den_glob (.agg (words.map .str)) (glob_strs (by decide) HasWords.h) ty_words (fun _ => ?_) ?_
  ·simp only [E.den, List.getD_cons_zero, List.getD_cons_succ, D.toI_int]; omega
  simp only [cA]
  refine den_ite (fun h3 => ?_) (fun h3 => ?_)
  ·simp only [E.den, dEq, iEq, sEq, cut3, sel_strs] at h3
   have h3 : nth words (k + 1) ≠ cutA s := by simpa using h3
   refine den_next h2 ?_ fun i hi => ?_
   ·simp only [E.den, dEq, iEq, sEq]
    rw [ar_add (by omega) (by omega)]; rfl
   ·rcases Nat.lt_or_ge i k with h | h
    ·exact hI i h
    ·obtain rfl : i = k := by omega
     exact h3
  simp only [E.den, dEq, iEq, sEq, cut3, sel_strs] at h3
  have h3 : nth words (k + 1) = cutA s := by simpa using h3
  have hkw := kindW_at h2 h3
  refine den_ite (fun g1 => ?_) (fun g1 => ?_)
  ·simp only [E.den, dEq, iEq, sEq] at g1
   have g1 : ((k + 1 : Nat) : Int) = 3 := by simp at g1; omega
   have g5 : ¬ ((k + 1 : Nat) : Int) = 5 := by omega
   ((first | refine den_call ?_ (c_impl_ParseCall (cutZ (cutZ s)) hs3) (ty_rc _) ?_ | refine den_callR ?_ (c_impl_ParseCall (cutZ (cutZ s)) hs3) (ty_rc _) ?_ | refine den_call ?_ (.ofR (c_impl_ParseCall (cutZ (cutZ s)) hs3)) (ty_rc _) ?_); (focus (simp only [VC.den, E.den, dEq, gsH_nil, and_true, cut3]; try exact rfl)); (simp only [cA]))
   have hX : evI s = ⟨((k + 1 : Nat) : Int), cutA (cutZ s), rcV (cutZ (cutZ s)), []⟩ := by unfold evI; rw [hkw, if_pos g1, if_neg g5]
   ((first | refine den_call ?_ (c_impl_IsEvent ⟨((k + 1 : Nat) : Int), cutA (cutZ s), rcV (cutZ (cutZ s)), []⟩) (trivial) ?_ | refine den_callR ?_ (c_impl_IsEvent ⟨((k + 1 : Nat) : Int), cutA (cutZ s), rcV (cutZ (cutZ s)), []⟩) (trivial) ?_ | refine den_call ?_ (.ofR (c_impl_IsEvent ⟨((k + 1 : Nat) : Int), cutA (cutZ s), rcV (cutZ (cutZ s)), []⟩)) (trivial) ?_); (focus (simp only [VC.den, E.den, dEq, gsH_nil, and_true, cut3, cells_Call]; try exact rfl)); (simp only [cA]))
   ((first | refine den_call ?_ (c_impl_FormatEvent ⟨((k + 1 : Nat) : Int), cutA (cutZ s), rcV (cutZ (cutZ s)), []⟩ hm3 ht3) (trivial) ?_ | refine den_callR ?_ (c_impl_FormatEvent ⟨((k + 1 : Nat) : Int), cutA (cutZ s), rcV (cutZ (cutZ s)), []⟩ hm3 ht3) (trivial) ?_ | refine den_call ?_ (.ofR (c_impl_FormatEvent ⟨((k + 1 : Nat) : Int), cutA (cutZ s), rcV (cutZ (cutZ s)), []⟩ hm3 ht3)) (trivial) ?_); (focus (simp only [VC.den, E.den, dEq, gsH_nil, and_true, cut3, cells_Call]; try exact rfl)); (simp only [cA]))
   refine den_ite (fun h => den_ret ?_) (fun h => den_ret ?_)
   ·simp only [E.den, dEq, iEq, sEq, cut3, cells_Call] at h
    have hn : ¬ (eventB (evI s) = true ∧ eventT (evI s) = s) := by rw [hX]; grind
    rw [re_no hn]; rfl
   ·simp only [E.den, dEq, iEq, sEq, cut3, cells_Call] at h
    have hy : eventB (evI s) = true ∧ eventT (evI s) = s := by rw [hX]; grind
    rw [re_yes hy, hX]; rfl
  simp only [E.den, dEq, iEq, sEq] at g1
  have g1 : ¬ ((k + 1 : Nat) : Int) = 3 := by simp at g1; omega
  refine den_ite (fun g2 => ?_) (fun g2 => ?_)
  ·simp only [E.den, dEq, iEq, sEq] at g2
   have g2 : ((k + 1 : Nat) : Int) = 5 := by simp at g2; omega
   ((first | refine den_call ?_ (cR_Split (cutZ (cutZ s)) tSp hs4 (by decide)) (ty_strS _) ?_ | refine den_callR ?_ (cR_Split (cutZ (cutZ s)) tSp hs4 (by decide)) (ty_strS _) ?_ | refine den_call ?_ (.ofR (cR_Split (cutZ (cutZ s)) tSp hs4 (by decide))) (ty_strS _) ?_); (focus (simp only [VC.den, E.den, dEq, gsH_nil, and_true, cut3, tSp_eq]; try exact rfl)); (simp only [cA]))
   have hX : evI s = ⟨((k + 1 : Nat) : Int), cutA (cutZ s), zeroC, pieces (cutZ (cutZ s)) tSp⟩ := by unfold evI; rw [hkw, if_neg g1, if_pos g2]
   ((first | refine den_call ?_ (c_impl_IsEvent ⟨((k + 1 : Nat) : Int), cutA (cutZ s), zeroC, pieces (cutZ (cutZ s)) tSp⟩) (trivial) ?_ | refine den_callR ?_ (c_impl_IsEvent ⟨((k + 1 : Nat) : Int), cutA (cutZ s), zeroC, pieces (cutZ (cutZ s)) tSp⟩) (trivial) ?_ | refine den_call ?_ (.ofR (c_impl_IsEvent ⟨((k + 1 : Nat) : Int), cutA (cutZ s), zeroC, pieces (cutZ (cutZ s)) tSp⟩)) (trivial) ?_); (focus (simp only [VC.den, E.den, dEq, gsH_nil, and_true, cut3, cells_Call]; try exact rfl)); (simp only [cA]))
   ((first | refine den_call ?_ (c_impl_FormatEvent ⟨((k + 1 : Nat) : Int), cutA (cutZ s), zeroC, pieces (cutZ (cutZ s)) tSp⟩ zeroC_le.1 zeroC_le.2) (trivial) ?_ | refine den_callR ?_ (c_impl_FormatEvent ⟨((k + 1 : Nat) : Int), cutA (cutZ s), zeroC, pieces (cutZ (cutZ s)) tSp⟩ zeroC_le.1 zeroC_le.2) (trivial) ?_ | refine den_call ?_ (.ofR (c_impl_FormatEvent ⟨((k + 1 : Nat) : Int), cutA (cutZ s), zeroC, pieces (cutZ (cutZ s)) tSp⟩ zeroC_le.1 zeroC_le.2)) (trivial) ?_); (focus (simp only [VC.den, E.den, dEq, gsH_nil, and_true, cut3, cells_Call]; try exact rfl)); (simp only [cA]))
   refine den_ite (fun h => den_ret ?_) (fun h => den_ret ?_)
   ·simp only [E.den, dEq, iEq, sEq, cut3, cells_Call] at h
    have hn : ¬ (eventB (evI s) = true ∧ eventT (evI s) = s) := by rw [hX]; grind
    rw [re_no hn]; rfl
   ·simp only [E.den, dEq, iEq, sEq, cut3, cells_Call] at h
    have hy : eventB (evI s) = true ∧ eventT (evI s) = s := by rw [hX]; grind
    rw [re_yes hy, hX]; rfl
  simp only [E.den, dEq, iEq, sEq] at g2
  have g2 : ¬ ((k + 1 : Nat) : Int) = 5 := by simp at g2; omega
  have hX : evI s = ⟨((k + 1 : Nat) : Int), cutA (cutZ s), zeroC, []⟩ := by unfold evI; rw [hkw, if_neg g1, if_neg g2]
  ((first | refine den_call ?_ (c_impl_IsEvent ⟨((k + 1 : Nat) : Int), cutA (cutZ s), zeroC, []⟩) (trivial) ?_ | refine den_callR ?_ (c_impl_IsEvent ⟨((k + 1 : Nat) : Int), cutA (cutZ s), zeroC, []⟩) (trivial) ?_ | refine den_call ?_ (.ofR (c_impl_IsEvent ⟨((k + 1 : Nat) : Int), cutA (cutZ s), zeroC, []⟩)) (trivial) ?_); (focus (simp only [VC.den, E.den, dEq, gsH_nil, and_true, cut3, cells_Call]; try exact rfl)); (simp only [cA]))
  ((first | refine den_call ?_ (c_impl_FormatEvent ⟨((k + 1 : Nat) : Int), cutA (cutZ s), zeroC, []⟩ zeroC_le.1 zeroC_le.2) (trivial) ?_ | refine den_callR ?_ (c_impl_FormatEvent ⟨((k + 1 : Nat) : Int), cutA (cutZ s), zeroC, []⟩ zeroC_le.1 zeroC_le.2) (trivial) ?_ | refine den_call ?_ (.ofR (c_impl_FormatEvent ⟨((k + 1 : Nat) : Int), cutA (cutZ s), zeroC, []⟩ zeroC_le.1 zeroC_le.2)) (trivial) ?_); (focus (simp only [VC.den, E.den, dEq, gsH_nil, and_true, cut3, cells_Call]; try exact rfl)); (simp only [cA]))
  refine den_ite (fun h => den_ret ?_) (fun h => den_ret ?_)
  ·simp only [E.den, dEq, iEq, sEq, cut3, cells_Call] at h
   have hn : ¬ (eventB (evI s) = true ∧ eventT (evI s) = s) := by rw [hX]; grind
   rw [re_no hn]; rfl
  ·simp only [E.den, dEq, iEq, sEq, cut3, cells_Call] at h
   have hy : eventB (evI s) = true ∧ eventT (evI s) = s := by rw [hX]; grind
   rw [re_yes hy, hX]; rfl
 ·simp only [E.den, dEq, iEq, sEq] at h2
  obtain rfl : k = 5 := by simp at h2; omega
  have hkw := kindW_none hI
  have hn : ¬ (eventB (evI s) = true ∧ eventT (evI s) = s) := fun h => by
   have := (eventB_kind h.1).1
   have e : (evI s).kind = kindW (cutA s) := rfl
   rw [e, hkw] at this
   omega
  refine den_ret ?_
  rw [re_no hn]; rfl
def fiveE : E := .put (.put (.put (.put (.put (.nilS 9) (.ag1 (.ls ⟨#[115, 116, 97, 114, 116]⟩))) (.ag1 (.ls ⟨#[115, 116, 111, 112]⟩))) (.ag1 (.ls ⟨#[99, 97, 108, 108]⟩))) (.ag1 (.ls ⟨#[104, 101, 97, 108]⟩))) (.ag1 (.ls ⟨#[115, 119, 97, 112]⟩))
theorem fiveE_eq : (E.put (.put (.put (.put (.put (.nilS 9) (.ag1 (.ls ⟨#[115, 116, 97, 114, 116]⟩))) (.ag1 (.ls ⟨#[115, 116, 111, 112]⟩))) (.ag1 (.ls ⟨#[99, 97, 108, 108]⟩))) (.ag1 (.ls ⟨#[104, 101, 97, 108]⟩))) (.ag1 (.ls ⟨#[115, 119, 97, 112]⟩))) = fiveE := rfl
theorem fiveE_den (env : List D) : fiveE.den env = encS (words.drop 1) := rfl
theorem five_len : (words.drop 1).length = 5 := rfl
theorem five_at (k : Nat) : nth (words.drop 1) k = nth words (k + 1) := by
 simp [nth, List.getD_eq_getElem?_getD, Nat.add_comm]
def kindTo (s : ByteArray) : Nat → Int
 | 0 => 0
 | k + 1 => if nth words (k + 1) = s then ((k + 1 : Nat) : Int) else kindTo s k
theorem kindTo_five (s : ByteArray) : kindTo s 5 = kindW s := by
 unfold kindW
 simp only [kindTo]
 by_cases h1 : s = nth words 1
 ·subst h1; decide
 by_cases h2 : s = nth words 2
 ·subst h2; decide
 by_cases h3 : s = nth words 3
 ·subst h3; decide
 by_cases h4 : s = nth words 4
 ·subst h4; decide
 by_cases h5 : s = nth words 5
 ·subst h5; decide
 rw [if_neg h1, if_neg h2, if_neg h3, if_neg h4, if_neg h5, if_neg (Ne.symm h5), if_neg (Ne.symm h4), if_neg (Ne.symm h3), if_neg (Ne.symm h2), if_neg (Ne.symm h1)]
theorem c_spec_ParseEvent (s : ByteArray) (hs : s.size ≤ 1048576) : Fun Tryz.prog 11 none [.str s] (.tup [enc (reV s), .bool (reB s)]) [] := by
 refine .ofR (rt := rbt.get 11) ?_
 refine FunR.ofV vc_spec_ParseEvent_ok ty_spec_ParseEvent_ok rt_spec_ParseEvent_ok rfl ?_ (fun hfit => ?_)
 ·exact ⟨trivial, trivial⟩
 unfold vc_spec_ParseEvent
 simp only [fiveE_eq]
 have hs1 : s.size < 4294967281 := by omega
 ((first | refine den_call ?_ (cS_SplitAt s tSp (by decide) (by decide) hs1) (ty_strS _) ?_ | refine den_callR ?_ (cS_SplitAt s tSp (by decide) (by decide) hs1) (ty_strS _) ?_ | refine den_call ?_ (.ofR (cS_SplitAt s tSp (by decide) (by decide) hs1)) (ty_strS _) ?_); (focus (simp only [VC.den, E.den, dEq, gsH_nil, and_true]; try exact rfl)); (simp only [cA]))
 have hno := fun h => re_noS (s := s) h
 have hyes := fun h => re_yesS (s := s) h
 have hd2 := drop_join_size s 2
 have hps := pieces_size (s := s) (sep := tSp) (by decide)
 generalize pieces s tSp = p at hno hyes hd2 hps ⊢
 have hpl := hps.1
 refine den_ite (fun h => den_ret ?_) (fun h => ?_)
 ·simp only [E.den, dEq, iEq, sEq] at h
  have hn : ¬ (2 ≤ p.length ∧ eventT (evS p) = s) := by simp at h; omega
  rw [hno hn]; rfl
 simp only [E.den, dEq, iEq, sEq] at h
 have hl2 : 2 ≤ p.length := by simp at h; omega
 have hone : (1 : Int).toNat = 1 := rfl
 refine den_cond (fun _ => ?_) ?_
 ·simp only [E.den, dEq, iEq, sEq]; simp; omega
 refine den_for 5 (fun k => [.int .i64 k, .int .i64 (kindTo (nth p 0) k), .str (nth p 1), .str noText, .str noText, .int .i64 0, .str noText, encS ([] : List ByteArray)]) (fun _ => True) (by simp only [E.den, dEq, iEq, sEq, row_str, cells_str, hone]; rfl) trivial ?_
 intro k hk _ _
 simp only [cA]
 refine den_ite (fun h2 => ?_) (fun h2 => ?_)
 ·simp only [E.den, dEq, iEq, sEq, fiveE_den, five_len] at h2
  have h2 : k < 5 := by simp at h2; omega
  refine den_cond (fun _ => ?_) ?_
  ·simp only [E.den, dEq, iEq, sEq, fiveE_den, five_len]; simp; omega
  refine den_cond (fun _ => ?_) ?_
  ·simp only [E.den, dEq, iEq, sEq]; simp; omega
  refine den_ite (fun h3 => ?_) (fun h3 => ?_)
  ·simp only [E.den, dEq, iEq, sEq, fiveE_den, row_str, cells_str, five_at, Int.toNat_zero] at h3
   have h3 : nth words (k + 1) = nth p 0 := by simpa using h3
   refine den_next h2 ?_ trivial
   simp only [E.den, dEq, iEq, sEq, kindTo]
   rw [ar_add (by omega) (by omega), if_pos h3]; rfl
  ·simp only [E.den, dEq, iEq, sEq, fiveE_den, row_str, cells_str, five_at, Int.toNat_zero] at h3
   have h3 : nth words (k + 1) ≠ nth p 0 := by simpa using h3
   refine den_next h2 ?_ trivial
   simp only [E.den, dEq, iEq, sEq, kindTo]
   rw [ar_add (by omega) (by omega), if_neg h3]; rfl
 simp only [E.den, dEq, iEq, sEq, fiveE_den, five_len] at h2
 obtain rfl : k = 5 := by simp at h2; omega
 rw [kindTo_five]
 have hcut : cutD (encS p) 2 (p.length : Int) = encS (p.drop 2) := by
  simp only [cutD, encS, Int.toNat_natCast, List.map_drop, D.sl.injEq]
  rw [List.take_of_length_le (by simp)]
  rfl
 have hdl : (p.drop 2).length ≤ 1048576 := by simp; omega
 have hdl2 : (p.drop 2).length ≤ 140737488355328 := by omega
 have hj1 : (joinB (p.drop 2) tSp).size ≤ 140737488355328 := by omega
 have hj2 : (joinB (p.drop 2) tSp).size ≤ 1048576 := by omega
 have hrc := rcV_size (joinB (p.drop 2) tSp)
 have hm3 : (rcV (joinB (p.drop 2) tSp)).method.size ≤ 1048576 := by omega
 have ht3 : (rcV (joinB (p.drop 2) tSp)).text.size ≤ 1048576 := by omega
 refine den_ite (fun g1 => ?_) (fun g1 => ?_)
 ·simp only [E.den, dEq, iEq, sEq] at g1
  have g1 : kindW (nth p 0) = 3 := by simpa using g1
  have g5 : ¬ kindW (nth p 0) = 5 := by omega
  refine den_cond (fun _ => ?_) ?_
  ·simp only [E.den, dEq, iEq, sEq]; simp; omega
  ((first | refine den_call ?_ (c_spec_JoinWith (p.drop 2) tSp hdl2 hj1) (trivial) ?_ | refine den_callR ?_ (c_spec_JoinWith (p.drop 2) tSp hdl2 hj1) (trivial) ?_ | refine den_call ?_ (.ofR (c_spec_JoinWith (p.drop 2) tSp hdl2 hj1)) (trivial) ?_); (focus (simp only [VC.den, E.den, dEq, gsH_nil, and_true, hcut]; try exact rfl)); (simp only [cA]))
  ((first | refine den_call ?_ (c_spec_ParseCall (joinB (p.drop 2) tSp) hj2) (ty_rc _) ?_ | refine den_callR ?_ (c_spec_ParseCall (joinB (p.drop 2) tSp) hj2) (ty_rc _) ?_ | refine den_call ?_ (.ofR (c_spec_ParseCall (joinB (p.drop 2) tSp) hj2)) (ty_rc _) ?_); (focus (simp only [VC.den, E.den, dEq, gsH_nil, and_true]; try exact rfl)); (simp only [cA]))
  refine den_ite (fun g2 => ?_) (fun g2 => ?_)
  ·simp only [E.den, dEq, iEq, sEq] at g2
   exfalso
   exact g5 (by simpa using g2)
  have hX : evS p = ⟨kindW (nth p 0), nth p 1, rcV (joinB (p.drop 2) tSp), []⟩ := by unfold evS; rw [if_pos g1, if_neg g5]
  ((first | refine den_call ?_ (c_spec_FormatEvent ⟨kindW (nth p 0), nth p 1, rcV (joinB (p.drop 2) tSp), []⟩ hm3 ht3) (trivial) ?_ | refine den_callR ?_ (c_spec_FormatEvent ⟨kindW (nth p 0), nth p 1, rcV (joinB (p.drop 2) tSp), []⟩ hm3 ht3) (trivial) ?_ | refine den_call ?_ (.ofR (c_spec_FormatEvent ⟨kindW (nth p 0), nth p 1, rcV (joinB (p.drop 2) tSp), []⟩ hm3 ht3)) (trivial) ?_); (focus (simp only [VC.den, E.den, dEq, gsH_nil, and_true, row_str, cells_str, Int.toNat_zero, cells_Call, hone]; try exact rfl)); (simp only [cA]))
  refine den_ite (fun h => den_ret ?_) (fun h => den_ret ?_)
  ·simp only [E.den, dEq, iEq, sEq, row_str, cells_str, Int.toNat_zero, cells_Call, hone] at h
   have hn : ¬ (2 ≤ p.length ∧ eventT (evS p) = s) := by rw [hX]; grind
   rw [hno hn]; rfl
  ·simp only [E.den, dEq, iEq, sEq, row_str, cells_str, Int.toNat_zero, cells_Call, hone] at h
   have hy : 2 ≤ p.length ∧ eventT (evS p) = s := by rw [hX]; grind
   rw [hyes hy, hX]; rfl
 simp only [E.den, dEq, iEq, sEq] at g1
 have g1 : ¬ kindW (nth p 0) = 3 := by simpa using g1
 refine den_ite (fun g2 => ?_) (fun g2 => ?_)
 ·simp only [E.den, dEq, iEq, sEq] at g2
  have g2 : kindW (nth p 0) = 5 := by simpa using g2
  refine den_cond (fun _ => ?_) ?_
  ·simp only [E.den, dEq, iEq, sEq]; simp; omega
  ((first | refine den_call ?_ (c_spec_l1Texts (p.drop 2) hdl) (ty_strS _) ?_ | refine den_callR ?_ (c_spec_l1Texts (p.drop 2) hdl) (ty_strS _) ?_ | refine den_call ?_ (.ofR (c_spec_l1Texts (p.drop 2) hdl)) (ty_strS _) ?_); (focus (simp only [VC.den, E.den, dEq, gsH_nil, and_true, hcut]; try exact rfl)); (simp only [cA]))
  have hX : evS p = ⟨kindW (nth p 0), nth p 1, zeroC, p.drop 2⟩ := by unfold evS; rw [if_neg g1, if_pos g2]
  ((first | refine den_call ?_ (c_spec_FormatEvent ⟨kindW (nth p 0), nth p 1, zeroC, p.drop 2⟩ zeroC_le.1 zeroC_le.2) (trivial) ?_ | refine den_callR ?_ (c_spec_FormatEvent ⟨kindW (nth p 0), nth p 1, zeroC, p.drop 2⟩ zeroC_le.1 zeroC_le.2) (trivial) ?_ | refine den_call ?_ (.ofR (c_spec_FormatEvent ⟨kindW (nth p 0), nth p 1, zeroC, p.drop 2⟩ zeroC_le.1 zeroC_le.2)) (trivial) ?_); (focus (simp only [VC.den, E.den, dEq, gsH_nil, and_true, row_str, cells_str, Int.toNat_zero, cells_Call, hone]; try exact rfl)); (simp only [cA]))
  refine den_ite (fun h => den_ret ?_) (fun h => den_ret ?_)
  ·simp only [E.den, dEq, iEq, sEq, row_str, cells_str, Int.toNat_zero, cells_Call, hone] at h
   have hn : ¬ (2 ≤ p.length ∧ eventT (evS p) = s) := by rw [hX]; grind
   rw [hno hn]; rfl
  ·simp only [E.den, dEq, iEq, sEq, row_str, cells_str, Int.toNat_zero, cells_Call, hone] at h
   have hy : 2 ≤ p.length ∧ eventT (evS p) = s := by rw [hX]; grind
   rw [hyes hy, hX]; rfl
 simp only [E.den, dEq, iEq, sEq] at g2
 have g2 : ¬ kindW (nth p 0) = 5 := by simpa using g2
 have hX : evS p = ⟨kindW (nth p 0), nth p 1, zeroC, []⟩ := by unfold evS; rw [if_neg g1, if_neg g2]
 ((first | refine den_call ?_ (c_spec_FormatEvent ⟨kindW (nth p 0), nth p 1, zeroC, []⟩ zeroC_le.1 zeroC_le.2) (trivial) ?_ | refine den_callR ?_ (c_spec_FormatEvent ⟨kindW (nth p 0), nth p 1, zeroC, []⟩ zeroC_le.1 zeroC_le.2) (trivial) ?_ | refine den_call ?_ (.ofR (c_spec_FormatEvent ⟨kindW (nth p 0), nth p 1, zeroC, []⟩ zeroC_le.1 zeroC_le.2)) (trivial) ?_); (focus (simp only [VC.den, E.den, dEq, gsH_nil, and_true, row_str, cells_str, Int.toNat_zero, cells_Call, hone]; try exact rfl)); (simp only [cA]))
 refine den_ite (fun h => den_ret ?_) (fun h => den_ret ?_)
 ·simp only [E.den, dEq, iEq, sEq, row_str, cells_str, Int.toNat_zero, cells_Call, hone] at h
  have hn : ¬ (2 ≤ p.length ∧ eventT (evS p) = s) := by rw [hX]; grind
  rw [hno hn]; rfl
 ·simp only [E.den, dEq, iEq, sEq, row_str, cells_str, Int.toNat_zero, cells_Call, hone] at h
  have hy : 2 ≤ p.length ∧ eventT (evS p) = s := by rw [hX]; grind
  rw [hyes hy, hX]; rfl
end Go.Proofs.YtjmakbnblpjkhaaGreatDoor
/- Entries read from texts: the reference's side. -/
namespace Go.Proofs.YtjmakbnblpjkhaaGreatDoor
open Go.RowKit Go
variable [GC]
def rnS (s : ByteArray) : Need := ⟨pfI (nth (pieces s tSp) 0), if (pieces s tSp).length = 4 then nth (pieces s tSp) 2 else noText, pvV (lastP (pieces s tSp))⟩
theorem rn_of {n : Need} (h : needB n = true) : rnS (needT n) = n := by
 have hp := need_pieces h
 have hv : n.least.ok = true := by
  unfold needB at h
  simp only [Bool.and_eq_true] at h
  exact h.2
 have hf : isFaceB n.face = true := by
  unfold needB at h
  simp only [Bool.and_eq_true] at h
  exact h.1.1.1
 obtain ⟨f1, f2⟩ := pf_face hf
 obtain ⟨v1, v2⟩ := pv_of hv
 unfold rnS lastP
 rw [hp]
 unfold needP
 split
 ·rename_i h0
  rw [if_neg (by simp)]
  simp only [nth, List.length_cons, List.length_nil, List.getD_cons_zero, List.getD_cons_succ]
  simp [f1, v2]
  cases n
  simp_all
 ·rename_i h0
  rw [if_pos (by simp)]
  simp only [nth, List.length_cons, List.length_nil, List.getD_cons_zero, List.getD_cons_succ]
  simp [f1, v2]
def rqS (s : ByteArray) : List ByteArray := pieces (nth (pieces s tCol) 1) tSemi
def rwS (s : ByteArray) : List ByteArray := if 2 < (rqS s).length then pieces (nth (rqS s) 2) tCom else []
def reS (s : ByteArray) : Entry := ⟨nth (pieces s tCol) 0, pieces (nth (rqS s) 0) tSp, if 1 < (rqS s).length then pvV (nth (rqS s) 1) else ⟨0, 0⟩, (rwS s).map rnS⟩
theorem restJ_no {e : Entry} (h : entryB e = true) : (58 : UInt8) ∉ Lib.join (restP e) [59, 32] := by
 refine join_no (by decide) fun x hx => ?_
 have h1 : (58 : UInt8) ∉ (joinB e.recipe tSp).data.toList := by
  show _ ∉ (bs _).data.toList
  rw [bs_toList]
  exact join_no (by decide) (rec_no (entryB_rec h) (by decide))
 have h2 : (58 : UInt8) ∉ (verS e.ver).data.toList := verS_no _ (by decide)
 have h3 : (58 : UInt8) ∉ (joinB (e.needs.map needT) tCom).data.toList := by
  show _ ∉ (bs _).data.toList
  rw [bs_toList]
  refine join_no (by decide) fun x hx => ?_
  obtain ⟨s, hs, rfl⟩ := List.mem_map.1 hx
  obtain ⟨n, hn, rfl⟩ := List.mem_map.1 hs
  exact needT_no (entryB_needB h n hn) (by decide)
 unfold restP at hx
 split at hx
 ·simp at hx
  rcases hx with rfl | rfl
  ·exact h1
  ·exact h2
 ·simp at hx
  rcases hx with rfl | rfl | rfl
  ·exact h1
  ·exact h2
  ·exact h3
theorem ent_pieces {e : Entry} (h : entryB e = true) : pieces (entT e) tCol = [e.name, bs (Lib.join (restP e) [59, 32])] := by
 have hn : nameB e.name = true := by
  unfold entryB at h
  simp only [Bool.and_eq_true] at h
  grind
 have hno : (58 : UInt8) ∉ e.name.data.toList := nameB_no hn (by decide)
 unfold pieces
 rw [entT_list h, show tCol.data.toList = [58, 32] from rfl, split_hit (i := e.name.data.toList.length) (by simp) (index_app (c := 58) (t := [32]) hno), List.take_left', ← List.append_assoc, List.drop_left' (by simp), split_miss (index_none' (c := 58) (t := [32]) (restJ_no h))]
 ·simp [bs_of]
 ·rfl
theorem reS_of {e : Entry} (h : entryB e = true) : reS (entT e) = e ∧ (pieces (entT e) tCol).length = 2 := by
 have hp := ent_pieces h
 have hv : e.ver.ok = true := by
  unfold entryB at h
  simp only [Bool.and_eq_true] at h
  grind
 obtain ⟨v1, v2⟩ := pv_of hv
 have h0' : nth (pieces (entT e) tCol) 0 = e.name := by rw [hp]; rfl
 have hQ : rqS (entT e) = (restP e).map bs := by
  unfold rqS
  rw [hp]
  show pieces (bs (Lib.join (restP e) [59, 32])) tSemi = _
  unfold pieces
  rw [bs_toList]
  show (Lib.split _ [59, 32]).map bs = _
  rw [ent_split h]
 have h0 : nth (rqS (entT e)) 0 = joinB e.recipe tSp := by
  rw [hQ]; unfold restP nth
  simp [bs_of]
 have h1 : nth (rqS (entT e)) 1 = verS e.ver := by
  rw [hQ]; unfold restP nth
  simp [bs_of]
 have hR : pieces (joinB e.recipe tSp) tSp = e.recipe := by
  unfold pieces
  show (Lib.split _ [32]).map bs = _
  rw [rec_split (entryB_rec h), map_bs]
 have hW : rwS (entT e) = e.needs.map needT := by
  unfold rwS
  by_cases hn : e.needs = []
  ·rw [if_neg (by rw [hQ]; unfold restP; simp [hn])]
   simp [hn]
  ·have h2 : nth (rqS (entT e)) 2 = joinB (e.needs.map needT) tCom := by
    rw [hQ]; unfold restP nth
    simp [bs_of, hn]
   rw [if_pos (by rw [hQ]; unfold restP; simp [hn]), h2]
   unfold pieces
   show (Lib.split _ [44, 32]).map bs = _
   rw [needs_split h hn, map_bs]
 have hm : (rwS (entT e)).map rnS = e.needs := by
  rw [hW, List.map_map]
  conv => rhs; rw [← List.map_id e.needs]
  exact List.map_congr_left fun n hn => by simp [rn_of (entryB_needB h n hn)]
 have hl : 1 < (rqS (entT e)).length := by
  rw [hQ]; unfold restP
  split <;> simp
 refine ⟨?_, by rw [hp]; rfl⟩
 unfold reS
 rw [h0', h0, h1, hR, v2, hm, if_pos hl]
theorem entT_ne {e : Entry} (h : entryB e = true) : entT e ≠ noText := fun e1 => by
 have := (reS_of h).2
 rw [e1] at this
 have h2 : pieces noText tCol = [noText] := by
  unfold pieces
  rw [show tCol.data.toList = [58, 32] from rfl, split_miss (index_none' (c := 58) (t := [32]) (by decide))]
  rfl
 rw [h2] at this
 simp at this
theorem pe_spec (s : ByteArray) : (peB s = true ↔ (pieces s tCol).length = 2 ∧ s ≠ noText ∧ entT (reS s) = s) ∧ (peB s = true → reS s = peE s) := by
 have k : peB s = true → reS s = peE s ∧ (pieces s tCol).length = 2 := fun h => by
  obtain ⟨h1, h2⟩ := pe_back h
  have := reS_of h1
  rwa [h2] at this
 refine ⟨⟨fun h => ?_, fun ⟨_, h1, h2⟩ => ?_⟩, fun h => (k h).1⟩
 ·obtain ⟨h1, h2⟩ := pe_back h
  exact ⟨(k h).2, by rw [← h2]; exact entT_ne h1, by rw [(k h).1]; exact h2⟩
 ·have hb : entryB (reS s) = true := by
   cases e : entryB (reS s) with
   | true => rfl
   | false =>
    unfold entT at h2
    rw [e] at h2
    exact absurd h2.symm h1
  have := (pe_of hb).2
  rwa [h2] at this
end Go.Proofs.YtjmakbnblpjkhaaGreatDoor
/- Contracts: texts read as needs and entries, by the reference. -/
namespace Go.Proofs.YtjmakbnblpjkhaaGreatDoor
open Go.RowKit Go
variable [GC]
theorem c_spec_ParseFace (s : ByteArray) : Fun Tryz.prog 106 none [.str s] (.tup [.int .i64 (pfI s), .bool (pfB s)]) [] := by
 refine Fun.ofV vc_spec_ParseFace_ok ty_spec_ParseFace_ok rfl ?_ (fun hfit => ?_)
 ·exact ⟨trivial, trivial⟩
 unfold vc_spec_ParseFace
 refine den_for 64 (fun k => [.int .i64 k]) (fun k => ∀ i, i < k → decide (faceT i = s) = false) rfl (by omega) ?_
 intro k hk hI _
 simp only [cA]
 refine den_ite (fun h2 => ?_) (fun h2 => ?_)
 ·simp only [E.den, dEq, iEq, sEq] at h2
  have h2 : k < 64 := by simp at h2; omega
  ((first | refine den_call ?_ (c_spec_FormatFace k) (trivial) ?_ | refine den_callR ?_ (c_spec_FormatFace k) (trivial) ?_ | refine den_call ?_ (.ofR (c_spec_FormatFace k)) (trivial) ?_); (focus (simp only [VC.den, E.den, dEq, gsH_nil, and_true]; try exact rfl)); (simp only [cA]))
  have e : faceS (k : Int) = faceT k := by rw [faceS, if_pos (by simp [isFaceB]; omega), Int.toNat_natCast]
  refine den_ite (fun h3 => ?_) (fun h3 => ?_)
  ·simp only [E.den, dEq, iEq, sEq, e] at h3
   refine den_ret ?_
   have : pfO s = some k := by unfold pfO; exact firstTo_some (p := fun n => decide (faceT n = s)) (n := 64) h3 hI h2
   have e1 : pfI s = k := by unfold pfI; rw [this]
   have e2 : pfB s = true := by unfold pfB; rw [this]; rfl
   rw [e1, e2]; rfl
  ·simp only [E.den, dEq, iEq, sEq, e] at h3
   refine den_next h2 ?_ fun i hi => ?_
   ·simp only [E.den, dEq, iEq, sEq]
    rw [ar_add (by omega) (by omega)]; rfl
   ·rcases Nat.lt_or_ge i k with h | h
    ·exact hI i h
    ·obtain rfl : i = k := by omega
     exact h3
 ·simp only [E.den, dEq, iEq, sEq] at h2
  obtain rfl : k = 64 := by simp at h2; omega
  have : pfO s = none := by unfold pfO; exact firstTo_none hI
  have e1 : pfI s = 0 := by unfold pfI; rw [this]
  have e2 : pfB s = false := by unfold pfB; rw [this]; rfl
  refine den_ret ?_
  rw [e1, e2]; rfl
theorem pieces_ne (s sep : ByteArray) (h : sep.data.toList ≠ []) : 0 < (pieces s sep).length := by
 have := (join_split (sep := sep.data.toList) h _ s.data.toList (Nat.le_refl _)).2
 unfold pieces
 rw [List.length_map]
 exact List.length_pos_iff.2 this
theorem c_spec_l6ReadNeed (s : ByteArray) (hs : s.size < 4294967281) : Fun Tryz.prog 56 none [.str s] (enc (rnS s)) [] := by
 refine Fun.ofV vc_spec_l6ReadNeed_ok ty_spec_l6ReadNeed_ok rfl ?_ (fun hfit => ?_)
 ·exact ⟨trivial, trivial⟩
 unfold vc_spec_l6ReadNeed
 ((first | refine den_call ?_ (cS_SplitAt s tSp (by decide) (by decide) hs) (ty_strS _) ?_ | refine den_callR ?_ (cS_SplitAt s tSp (by decide) (by decide) hs) (ty_strS _) ?_ | refine den_call ?_ (.ofR (cS_SplitAt s tSp (by decide) (by decide) hs)) (ty_strS _) ?_); (focus (simp only [VC.den, E.den, dEq, gsH_nil, and_true]; try exact rfl)); (simp only [cA]))
 have hps := pieces_size (s := s) (sep := tSp) (by decide)
 have hpos := pieces_ne s tSp (by decide)
 have hr : rnS s = ⟨pfI (nth (pieces s tSp) 0), if (pieces s tSp).length = 4 then nth (pieces s tSp) 2 else noText, pvV (lastP (pieces s tSp))⟩ := rfl
 rw [hr]
 generalize pieces s tSp = p at hps hpos ⊢
 have hpl := hps.1
 have hz : arI .sub .i64 (p.length : Int) 1 = ((p.length - 1 : Nat) : Int) := by rw [ar_sub (by omega) (by omega)]; omega
 have hlt : (((p.length - 1 : Nat) : Int)).toNat = p.length - 1 := Int.toNat_natCast _
 have hl : (lastP p).size < 4294967281 := by
  have := hps.2 _ (nth_mem (show p.length - 1 < p.length by omega))
  unfold lastP
  omega
 have h2n : (2 : Int).toNat = 2 := rfl
 refine den_cond (fun _ => ?_) ?_
 ·simp only [E.den, dEq, iEq, sEq]; simp; omega
 ((first | refine den_call ?_ (c_spec_ParseFace (nth p 0)) (⟨rfl, trivial, trivial⟩) ?_ | refine den_callR ?_ (c_spec_ParseFace (nth p 0)) (⟨rfl, trivial, trivial⟩) ?_ | refine den_call ?_ (.ofR (c_spec_ParseFace (nth p 0))) (⟨rfl, trivial, trivial⟩) ?_); (focus (simp only [VC.den, E.den, dEq, gsH_nil, and_true, row_str, cells_str, Int.toNat_zero]; try exact rfl)); (simp only [cA]))
 refine den_cond (fun _ => ?_) ?_
 ·simp only [E.den, dEq, iEq, sEq, hz]; simp; omega
 ((first | refine den_call ?_ (c_spec_ParseVersion (lastP p) hl) (ty_pvD _) ?_ | refine den_callR ?_ (c_spec_ParseVersion (lastP p) hl) (ty_pvD _) ?_ | refine den_call ?_ (.ofR (c_spec_ParseVersion (lastP p) hl)) (ty_pvD _) ?_); (focus (simp only [VC.den, E.den, dEq, gsH_nil, and_true, hz, hlt, row_str, cells_str]; try exact rfl)); (simp only [cA]))
 refine den_ite (fun g => ?_) (fun g => ?_)
 ·simp only [E.den, dEq, iEq, sEq] at g
  have g : p.length = 4 := by simp at g; omega
  refine den_cond (fun _ => ?_) (den_ret ?_)
  ·simp only [E.den, dEq, iEq, sEq]; simp; omega
  ·simp only [E.den, dEq, iEq, sEq, pvD, row_str, cells_str, cells_Ver, h2n]
   rw [if_pos g]; rfl
 ·simp only [E.den, dEq, iEq, sEq] at g
  have g : ¬ p.length = 4 := by simp at g; omega
  refine den_ret ?_
  simp only [E.den, dEq, iEq, sEq, pvD, cells_Ver]
  rw [if_neg g]; rfl
theorem pe_noS {s : ByteArray} (h : ¬ ((pieces s tCol).length = 2 ∧ s ≠ noText ∧ entT (reS s) = s)) : D.tup [enc (peV s), .bool (peB s)] = .tup [enc noEntry, .bool false] := by
 refine pe_none ?_
 cases e : peB s with
 | false => rfl
 | true => exact absurd ((pe_spec s).1.1 e) h
theorem pe_yesS {s : ByteArray} (h : (pieces s tCol).length = 2 ∧ s ≠ noText ∧ entT (reS s) = s) : D.tup [enc (peV s), .bool (peB s)] = .tup [enc (reS s), .bool true] := by
 have hb := (pe_spec s).1.2 h
 rw [pe_some hb, (pe_spec s).2 hb]
set_option maxHeartbeats 8000000 in
theorem c_spec_ParseEntry (s : ByteArray) (hs : s.size ≤ 1048576) : Fun Tryz.prog 16 none [.str s] (.tup [enc (peV s), .bool (peB s)]) [] := by
 refine .ofR (rt := rbt.get 16) ?_
 refine FunR.ofV vc_spec_ParseEntry_ok ty_spec_ParseEntry_ok rt_spec_ParseEntry_ok rfl ?_ (fun hfit => ?_)
 ·exact ⟨trivial, trivial⟩
 unfold vc_spec_ParseEntry
 have hs1 : s.size < 4294967281 := by omega
 have h1n : (1 : Int).toNat = 1 := rfl
 have h2n : (2 : Int).toNat = 2 := rfl
 ((first | refine den_call ?_ (cS_SplitAt s tCol (by decide) (by decide) hs1) (ty_strS _) ?_ | refine den_callR ?_ (cS_SplitAt s tCol (by decide) (by decide) hs1) (ty_strS _) ?_ | refine den_call ?_ (.ofR (cS_SplitAt s tCol (by decide) (by decide) hs1)) (ty_strS _) ?_); (focus (simp only [VC.den, E.den, dEq, gsH_nil, and_true, tCol_eq]; try exact rfl)); (simp only [cA]))
 refine den_ite (fun h => den_ret ?_) (fun h => ?_)
 ·simp only [E.den, dEq, iEq, sEq] at h
  have hn : ¬ ((pieces s tCol).length = 2 ∧ s ≠ noText ∧ entT (reS s) = s) := by simp at h; omega
  rw [pe_noS hn]; rfl
 simp only [E.den, dEq, iEq, sEq] at h
 have hp2 : (pieces s tCol).length = 2 := by simp at h; omega
 have hq1 := piece_size (s := s) (sep := tCol) (by decide) (k := 1) (by omega)
 have hs2 : (nth (pieces s tCol) 1).size < 4294967281 := by omega
 refine den_cond (fun _ => ?_) ?_
 ·simp only [E.den, dEq, iEq, sEq]; simp; omega
 ((first | refine den_call ?_ (cS_SplitAt (nth (pieces s tCol) 1) tSemi (by decide) (by decide) hs2) (ty_strS _) ?_ | refine den_callR ?_ (cS_SplitAt (nth (pieces s tCol) 1) tSemi (by decide) (by decide) hs2) (ty_strS _) ?_ | refine den_call ?_ (.ofR (cS_SplitAt (nth (pieces s tCol) 1) tSemi (by decide) (by decide) hs2)) (ty_strS _) ?_); (focus (simp only [VC.den, E.den, dEq, gsH_nil, and_true, row_str, cells_str, h1n, tSemi_eq]; try exact rfl)); (simp only [cA]))
 have hQ : pieces (nth (pieces s tCol) 1) tSemi = rqS s := rfl
 have hqs := pieces_size (s := nth (pieces s tCol) 1) (sep := tSemi) (by decide)
 have hqp := pieces_ne (nth (pieces s tCol) 1) tSemi (by decide)
 rw [hQ] at hqs hqp ⊢
 have hsz : ∀ k, k < (rqS s).length → (nth (rqS s) k).size < 4294967281 := fun k hk => by have := hqs.2 _ (nth_mem hk); omega
 refine den_cond (fun _ => ?_) ?_
 ·simp only [E.den, dEq, iEq, sEq]; simp; omega
 refine den_cond (fun _ => ?_) ?_
 ·simp only [E.den, dEq, iEq, sEq]; simp; omega
 ((first | refine den_call ?_ (cS_SplitAt (nth (rqS s) 0) tSp (by decide) (by decide) (hsz 0 hqp)) (ty_strS _) ?_ | refine den_callR ?_ (cS_SplitAt (nth (rqS s) 0) tSp (by decide) (by decide) (hsz 0 hqp)) (ty_strS _) ?_ | refine den_call ?_ (.ofR (cS_SplitAt (nth (rqS s) 0) tSp (by decide) (by decide) (hsz 0 hqp))) (ty_strS _) ?_); (focus (simp only [VC.den, E.den, dEq, gsH_nil, and_true, row_str, cells_str, Int.toNat_zero, tSp_eq]; try exact rfl)); (simp only [cA]))
 refine den_ite (fun g1 => ?_) (fun g1 => ?_)
 ·simp only [E.den, dEq, iEq, sEq] at g1
  have g1 : 1 < (rqS s).length := by simp at g1; omega
  refine den_cond (fun _ => ?_) ?_
  ·simp only [E.den, dEq, iEq, sEq]; simp; omega
  ((first | refine den_call ?_ (c_spec_ParseVersion (nth (rqS s) 1) (hsz 1 g1)) (ty_pvD _) ?_ | refine den_callR ?_ (c_spec_ParseVersion (nth (rqS s) 1) (hsz 1 g1)) (ty_pvD _) ?_ | refine den_call ?_ (.ofR (c_spec_ParseVersion (nth (rqS s) 1) (hsz 1 g1))) (ty_pvD _) ?_); (focus (simp only [VC.den, E.den, dEq, gsH_nil, and_true, row_str, cells_str, h1n]; try exact rfl)); (simp only [cA]))
  refine den_ite (fun g2 => ?_) (fun g2 => ?_)
  ·simp only [E.den, dEq, iEq, sEq] at g2
   have g2 : 2 < (rqS s).length := by simp at g2; omega
   have hW : rwS s = pieces (nth (rqS s) 2) tCom := if_pos g2
   refine den_cond (fun _ => ?_) ?_
   ·simp only [E.den, dEq, iEq, sEq]; simp; omega
   ((first | refine den_call ?_ (cS_SplitAt (nth (rqS s) 2) tCom (by decide) (by decide) (hsz 2 g2)) (ty_strS _) ?_ | refine den_callR ?_ (cS_SplitAt (nth (rqS s) 2) tCom (by decide) (by decide) (hsz 2 g2)) (ty_strS _) ?_ | refine den_call ?_ (.ofR (cS_SplitAt (nth (rqS s) 2) tCom (by decide) (by decide) (hsz 2 g2))) (ty_strS _) ?_); (focus (simp only [VC.den, E.den, dEq, gsH_nil, and_true, row_str, cells_str, h2n, tCom_eq]; try exact rfl)); (simp only [cA]))
   have hws := pieces_size (s := nth (rqS s) 2) (sep := tCom) (by decide)
   have hz2 := hsz 2 g2
   rw [← hW] at hws ⊢
   refine den_for (rwS s).length (fun k => [.int .i64 k, .str (nth (pieces s tCol) 0), encS (pieces (nth (rqS s) 0) tSp), .int .i64 (pvV (nth (rqS s) 1)).maj, .int .i64 (pvV (nth (rqS s) 1)).min, encS (((rwS s).take k).map rnS)]) (fun _ => True) (by simp only [E.den, dEq, iEq, sEq, row_str, cells_str, Int.toNat_zero, pvD, cells_Ver]; rfl) trivial ?_
   intro k hk _ _
   simp only [cA]
   refine den_ite (fun h2 => ?_) (fun h2 => ?_)
   ·simp only [E.den, dEq, iEq, sEq] at h2
    have h2 : k < (rwS s).length := by simpa using h2
    have hk3 : (nth (rwS s) k).size < 4294967281 := by have := hws.2 _ (nth_mem h2); omega
    have hwl := hws.1
    refine den_cond (fun _ => ?_) ?_
    ·simp only [E.den, dEq, iEq, sEq]; simp; omega
    ((first | refine den_call ?_ (c_spec_l6ReadNeed (nth (rwS s) k) hk3) (ty_Need _) ?_ | refine den_callR ?_ (c_spec_l6ReadNeed (nth (rwS s) k) hk3) (ty_Need _) ?_ | refine den_call ?_ (.ofR (c_spec_l6ReadNeed (nth (rwS s) k) hk3)) (ty_Need _) ?_); (focus (simp only [VC.den, E.den, dEq, gsH_nil, and_true, row_str, cells_str, Int.toNat_natCast]; try exact rfl)); (simp only [cA]))
    refine den_cond (fun _ => ?_) ?_
    ·simp only [E.den, dEq, iEq, sEq]; simp [maxLen]; omega
    refine den_next h2 ?_ trivial
    simp only [E.den, dEq, iEq, sEq]
    rw [ar_add (by omega) (by omega), map_take_succ _ h2]
    simp [encS, enc]
   simp only [E.den, dEq, iEq, sEq] at h2
   obtain rfl : k = (rwS s).length := by simp at h2; omega
   rw [List.take_length]
   have he : reS s = ⟨nth (pieces s tCol) 0, pieces (nth (rqS s) 0) tSp, pvV (nth (rqS s) 1), (rwS s).map rnS⟩ := by unfold reS; rw [if_pos g1]
   ((first | refine den_call ?_ (c_spec_FormatEntry (reS s)) (trivial) ?_ | refine den_callR ?_ (c_spec_FormatEntry (reS s)) (trivial) ?_ | refine den_call ?_ (.ofR (c_spec_FormatEntry (reS s))) (trivial) ?_); (focus (simp only [VC.den, E.den, dEq, gsH_nil, and_true, he]; try exact rfl)); (simp only [cA]))
   refine den_ite (fun h => den_ret ?_) (fun h => den_ret ?_)
   ·simp only [E.den, dEq, iEq, sEq, he] at h
    have hn : ¬ ((pieces s tCol).length = 2 ∧ s ≠ noText ∧ entT (reS s) = s) := by unfold noText at *; grind
    rw [pe_noS hn]; rfl
   ·simp only [E.den, dEq, iEq, sEq, he] at h
    have hy : (pieces s tCol).length = 2 ∧ s ≠ noText ∧ entT (reS s) = s := by unfold noText at *; grind
    rw [pe_yesS hy]; rw [he]; rfl
  simp only [E.den, dEq, iEq, sEq] at g2
  have g2 : ¬ 2 < (rqS s).length := by simp at g2; omega
  have hW : rwS s = [] := if_neg g2
  have he : reS s = ⟨nth (pieces s tCol) 0, pieces (nth (rqS s) 0) tSp, pvV (nth (rqS s) 1), []⟩ := by unfold reS; rw [hW, if_pos g1]; rfl
  ((first | refine den_call ?_ (c_spec_FormatEntry (reS s)) (trivial) ?_ | refine den_callR ?_ (c_spec_FormatEntry (reS s)) (trivial) ?_ | refine den_call ?_ (.ofR (c_spec_FormatEntry (reS s))) (trivial) ?_); (focus (simp only [VC.den, E.den, dEq, gsH_nil, and_true, he, row_str, cells_str, Int.toNat_zero, pvD, cells_Ver]; try exact rfl)); (simp only [cA]))
  refine den_ite (fun h => den_ret ?_) (fun h => den_ret ?_)
  ·simp only [E.den, dEq, iEq, sEq, he, row_str, cells_str, Int.toNat_zero, pvD, cells_Ver] at h
   have hn : ¬ ((pieces s tCol).length = 2 ∧ s ≠ noText ∧ entT (reS s) = s) := by unfold noText at *; grind
   rw [pe_noS hn]; rfl
  ·simp only [E.den, dEq, iEq, sEq, he, row_str, cells_str, Int.toNat_zero, pvD, cells_Ver] at h
   have hy : (pieces s tCol).length = 2 ∧ s ≠ noText ∧ entT (reS s) = s := by unfold noText at *; grind
   rw [pe_yesS hy]; rw [he]; simp only [E.den, dEq, iEq, sEq, row_str, cells_str, Int.toNat_zero, pvD, cells_Ver]; rfl
 simp only [E.den, dEq, iEq, sEq] at g1
 have g1 : ¬ 1 < (rqS s).length := by simp at g1; omega
 refine den_ite (fun g2 => ?_) (fun g2 => ?_)
 ·simp only [E.den, dEq, iEq, sEq] at g2
  have g2 : 2 < (rqS s).length := by simp at g2; omega
  have hW : rwS s = pieces (nth (rqS s) 2) tCom := if_pos g2
  refine den_cond (fun _ => ?_) ?_
  ·simp only [E.den, dEq, iEq, sEq]; simp; omega
  ((first | refine den_call ?_ (cS_SplitAt (nth (rqS s) 2) tCom (by decide) (by decide) (hsz 2 g2)) (ty_strS _) ?_ | refine den_callR ?_ (cS_SplitAt (nth (rqS s) 2) tCom (by decide) (by decide) (hsz 2 g2)) (ty_strS _) ?_ | refine den_call ?_ (.ofR (cS_SplitAt (nth (rqS s) 2) tCom (by decide) (by decide) (hsz 2 g2))) (ty_strS _) ?_); (focus (simp only [VC.den, E.den, dEq, gsH_nil, and_true, row_str, cells_str, h2n, tCom_eq]; try exact rfl)); (simp only [cA]))
  have hws := pieces_size (s := nth (rqS s) 2) (sep := tCom) (by decide)
  have hz2 := hsz 2 g2
  rw [← hW] at hws ⊢
  refine den_for (rwS s).length (fun k => [.int .i64 k, .str (nth (pieces s tCol) 0), encS (pieces (nth (rqS s) 0) tSp), .int .i64 ((⟨0, 0⟩ : Ver)).maj, .int .i64 ((⟨0, 0⟩ : Ver)).min, encS (((rwS s).take k).map rnS)]) (fun _ => True) (by simp only [E.den, dEq, iEq, sEq, row_str, cells_str, Int.toNat_zero, cells_Ver]; rfl) trivial ?_
  intro k hk _ _
  simp only [cA]
  refine den_ite (fun h2 => ?_) (fun h2 => ?_)
  ·simp only [E.den, dEq, iEq, sEq] at h2
   have h2 : k < (rwS s).length := by simpa using h2
   have hk3 : (nth (rwS s) k).size < 4294967281 := by have := hws.2 _ (nth_mem h2); omega
   have hwl := hws.1
   refine den_cond (fun _ => ?_) ?_
   ·simp only [E.den, dEq, iEq, sEq]; simp; omega
   ((first | refine den_call ?_ (c_spec_l6ReadNeed (nth (rwS s) k) hk3) (ty_Need _) ?_ | refine den_callR ?_ (c_spec_l6ReadNeed (nth (rwS s) k) hk3) (ty_Need _) ?_ | refine den_call ?_ (.ofR (c_spec_l6ReadNeed (nth (rwS s) k) hk3)) (ty_Need _) ?_); (focus (simp only [VC.den, E.den, dEq, gsH_nil, and_true, row_str, cells_str, Int.toNat_natCast]; try exact rfl)); (simp only [cA]))
   refine den_cond (fun _ => ?_) ?_
   ·simp only [E.den, dEq, iEq, sEq]; simp [maxLen]; omega
   refine den_next h2 ?_ trivial
   simp only [E.den, dEq, iEq, sEq]
   rw [ar_add (by omega) (by omega), map_take_succ _ h2]
   simp [encS, enc]
  simp only [E.den, dEq, iEq, sEq] at h2
  obtain rfl : k = (rwS s).length := by simp at h2; omega
  rw [List.take_length]
  have he : reS s = ⟨nth (pieces s tCol) 0, pieces (nth (rqS s) 0) tSp, (⟨0, 0⟩ : Ver), (rwS s).map rnS⟩ := by unfold reS; rw [if_neg g1]
  ((first | refine den_call ?_ (c_spec_FormatEntry (reS s)) (trivial) ?_ | refine den_callR ?_ (c_spec_FormatEntry (reS s)) (trivial) ?_ | refine den_call ?_ (.ofR (c_spec_FormatEntry (reS s))) (trivial) ?_); (focus (simp only [VC.den, E.den, dEq, gsH_nil, and_true, he]; try exact rfl)); (simp only [cA]))
  refine den_ite (fun h => den_ret ?_) (fun h => den_ret ?_)
  ·simp only [E.den, dEq, iEq, sEq, he] at h
   have hn : ¬ ((pieces s tCol).length = 2 ∧ s ≠ noText ∧ entT (reS s) = s) := by unfold noText at *; grind
   rw [pe_noS hn]; rfl
  ·simp only [E.den, dEq, iEq, sEq, he] at h
   have hy : (pieces s tCol).length = 2 ∧ s ≠ noText ∧ entT (reS s) = s := by unfold noText at *; grind
   rw [pe_yesS hy]; rw [he]; rfl
 simp only [E.den, dEq, iEq, sEq] at g2
 have g2 : ¬ 2 < (rqS s).length := by simp at g2; omega
 have hW : rwS s = [] := if_neg g2
 have he : reS s = ⟨nth (pieces s tCol) 0, pieces (nth (rqS s) 0) tSp, (⟨0, 0⟩ : Ver), []⟩ := by unfold reS; rw [hW, if_neg g1]; rfl
 ((first | refine den_call ?_ (c_spec_FormatEntry (reS s)) (trivial) ?_ | refine den_callR ?_ (c_spec_FormatEntry (reS s)) (trivial) ?_ | refine den_call ?_ (.ofR (c_spec_FormatEntry (reS s))) (trivial) ?_); (focus (simp only [VC.den, E.den, dEq, gsH_nil, and_true, he, row_str, cells_str, Int.toNat_zero, cells_Ver]; try exact rfl)); (simp only [cA]))
 refine den_ite (fun h => den_ret ?_) (fun h => den_ret ?_)
 ·simp only [E.den, dEq, iEq, sEq, he, row_str, cells_str, Int.toNat_zero, cells_Ver] at h
  have hn : ¬ ((pieces s tCol).length = 2 ∧ s ≠ noText ∧ entT (reS s) = s) := by unfold noText at *; grind
  rw [pe_noS hn]; rfl
 ·simp only [E.den, dEq, iEq, sEq, he, row_str, cells_str, Int.toNat_zero, cells_Ver] at h
  have hy : (pieces s tCol).length = 2 ∧ s ≠ noText ∧ entT (reS s) = s := by unfold noText at *; grind
  rw [pe_yesS hy]; rw [he]; simp only [E.den, dEq, iEq, sEq, row_str, cells_str, Int.toNat_zero, cells_Ver]; rfl
end Go.Proofs.YtjmakbnblpjkhaaGreatDoor
/- Marks of an event's recipe; how long the rows of entries and events that are read may be. -/
namespace Go.Proofs.YtjmakbnblpjkhaaGreatDoor
open Go.RowKit Go
variable [GC]
theorem nth_size {l : List ByteArray} {n : Nat} (h : ∀ x ∈ l, x.size ≤ n) (k : Nat) : (nth l k).size ≤ n := by
 by_cases hk : k < l.length
 ·exact h _ (nth_mem hk)
 ·unfold nth
  rw [List.getD_eq_getElem?_getD, List.getElem?_eq_none (by omega)]
  exact Nat.zero_le n
theorem pe_len {s : ByteArray} (hs : s.size ≤ 1048576) : (peV s).recipe.length + 4 * (peV s).needs.length ≤ 100000000 := by
 unfold peV
 split
 ·have h0 := (cut_len s.data.toList [58, 32]).2
  rw [size_data] at h0
  have hq : ∀ x ∈ peQ s, x.size ≤ 1048576 := fun x hx => by
   have := (pieces_size (s := bs (Lib.cut s.data.toList [58, 32]).2.1) (sep := tSemi) (by decide)).2 x hx
   rw [bs_size] at this
   omega
  have h1 := (pieces_size (s := nth (peQ s) 0) (sep := tSp) (by decide)).1
  have h2 := nth_size hq 0
  have h3 : (peW s).length ≤ 1048577 := by
   unfold peW
   split
   ·have h4 := (pieces_size (s := nth (peQ s) 2) (sep := tCom) (by decide)).1
    have h5 := nth_size hq 2
    omega
   ·simp
  show (pieces (nth (peQ s) 0) tSp).length + 4 * ((peW s).map fun x => (pnV x).1).length ≤ _
  rw [List.length_map]
  omega
 ·decide
theorem re_len {s : ByteArray} (hs : s.size ≤ 1048576) : (reV s).recipe.length ≤ 100000000 := by
 unfold reV
 split
 ·have h1 := cutZ_size s
  have h2 := cutZ_size (cutZ s)
  show (if kindW (cutA s) = 5 then pieces (cutZ (cutZ s)) tSp else []).length ≤ _
  split
  ·have h4 := (pieces_size (s := cutZ (cutZ s)) (sep := tSp) (by decide)).1
   omega
  ·simp
 ·decide
theorem event_calls {f : FuncId} {ds : List D} {e : Event} {b : Bool} (h : FunR Tryz.prog f none ds (.tup [enc e, .bool b]) [] [(6, 1)]) {w : World} {vs : List Value} (hG : Rd w) (hr : Rs w (fun _ => False) ds vs) :
  Calls Tryz.prog f vs.toArray w fun x w' => ∃ y6, x = .returned (.tuple #[.agg #[.int .i64 e.kind, .string e.name, .string e.call.method, .string e.call.key, .int .i64 e.call.val, .string e.call.text, y6], .bool b]) ∧
   (∀ z, w'.heap.size ≤ z → R w' (NB w' y6 z) (encS e.recipe) y6 ∧ (w.heap.size ≤ blkOf y6 z ∧ (blkOf y6 z < w'.heap.size ∨ blkOf y6 z = z))) ∧
   R w' (fun _ => False) (enc e) (.agg #[.int .i64 e.kind, .string e.name, .string e.call.method, .string e.call.key, .int .i64 e.call.val, .string e.call.text, y6]) ∧ Below w.heap.size w w' := by
 refine (h.2 w _ 0 vs hG hr (fun cs h => by cases h)).mono ?_
 rintro x w' ⟨v, rfl, ⟨cs, rfl, h2⟩, h3, h4, _⟩
 obtain ⟨x0, _, hc, ⟨ar, rfl, hx0⟩, x1, _, rfl, hx1, hx2⟩ := h2
 have hx2 : _ = [] := hx2
 subst hx2
 have hcs : cs = #[.agg ar, x1] := by rw [← Array.toList_inj, hc]
 subst hcs
 have hx1 : x1 = .bool b := hx1
 subst hx1
 have hx0' := hx0
 obtain ⟨y0, _, hc2, ⟨r01, r02⟩, y1, _, rfl, ⟨r11, r12⟩, y2, _, rfl, ⟨r21, r22⟩, y3, _, rfl, ⟨r31, r32⟩, y4, _, rfl, ⟨r41, r42⟩, y5, _, rfl, ⟨r51, r52⟩, y6, _, rfl, r6, hy⟩ := hx0
 have hy : _ = [] := hy
 subst hy
 have has : ar = #[y0, y1, y2, y3, y4, y5, y6] := by rw [← Array.toList_inj, hc2]
 subst has
 subst r01 r11 r21 r31 r41 r51
 obtain ⟨a6, l6, c6, hy6, u6⟩ := (show R w' _ (.sl (e.recipe.map Enc.cells)) y6 from r6)
 have e6 := h4.1 (6, 1) (by simp)
 have f6 : rtV (.tuple #[.agg #[.int .i64 e.kind, .string e.name, .string e.call.method, .string e.call.key, .int .i64 e.call.val, .string e.call.text, y6], .bool b]) (6, 1) = y6 := by subst hy6; rfl
 rw [f6] at e6
 have hb := h3.to_below
 have hsz := hb.size
 refine ⟨y6, rfl, fun z hz => ⟨nb_flat r6 (str_flat _).1 (str_flat _).2 e6, blk_old hy6 e6 (by omega)⟩, ⟨_, rfl, ?_⟩, hb⟩
 exact Rs.keep (fun p u hp hn => ⟨hp, fun h => h.elim⟩) _ _ hx0'
theorem m_Event (rec : List ByteArray) (y0 y1 y2 y3 y4 y5 y6 : Value) (k z : Nat) (w : World) (h6 : R w (NB w y6 z) (encS rec) y6) (hB : NG ≤ blkOf y6 z) (hx : blkOf y6 z ≠ w.heap.size) (hG : Rd w) (hk : k + rec.length ≤ 1152921504606846970) :
  Calls Tryz.prog 14 #[.agg #[y0, y1, y2, y3, y4, y5, y6], .int .i64 k] w fun e w' => e = .returned (.int .i64 ((k + rec.length : Nat) : Int)) ∧ Alt (fun p => p.block = blkOf y6 z) w w' ∧ R w' (fun _ => False) (.sl (mS k rec rec.length)) y6 := by
 obtain ⟨K2, hK2⟩ : ∃ K2, k + rec.length = K2 := ⟨_, rfl⟩
 have hbA : Below w.heap.size w (w.alloc (.cells #[y0, y1, y2, y3, y4, y5, y6] 41)) := by go_grown
 have hsA := hbA.size
 have hGA := hG.below hbA
 have hm1 := m_StringS rec k _ (NB _ y6 z) y6 (nb_keep h6 hbA) (fun p hp => .inr hp) hGA (fun p hp => by rw [nb_blk hp]; exact hB) (by omega)
 rw [hK2] at hm1
 have HM1 := Lib.hid hm1
 have HBA := Lib.hid hbA
 clear hm1 h6 hG hGA hbA
 go_enter Tryz.func14, Tryz.ntmps14
 go_wp2_with fail
 refine HM1.out.mono ?_
 rintro e w1 ⟨rfl, ha1, hr1⟩
 have hA := (Alt.below HBA.out).trans (ha1.mono (A' := fun p => p.block = blkOf y6 z) fun p _ hp => nb_blk hp)
 have HA := Lib.hid hA
 have HR1 := Lib.hid hr1.zero
 clear hA ha1 hr1
 go_wp2
 go_ret
 subst hK2
 exact ⟨rfl, HA.out, HR1.out⟩
theorem c_heldEvent (kd : Int) (nm m q : ByteArray) (v : Int) (t : ByteArray) (rec : List ByteArray) (k : Nat) (hk : k + rec.length ≤ 1152921504606846970) :
  Fun Tryz.prog 15 none [.agg [.int .i64 kd, .str nm, .str m, .str q, .int .i64 v, .str t, .sl (mS k rec rec.length)], .int .i64 k] (.int .i64 ((k + rec.length : Nat) : Int)) [] := by
 refine Fun.ofV vc_laws_heldEvent_ok ty_laws_heldEvent_ok rfl ?_ (fun hfit => ?_)
 ·refine ⟨⟨rfl, trivial, trivial, trivial, rfl, trivial, ?_, trivial⟩, rfl, trivial⟩
  show RowsTy _ (tbl.tab _) _
  rw [tab_str]
  refine RowsTy.of fun r hr => ?_
  obtain ⟨a, ha, rfl⟩ := rowsM_mem hr
  rw [if_pos ha]; exact ⟨trivial, trivial⟩
 unfold vc_laws_heldEvent
 ((first | refine den_call ?_ (c_heldStringS rec k (by omega)) (rfl) ?_ | refine den_callR ?_ (c_heldStringS rec k (by omega)) (rfl) ?_ | refine den_call ?_ (.ofR (c_heldStringS rec k (by omega))) (rfl) ?_); (focus (simp only [VC.den, E.den, dEq, gsH_nil, and_true]; try exact rfl)); (simp only [cA]))
 refine den_ite (fun h => ?_) (fun _ => ?_)
 ·simp only [E.den, dEq, iEq, sEq] at h
  simp at h; omega
 exact den_ret rfl
end Go.Proofs.YtjmakbnblpjkhaaGreatDoor
/- What a law is handed, opened: a value that reads as data of the statement's kind reads as abstract data. No program in sight. -/
namespace Go.Proofs.YtjmakbnblpjkhaaGreatDoor
open Go.RowKit Go.ChangeShapes Go.WideShapes Go.ChangeAt
variable [GC]
def opn (tb : TB) : Nat → Nat → Bool
 | 0, _ => false
 | d + 1, T => match tb.get T with
  | none => false
  | some ti => match ti.vt with
   | .one (.c (.sl e)) => opn tb d e && Nat.blt 0 (tb.tab e).length
   | .one (.c _) => true
   | .one (.agg ts) => contig tb 0 ts ti.fs && ti.fs.all (fun x => opn tb d x.2)
   | .tup _ => false
theorem opn_one {tb : TB} {d T : Nat} (h : opn tb d T = true) : ∃ ti v, tb.get T = some ti ∧ ti.vt = .one v ∧ tb.tab T = v.cells := by
 cases d with
 | zero => simp [opn] at h
 | succ d =>
  simp only [opn] at h
  split at h
  ·simp at h
  ·rename_i ti hti
   cases hv : ti.vt with
   | tup _ => rw [hv] at h; simp at h
   | one v => exact ⟨ti, v, hti, hv, by simp [TB.tab, hti, TI.cells, hv]⟩
def vtOf (tb : TB) (T : Nat) : VT := match tb.get T with | some ti => ti.vt | none => .tup []
def M0 : Addr → Prop := fun _ => False
section
variable {H : Type} {enc : TypeId × Value → H} {P : Program} {w : World} {base : Nat} {spare : Nat → Bool} {held : Bool} {tb : TB}
theorem rs_rw {M : Addr → Prop} {ds : List D} {cs : List Value} {b o : Nat} (h : Rs w M ds cs) (hc : ∀ j u, cs[j]? = some u → w.cell? ⟨b, o + j, none⟩ = some u) (hM : ∀ p, ¬ M p) : Rw w M ds b o :=
 Rw.of fun i d hd => by
  obtain ⟨v, h1, h2⟩ := h.get hd
  exact ⟨v, hc i v h1, hM _, h2⟩
theorem cellsOf_tab (hcx : tbOk P tb tb = true) {d T : Nat} (h : opn tb d T = true) : P.cellsOf T = (tb.tab T).length := by
 obtain ⟨ti, v, h1, h2, h3⟩ := opn_one h
 obtain ⟨i, hi, hs, _⟩ := ty_one hcx h1 h2
 simp [Program.cellsOf, hi, hs, h3]
theorem open_fields {cs : List Value} : ∀ (fl : List (Nat × Nat)) (o : Nat) (ts : List CT), contig tb o ts fl = true →
  (∀ p ∈ fl, ∃ ds, RowTy tb.tab (tb.tab p.2) ds ∧ Rs w M0 ds ((cs.drop p.1).take (tb.tab p.2).length)) → cs.length = o + ts.length → ∃ ds, RowTy tb.tab ts ds ∧ Rs w M0 ds (cs.drop o)
 | [], o, ts, h, _, hl => by
  simp only [contig, List.isEmpty_iff] at h
  subst h
  refine ⟨[], trivial, ?_⟩
  rw [List.drop_eq_nil_of_le (by simp at hl; omega)]; rfl
 | (o', t) :: r, o, ts, h, hf, hl => by
  simp only [contig, Bool.and_eq_true] at h
  obtain ⟨h1, h2⟩ := h
  have h1 := Nat.eq_of_beq_eq_true h1
  subst h1
  cases ht : tb.get t with
  | none => rw [ht] at h2; simp at h2
  | some i =>
   rw [ht] at h2
   simp only [Bool.and_eq_true, decide_eq_true_eq] at h2
   obtain ⟨h2, h3⟩ := h2
   have htab : tb.tab t = i.cells := by simp [TB.tab, ht]
   obtain ⟨ds, q1, q2⟩ := hf (o, t) (by simp)
   simp only [htab] at q1 q2
   have hle : i.cells.length ≤ ts.length := by
    have := congrArg List.length h2
    rw [List.length_take] at this; omega
   obtain ⟨ds', q3, q4⟩ := open_fields r (o + i.cells.length) (ts.drop i.cells.length) h3 (fun p hp => hf p (by simp [hp])) (by rw [List.length_drop]; omega)
   refine ⟨ds ++ ds', ?_, ?_⟩
   ·have : ts = i.cells ++ ts.drop i.cells.length := (List.take_append_drop i.cells.length ts).symm.trans (by rw [h2])
    rw [this]; exact q1.append q3
   ·have : cs.drop o = (cs.drop o).take i.cells.length ++ cs.drop (o + i.cells.length) := by
     rw [← List.drop_drop, List.take_append_drop]
    rw [this]; exact q2.append q4
theorem open_ty (hcx : tbOk P tb tb = true) : ∀ (d T : Nat), opn tb d T = true → ∀ (fuel : Nat) (cs : List Value) (x : DataW H × List MemPlace), DataW.trod enc P w base spare held fuel T cs = some x → ∃ ds, RowTy tb.tab (tb.tab T) ds ∧ Rs w M0 ds cs
 | 0, _, h, _, _, _, _ => by simp [opn] at h
 | d + 1, T, h, fuel, cs, x, hx => by
  simp only [opn] at h
  split at h
  ·simp at h
  ·rename_i ti hti
   have htab : tb.tab T = ti.cells := by simp [TB.tab, hti]
   rw [htab]
   cases hv : ti.vt with
   | tup _ => rw [hv] at h; simp at h
   | one v =>
    rw [hv] at h
    simp only [TI.cells, hv]
    cases v with
    | c t =>
     obtain ⟨i, ds, _, _, _, _, hu, hd⟩ := ty_c hcx hti hv
     cases t with
     | mem => exact hd.elim
     | fn => exact hd.elim
     | bool =>
      simp only [DescC] at hd; subst hd
      obtain ⟨b, rfl, _⟩ := DataW.trod_bool hu hx
      exact ⟨[.bool b], ⟨trivial, trivial⟩, Rs.one rfl⟩
     | int k =>
      simp only [DescC] at hd; subst hd
      obtain ⟨n, rfl, _, hw⟩ := DataW.trod_int hu hx
      exact ⟨[.int k n], ⟨rfl, trivial⟩, Rs.one ⟨rfl, by simpa [Lit.wf] using hw⟩⟩
     | str =>
      simp only [DescC] at hd; subst hd
      obtain ⟨s, rfl, _, hw⟩ := DataW.trod_string hu hx
      exact ⟨[.str s], ⟨trivial, trivial⟩, Rs.one ⟨rfl, hw⟩⟩
     | sl e =>
      simp only [DescC] at hd; subst hd
      simp only [Bool.and_eq_true] at h
      obtain ⟨he, hpos⟩ := h
      have hpos : 0 < (tb.tab e).length := Nat.le_of_ble_eq_true hpos
      have hn := cellsOf_tab hcx he
      rcases Go.Deep.open_slice hu hx with ⟨h0, _⟩ | ⟨a, len, cap, m, n, Dd, Pl, hcs, _, hl, hm, hmm, _, hi⟩
      ·exact ⟨[.sl []], ⟨trivial, trivial⟩, by rw [h0]; exact Rs.one ⟨none, 0, 0, rfl, rfl, Nat.le_refl _, Nat.zero_le _, fun _ => rfl, fun b o s hh => by cases hh⟩⟩
      ·have hlm : len ≤ m := by rw [hmm]; split <;> omega
       have hex : ∀ i, i < len → ∃ q : List Value × List D, w.cells? base (a.add (i * P.cellsOf e)) (P.cellsOf e) = some q.1 ∧ RowTy tb.tab (tb.tab e) q.2 ∧ Rs w M0 q.2 q.1 := fun i hil => by
        obtain ⟨cs', hc, ht'⟩ := hi i (by omega)
        obtain ⟨y, hy1, hy2⟩ := open_ty hcx d e he _ _ _ ht'
        exact ⟨(cs', y), hc, hy1, hy2⟩
       have hch : ∃ f : Nat → List Value × List D, ∀ i, i < len → w.cells? base (a.add (i * P.cellsOf e)) (P.cellsOf e) = some (f i).1 ∧ RowTy tb.tab (tb.tab e) (f i).2 ∧ Rs w M0 (f i).2 (f i).1 := by
        refine ⟨fun i => if hi : i < len then (hex i hi).choose else ([], []), fun i hi => ?_⟩
        simp only [hi, dif_pos]
        exact (hex i hi).choose_spec
       obtain ⟨f, hf⟩ := hch
       have hcell : ∀ i, i < len → ∀ j u, (f i).1[j]? = some u → w.cell? ((a.add (i * P.cellsOf e)).add j) = some u := fun i hil j u hu => by
        obtain ⟨_, hcl, hat⟩ := World.cells?_some (hf i hil).1
        have hj : j < P.cellsOf e := by rw [← hcl]; exact (List.getElem?_eq_some_iff.1 hu).1
        rw [hat j hj, hu]
       have hspot : 0 < len → a.spot = none := fun h0 => by
        have hlen0 : 0 < (f 0).1.length := by rw [(hf 0 h0).2.2.length, (hf 0 h0).2.1.length]; exact hpos
        have hx := hcell 0 h0 0 _ (List.getElem?_eq_getElem hlen0)
        rw [Nat.zero_mul] at hx
        exact World.cell?_spot (a := a) (by simpa [Addr.add] using hx)
       refine ⟨[.sl ((List.range len).map fun i => (f i).2)], ⟨?_, trivial⟩, ?_⟩
       ·refine RowsTy.of fun r hr => ?_
        obtain ⟨i, hi, rfl⟩ := List.mem_map.1 hr
        exact (hf i (by simpa using hi)).2.1
       ·rw [hcs]
        refine Rs.one ⟨some a, len, cap, rfl, by simp, hl, hm, (fun h => by cases h), fun b o s hh => ⟨fun h0 => ?_, ?_⟩⟩
        ·have := hspot h0
         simp only [Option.some.injEq] at hh; subst hh; exact this
        ·simp only [Option.some.injEq] at hh; subst hh
         refine Rws.of (n := (tb.tab e).length) (fun r hr => ?_) fun i r hr => ?_
         ·obtain ⟨i, hi, rfl⟩ := List.mem_map.1 hr
          exact (hf i (by simpa using hi)).2.1.length
         ·have hil : i < len := by
           have := (List.getElem?_eq_some_iff.1 hr).1
           simpa using this
          have hr' : r = (f i).2 := by simp [hil] at hr; exact hr.symm
          subst hr'
          refine rs_rw (hf i hil).2.2 (fun j u hu => ?_) (fun _ h => h)
          have h1 := hcell i hil j u hu
          have hs := hspot (by omega)
          simp only at hs
          subst hs
          rw [hn] at h1
          rwa [addr_add, addr_add] at h1
    | agg ts =>
     simp only [Bool.and_eq_true] at h
     obtain ⟨hc, hall⟩ := h
     obtain ⟨i, fields, zs, hi, hs, _, _, _, hu, hfo⟩ := ty_agg hcx hti hv
     obtain ⟨xs, m, _, _, hl, hxs, hf⟩ := DataW.trod_struct hu hx
     have hlen : cs.length = ts.length := by rw [hl]; simp [Program.cellsOf, hi, hs]
     have key : ∀ p ∈ ti.fs, ∃ ds, RowTy tb.tab (tb.tab p.2) ds ∧ Rs w M0 ds ((cs.drop p.1).take (tb.tab p.2).length) := by
      intro p hp
      have hop := List.all_eq_true.1 hall p hp
      obtain ⟨k, hk⟩ := List.getElem?_of_mem hp
      have hfk : ∃ fd, fields.toList[k]? = some fd ∧ fd.offset = p.1 ∧ fd.type = p.2 := fieldsOk_get hfo hk
      obtain ⟨fd, hfd, e1, e2⟩ := hfk
      have hfd' : fields[k]? = some fd := by simpa using hfd
      have hlt : k < xs.length := by rw [hxs]; exact (Array.getElem?_eq_some_iff.1 hfd').1
      have ht := (hf k fd hfd').trans (List.getElem?_eq_getElem hlt)
      rw [e1, e2, cellsOf_tab hcx hop] at ht
      exact open_ty hcx d p.2 hop _ _ _ ht
     have := open_fields (w := w) ti.fs 0 ts hc key (by omega)
     simpa [V1.cells] using this
theorem open_arg (hcx : tbOk P tb tb = true) {r : Reach} {b0 T : Nat} {v : Value} {dd : DataW H} {p : List MemPlace} (ht : opn tb 12 T = true) (hv : Value.okWide P w r b0 T v) (h : DataW.Trod enc P w base spare held T v dd p) :
  ∃ x, HasVT tb.tab (vtOf tb T) x ∧ R w M0 x v := by
 obtain ⟨fuel, hf⟩ := h
 obtain ⟨ds, h1, h2⟩ := open_ty hcx 12 T ht fuel _ _ hf
 obtain ⟨ti, v1, hti, hv1, htab⟩ := opn_one ht
 rw [htab] at h1
 unfold vtOf
 rw [hti]
 simp only [hv1]
 cases v1 with
 | c t =>
  obtain ⟨_, d, _, _, _, _, hu, hd⟩ := ty_c hcx hti hv1
  have hc : v.cells.toList = [v] := by
   cases t <;> simp only [DescC] at hd <;> subst hd
   ·obtain ⟨_, rfl⟩ := okWide_bool hu hv; rfl
   ·obtain ⟨_, rfl⟩ := okWide_int hu hv; rfl
   ·obtain ⟨_, rfl⟩ := okWide_string hu hv; rfl
   ·obtain ⟨_, _, _, rfl⟩ := okWide_slice hu hv; rfl
  rw [hc] at h2
  match ds, h1 with
  | [x], h1 =>
   obtain ⟨v', q, e, h3, h4⟩ := h2
   simp only [List.cons.injEq] at e
   obtain ⟨rfl, rfl⟩ := e
   exact ⟨x, h1.1, h3⟩
 | agg ts =>
  obtain ⟨_, fields, _, _, _, _, _, _, hu, _⟩ := ty_agg hcx hti hv1
  obtain ⟨cs, rfl, _⟩ := okWide_struct hu hv
  exact ⟨.agg ds, h1, cs, rfl, h2⟩
end
theorem law_run {P : Program} {f : FuncId} {ds : List D} {vs : List Value} {w : World} (h : Fun P f none ds (.bool true) []) (hG : Rdy w M0) (hr : Rs w M0 ds vs) : Calls P f vs.toArray w fun e w' => e = .returned (.bool true) ∧ Below w.heap.size w w' := by
 refine (h.2 w M0 0 vs hG hr (fun cs hcs => by cases hcs)).mono ?_
 rintro e w' ⟨v, rfl, h1, h2, _⟩
 simp only [R] at h1
 subst h1
 exact ⟨rfl, h2.to_below⟩
end Go.Proofs.YtjmakbnblpjkhaaGreatDoor
