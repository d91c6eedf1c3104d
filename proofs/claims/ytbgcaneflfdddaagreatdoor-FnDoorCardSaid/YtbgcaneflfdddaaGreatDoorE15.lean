/- What the reference draws for parts: cores, calls that fit a part. -/
import Derived.Test.YtbgcaneflfdddaaGreatDoorE12
import Derived.Test.YtbgcaneflfdddaaGreatDoorE14
set_option linter.unusedVariables false
set_option linter.unusedSimpArgs false
set_option maxRecDepth 100000
set_option linter.unusedSectionVars false
namespace Go.Proofs.YtbgcaneflfdddaaGreatDoor
open Go.RowKit Go
variable [GC]
def robotN : ByteArray := ⟨#[114, 111, 98, 111, 116]⟩
def isCo (r : D) : Prop := ∃ p : Core, r = enc p ∧ coreB p = true
theorem isCo.ty {r : D} (h : isCo r) : HasVT tbl.tab (.one (.agg [.str, .bool, .bool, .sl 125, .int .i64])) r := by obtain ⟨x, rfl, _⟩ := h; exact ty_Core x
theorem core_mk {k : ByteArray} {on br : Bool} {l : List Cell} {n : Int} (hk : kindOk k = true) (hl : cellsB l = true) (hb : l = [] ∨ (kindN k).testBit 1 = true) (hn : 0 ≤ n ∧ n ≤ 999) (h1 : (kindN k).testBit 0 = true ∨ (on = false ∧ br = false)) (h2 : ¬ (on = true ∧ br = true)) : coreB ⟨k, on, br, l, n⟩ = true :=
 coreB_iff.2 ⟨hk, hl, hb.imp (fun h => by rw [h]; rfl) id, numB_iff.2 hn, h2, h1⟩
theorem kind_lt (s : ByteArray) : kindN s < 64 := by
 unfold kindN
 cases h : kindAt s with
 | none => decide
 | some i =>
  show kindFs.getD i 0 < 64
  have key : ∀ j : Fin 9, kindFs.getD j.val 0 < 64 := by decide
  rcases Nat.lt_or_ge i 9 with h | h
  ·exact key ⟨i, h⟩
  ·rw [List.getD_eq_getElem?_getD, List.getElem?_eq_none (by simp [kindFs]; omega)]; decide
theorem sub999 {y : Int} (h : 0 ≤ y ∧ y < 2) : 0 ≤ arI .sub .i64 999 y ∧ arI .sub .i64 999 y ≤ 999 := by rw [ar_sub (by omega) (by omega)]; omega
set_option maxHeartbeats 4000000 in
theorem d_l3Draw : DrR 87 [] isCo [(3, 2)] := by
 refine DrR.of vc_spec_l3Draw_ok rt_spec_l3Draw_ok rfl ty_spec_l3Draw_ok (fun cs h => by exact cur_tys h) (enc (⟨robotN, false, false, [], 0⟩ : Core)) ⟨_, rfl, by decide +kernel⟩ fun rows i sd f1 hl hr hi => ?_; (simp only [cA]); unfold vc_spec_l3Draw
 (apply den_draw; (iterate 2 (focus (simp only [VC.den, E.den, dEq, gsH_nil, and_true]; try exact rfl))); (focus (exact ⟨_, _, _, rfl, by assumption, by assumption⟩)); (focus (first | exact d_l3Kind | exact Dr.ofR (d_l3Kind))); (focus (exact fun _ h => isS.ty h)); rintro _ rows i sd ⟨s, rfl⟩ hr hi; (simp only [cA]))
 (refine den_call ?_ (c_spec_KindFace s) (⟨rfl, trivial, trivial⟩) ?_; (focus (simp only [VC.den, E.den, dEq, gsH_nil, and_true]; try exact rfl)); (simp only [cA]))
 have hr0 : kindOk robotN = true := by decide +kernel
 have hrn : kindN robotN = 63 := by decide +kernel
 refine den_ite (fun hk => ?_) (fun hk => ?_)
 ·(apply den_draw; (iterate 2 (focus (simp only [VC.den, E.den, dEq, gsH_nil, and_true]; try exact rfl))); (focus (exact ⟨_, _, _, rfl, by assumption, by assumption⟩)); (focus (first | exact d_l1Below _ | exact Dr.ofR (d_l1Below _))); (focus (exact fun _ h => isBel.ty h)); rintro _ rows i sd ⟨n, rfl, hn⟩ hr hi; (simp only [cA]))
  have hn2 := hn.2 (by omega)
  (refine den_call ?_ (c_spec_l2Has 63 0 (by decide) (by decide)) (trivial) ?_; (focus (simp only [VC.den, E.den, dEq, gsH_nil, and_true]; try exact rfl)); (simp only [cA]))
  refine den_ite (fun h0 => ?_) (fun h0 => ?_)
  ·(apply den_draw; (iterate 2 (focus (simp only [VC.den, E.den, dEq, gsH_nil, and_true]; try exact rfl))); (focus (exact ⟨_, _, _, rfl, by assumption, by assumption⟩)); (focus (first | exact d_l1Below _ | exact Dr.ofR (d_l1Below _))); (focus (exact fun _ h => isBel.ty h)); rintro _ rows i sd ⟨x, rfl, hx⟩ hr hi; (simp only [cA]))
   (apply den_draw; (iterate 2 (focus (simp only [VC.den, E.den, dEq, gsH_nil, and_true]; try exact rfl))); (focus (exact ⟨_, _, _, rfl, by assumption, by assumption⟩)); (focus (first | exact d_l1Once _ | exact Dr.ofR (d_l1Once _))); (focus (exact fun _ h => isB.ty h)); rintro _ rows i sd ⟨b, rfl⟩ hr hi; (simp only [cA]))
   cases hg : cmpI .gtr x 0 with
   | false =>
    (refine den_call ?_ (c_spec_l2Has 63 1 (by decide) (by decide)) (trivial) ?_; (focus (simp only [VC.den, E.den, dEq, gsH_nil, and_true]; try exact rfl)); (simp only [cA]))
    refine den_ite (fun h1 => ?_) (fun h1 => ?_)
    ·(apply den_drawR; (focus (simp only [VC.den, E.den, dEq, gsH_nil, and_true, hg, Bool.not_false, Bool.true_and, cond_true]; try exact rfl)); (focus (simp only [VC.den, E.den, dEq, gsH_nil, and_true, hg, Bool.not_false, Bool.true_and, cond_true]; try exact rfl)); (focus (exact ⟨_, _, _, rfl, by assumption, by assumption⟩)); (focus (first | exact d_l3Cells | exact Dr.ofR (d_l3Cells))); (focus (exact fun _ h => isCs.ty h)); rintro _ rows i sd ⟨l, rfl, hl⟩ hr hi; (simp only [cA]))
     (apply den_draw; (iterate 2 (focus (simp only [VC.den, E.den, dEq, gsH_nil, and_true]; try exact rfl))); (focus (exact ⟨_, _, _, rfl, by assumption, by assumption⟩)); (focus (first | exact d_l1Once _ | exact Dr.ofR (d_l1Once _))); (focus (exact fun _ h => isB.ty h)); rintro _ rows i sd ⟨z, rfl⟩ hr hi; (simp only [cA]))
     refine den_ite (fun hz => ?_) (fun hz => ?_)
     ·(apply den_draw; (iterate 2 (focus (simp only [VC.den, E.den, dEq, gsH_nil, and_true]; try exact rfl))); (focus (exact ⟨_, _, _, rfl, by assumption, by assumption⟩)); (focus (first | exact d_l1Below _ | exact Dr.ofR (d_l1Below _))); (focus (exact fun _ h => isBel.ty h)); rintro _ rows i sd ⟨y, rfl, hy⟩ hr hi; (simp only [cA]))
      have hy2 := hy.2 (by omega)
      exact ⟨⟨⟨robotN, cmpI .gtr x 0, (!(cmpI .gtr x 0) && b), l, arI .sub .i64 999 y⟩, rfl, core_mk hr0 hl (.inr (by rw [hrn]; decide)) (sub999 ⟨hy.1, hy2⟩) (.inl (by rw [hrn]; decide)) (by rw [hg]; simp)⟩, _, _, _, rfl, hr, hi⟩
     ·exact ⟨⟨⟨robotN, cmpI .gtr x 0, (!(cmpI .gtr x 0) && b), l, n⟩, rfl, core_mk hr0 hl (.inr (by rw [hrn]; decide)) ⟨hn.1, by omega⟩ (.inl (by rw [hrn]; decide)) (by rw [hg]; simp)⟩, _, _, _, rfl, hr, hi⟩
    ·(apply den_draw; (focus (simp only [VC.den, E.den, dEq, gsH_nil, and_true, hg, Bool.not_false, Bool.true_and, cond_true]; try exact rfl)); (focus (simp only [VC.den, E.den, dEq, gsH_nil, and_true, hg, Bool.not_false, Bool.true_and, cond_true]; try exact rfl)); (focus (exact ⟨_, _, _, rfl, by assumption, by assumption⟩)); (focus (first | exact d_l1Once _ | exact Dr.ofR (d_l1Once _))); (focus (exact fun _ h => isB.ty h)); rintro _ rows i sd ⟨z, rfl⟩ hr hi; (simp only [cA]))
     refine den_ite (fun hz => ?_) (fun hz => ?_)
     ·(apply den_draw; (iterate 2 (focus (simp only [VC.den, E.den, dEq, gsH_nil, and_true]; try exact rfl))); (focus (exact ⟨_, _, _, rfl, by assumption, by assumption⟩)); (focus (first | exact d_l1Below _ | exact Dr.ofR (d_l1Below _))); (focus (exact fun _ h => isBel.ty h)); rintro _ rows i sd ⟨y, rfl, hy⟩ hr hi; (simp only [cA]))
      have hy2 := hy.2 (by omega)
      exact ⟨⟨⟨robotN, cmpI .gtr x 0, (!(cmpI .gtr x 0) && b), [], arI .sub .i64 999 y⟩, rfl, core_mk hr0 (by decide) (.inl rfl) (sub999 ⟨hy.1, hy2⟩) (.inl (by rw [hrn]; decide)) (by rw [hg]; simp)⟩, _, _, _, rfl, hr, hi⟩
     ·exact ⟨⟨⟨robotN, cmpI .gtr x 0, (!(cmpI .gtr x 0) && b), [], n⟩, rfl, core_mk hr0 (by decide) (.inl rfl) ⟨hn.1, by omega⟩ (.inl (by rw [hrn]; decide)) (by rw [hg]; simp)⟩, _, _, _, rfl, hr, hi⟩
   | true =>
    (refine den_call ?_ (c_spec_l2Has 63 1 (by decide) (by decide)) (trivial) ?_; (focus (simp only [VC.den, E.den, dEq, gsH_nil, and_true]; try exact rfl)); (simp only [cA]))
    refine den_ite (fun h1 => ?_) (fun h1 => ?_)
    ·(apply den_drawR; (focus (simp only [VC.den, E.den, dEq, gsH_nil, and_true, hg, Bool.not_true, Bool.false_and, cond_false]; try exact rfl)); (focus (simp only [VC.den, E.den, dEq, gsH_nil, and_true, hg, Bool.not_true, Bool.false_and, cond_false]; try exact rfl)); (focus (exact ⟨_, _, _, rfl, by assumption, by assumption⟩)); (focus (first | exact d_l3Cells | exact Dr.ofR (d_l3Cells))); (focus (exact fun _ h => isCs.ty h)); rintro _ rows i sd ⟨l, rfl, hl⟩ hr hi; (simp only [cA]))
     (apply den_draw; (iterate 2 (focus (simp only [VC.den, E.den, dEq, gsH_nil, and_true]; try exact rfl))); (focus (exact ⟨_, _, _, rfl, by assumption, by assumption⟩)); (focus (first | exact d_l1Once _ | exact Dr.ofR (d_l1Once _))); (focus (exact fun _ h => isB.ty h)); rintro _ rows i sd ⟨z, rfl⟩ hr hi; (simp only [cA]))
     refine den_ite (fun hz => ?_) (fun hz => ?_)
     ·(apply den_draw; (iterate 2 (focus (simp only [VC.den, E.den, dEq, gsH_nil, and_true]; try exact rfl))); (focus (exact ⟨_, _, _, rfl, by assumption, by assumption⟩)); (focus (first | exact d_l1Below _ | exact Dr.ofR (d_l1Below _))); (focus (exact fun _ h => isBel.ty h)); rintro _ rows i sd ⟨y, rfl, hy⟩ hr hi; (simp only [cA]))
      have hy2 := hy.2 (by omega)
      exact ⟨⟨⟨robotN, cmpI .gtr x 0, (!(cmpI .gtr x 0) && b), l, arI .sub .i64 999 y⟩, rfl, core_mk hr0 hl (.inr (by rw [hrn]; decide)) (sub999 ⟨hy.1, hy2⟩) (.inl (by rw [hrn]; decide)) (by rw [hg]; simp)⟩, _, _, _, rfl, hr, hi⟩
     ·exact ⟨⟨⟨robotN, cmpI .gtr x 0, (!(cmpI .gtr x 0) && b), l, n⟩, rfl, core_mk hr0 hl (.inr (by rw [hrn]; decide)) ⟨hn.1, by omega⟩ (.inl (by rw [hrn]; decide)) (by rw [hg]; simp)⟩, _, _, _, rfl, hr, hi⟩
    ·(apply den_draw; (focus (simp only [VC.den, E.den, dEq, gsH_nil, and_true, hg, Bool.not_true, Bool.false_and, cond_false]; try exact rfl)); (focus (simp only [VC.den, E.den, dEq, gsH_nil, and_true, hg, Bool.not_true, Bool.false_and, cond_false]; try exact rfl)); (focus (exact ⟨_, _, _, rfl, by assumption, by assumption⟩)); (focus (first | exact d_l1Once _ | exact Dr.ofR (d_l1Once _))); (focus (exact fun _ h => isB.ty h)); rintro _ rows i sd ⟨z, rfl⟩ hr hi; (simp only [cA]))
     refine den_ite (fun hz => ?_) (fun hz => ?_)
     ·(apply den_draw; (iterate 2 (focus (simp only [VC.den, E.den, dEq, gsH_nil, and_true]; try exact rfl))); (focus (exact ⟨_, _, _, rfl, by assumption, by assumption⟩)); (focus (first | exact d_l1Below _ | exact Dr.ofR (d_l1Below _))); (focus (exact fun _ h => isBel.ty h)); rintro _ rows i sd ⟨y, rfl, hy⟩ hr hi; (simp only [cA]))
      have hy2 := hy.2 (by omega)
      exact ⟨⟨⟨robotN, cmpI .gtr x 0, (!(cmpI .gtr x 0) && b), [], arI .sub .i64 999 y⟩, rfl, core_mk hr0 (by decide) (.inl rfl) (sub999 ⟨hy.1, hy2⟩) (.inl (by rw [hrn]; decide)) (by rw [hg]; simp)⟩, _, _, _, rfl, hr, hi⟩
     ·exact ⟨⟨⟨robotN, cmpI .gtr x 0, (!(cmpI .gtr x 0) && b), [], n⟩, rfl, core_mk hr0 (by decide) (.inl rfl) ⟨hn.1, by omega⟩ (.inl (by rw [hrn]; decide)) (by rw [hg]; simp)⟩, _, _, _, rfl, hr, hi⟩
  ·(refine den_call ?_ (c_spec_l2Has 63 1 (by decide) (by decide)) (trivial) ?_; (focus (simp only [VC.den, E.den, dEq, gsH_nil, and_true]; try exact rfl)); (simp only [cA]))
   refine den_ite (fun h1 => ?_) (fun h1 => ?_)
   ·(apply den_drawR; (iterate 2 (focus (simp only [VC.den, E.den, dEq, gsH_nil, and_true]; try exact rfl))); (focus (exact ⟨_, _, _, rfl, by assumption, by assumption⟩)); (focus (first | exact d_l3Cells | exact Dr.ofR (d_l3Cells))); (focus (exact fun _ h => isCs.ty h)); rintro _ rows i sd ⟨l, rfl, hl⟩ hr hi; (simp only [cA]))
    (apply den_draw; (iterate 2 (focus (simp only [VC.den, E.den, dEq, gsH_nil, and_true]; try exact rfl))); (focus (exact ⟨_, _, _, rfl, by assumption, by assumption⟩)); (focus (first | exact d_l1Once _ | exact Dr.ofR (d_l1Once _))); (focus (exact fun _ h => isB.ty h)); rintro _ rows i sd ⟨z, rfl⟩ hr hi; (simp only [cA]))
    refine den_ite (fun hz => ?_) (fun hz => ?_)
    ·(apply den_draw; (iterate 2 (focus (simp only [VC.den, E.den, dEq, gsH_nil, and_true]; try exact rfl))); (focus (exact ⟨_, _, _, rfl, by assumption, by assumption⟩)); (focus (first | exact d_l1Below _ | exact Dr.ofR (d_l1Below _))); (focus (exact fun _ h => isBel.ty h)); rintro _ rows i sd ⟨y, rfl, hy⟩ hr hi; (simp only [cA]))
     have hy2 := hy.2 (by omega)
     exact ⟨⟨⟨robotN, false, false, l, arI .sub .i64 999 y⟩, rfl, core_mk hr0 hl (.inr (by rw [hrn]; decide)) (sub999 ⟨hy.1, hy2⟩) (.inr ⟨rfl, rfl⟩) (by simp)⟩, _, _, _, rfl, hr, hi⟩
    ·exact ⟨⟨⟨robotN, false, false, l, n⟩, rfl, core_mk hr0 hl (.inr (by rw [hrn]; decide)) ⟨hn.1, by omega⟩ (.inr ⟨rfl, rfl⟩) (by simp)⟩, _, _, _, rfl, hr, hi⟩
   ·(apply den_draw; (iterate 2 (focus (simp only [VC.den, E.den, dEq, gsH_nil, and_true]; try exact rfl))); (focus (exact ⟨_, _, _, rfl, by assumption, by assumption⟩)); (focus (first | exact d_l1Once _ | exact Dr.ofR (d_l1Once _))); (focus (exact fun _ h => isB.ty h)); rintro _ rows i sd ⟨z, rfl⟩ hr hi; (simp only [cA]))
    refine den_ite (fun hz => ?_) (fun hz => ?_)
    ·(apply den_draw; (iterate 2 (focus (simp only [VC.den, E.den, dEq, gsH_nil, and_true]; try exact rfl))); (focus (exact ⟨_, _, _, rfl, by assumption, by assumption⟩)); (focus (first | exact d_l1Below _ | exact Dr.ofR (d_l1Below _))); (focus (exact fun _ h => isBel.ty h)); rintro _ rows i sd ⟨y, rfl, hy⟩ hr hi; (simp only [cA]))
     have hy2 := hy.2 (by omega)
     exact ⟨⟨⟨robotN, false, false, [], arI .sub .i64 999 y⟩, rfl, core_mk hr0 (by decide) (.inl rfl) (sub999 ⟨hy.1, hy2⟩) (.inr ⟨rfl, rfl⟩) (by simp)⟩, _, _, _, rfl, hr, hi⟩
    ·exact ⟨⟨⟨robotN, false, false, [], n⟩, rfl, core_mk hr0 (by decide) (.inl rfl) ⟨hn.1, by omega⟩ (.inr ⟨rfl, rfl⟩) (by simp)⟩, _, _, _, rfl, hr, hi⟩
 ·have hok : kindOk s = true := by simpa [E.den] using hk
  (apply den_draw; (iterate 2 (focus (simp only [VC.den, E.den, dEq, gsH_nil, and_true]; try exact rfl))); (focus (exact ⟨_, _, _, rfl, by assumption, by assumption⟩)); (focus (first | exact d_l1Below _ | exact Dr.ofR (d_l1Below _))); (focus (exact fun _ h => isBel.ty h)); rintro _ rows i sd ⟨n, rfl, hn⟩ hr hi; (simp only [cA]))
  have hn2 := hn.2 (by omega)
  (refine den_call ?_ (c_spec_l2Has (kindN s) 0 (kind_lt s) (by decide)) (trivial) ?_; (focus (simp only [VC.den, E.den, dEq, gsH_nil, and_true]; try exact rfl)); (simp only [cA]))
  refine den_ite (fun h0 => ?_) (fun h0 => ?_)
  ·(apply den_draw; (iterate 2 (focus (simp only [VC.den, E.den, dEq, gsH_nil, and_true]; try exact rfl))); (focus (exact ⟨_, _, _, rfl, by assumption, by assumption⟩)); (focus (first | exact d_l1Below _ | exact Dr.ofR (d_l1Below _))); (focus (exact fun _ h => isBel.ty h)); rintro _ rows i sd ⟨x, rfl, hx⟩ hr hi; (simp only [cA]))
   (apply den_draw; (iterate 2 (focus (simp only [VC.den, E.den, dEq, gsH_nil, and_true]; try exact rfl))); (focus (exact ⟨_, _, _, rfl, by assumption, by assumption⟩)); (focus (first | exact d_l1Once _ | exact Dr.ofR (d_l1Once _))); (focus (exact fun _ h => isB.ty h)); rintro _ rows i sd ⟨b, rfl⟩ hr hi; (simp only [cA]))
   cases hg : cmpI .gtr x 0 with
   | false =>
    (refine den_call ?_ (c_spec_l2Has (kindN s) 1 (kind_lt s) (by decide)) (trivial) ?_; (focus (simp only [VC.den, E.den, dEq, gsH_nil, and_true]; try exact rfl)); (simp only [cA]))
    refine den_ite (fun h1 => ?_) (fun h1 => ?_)
    ·(apply den_drawR; (focus (simp only [VC.den, E.den, dEq, gsH_nil, and_true, hg, Bool.not_false, Bool.true_and, cond_true]; try exact rfl)); (focus (simp only [VC.den, E.den, dEq, gsH_nil, and_true, hg, Bool.not_false, Bool.true_and, cond_true]; try exact rfl)); (focus (exact ⟨_, _, _, rfl, by assumption, by assumption⟩)); (focus (first | exact d_l3Cells | exact Dr.ofR (d_l3Cells))); (focus (exact fun _ h => isCs.ty h)); rintro _ rows i sd ⟨l, rfl, hl⟩ hr hi; (simp only [cA]))
     (apply den_draw; (iterate 2 (focus (simp only [VC.den, E.den, dEq, gsH_nil, and_true]; try exact rfl))); (focus (exact ⟨_, _, _, rfl, by assumption, by assumption⟩)); (focus (first | exact d_l1Once _ | exact Dr.ofR (d_l1Once _))); (focus (exact fun _ h => isB.ty h)); rintro _ rows i sd ⟨z, rfl⟩ hr hi; (simp only [cA]))
     refine den_ite (fun hz => ?_) (fun hz => ?_)
     ·(apply den_draw; (iterate 2 (focus (simp only [VC.den, E.den, dEq, gsH_nil, and_true]; try exact rfl))); (focus (exact ⟨_, _, _, rfl, by assumption, by assumption⟩)); (focus (first | exact d_l1Below _ | exact Dr.ofR (d_l1Below _))); (focus (exact fun _ h => isBel.ty h)); rintro _ rows i sd ⟨y, rfl, hy⟩ hr hi; (simp only [cA]))
      have hy2 := hy.2 (by omega)
      exact ⟨⟨⟨s, cmpI .gtr x 0, (!(cmpI .gtr x 0) && b), l, arI .sub .i64 999 y⟩, rfl, core_mk hok hl (.inr (by simpa [E.den] using h1)) (sub999 ⟨hy.1, hy2⟩) (.inl (by simpa [E.den] using h0)) (by rw [hg]; simp)⟩, _, _, _, rfl, hr, hi⟩
     ·exact ⟨⟨⟨s, cmpI .gtr x 0, (!(cmpI .gtr x 0) && b), l, n⟩, rfl, core_mk hok hl (.inr (by simpa [E.den] using h1)) ⟨hn.1, by omega⟩ (.inl (by simpa [E.den] using h0)) (by rw [hg]; simp)⟩, _, _, _, rfl, hr, hi⟩
    ·(apply den_draw; (focus (simp only [VC.den, E.den, dEq, gsH_nil, and_true, hg, Bool.not_false, Bool.true_and, cond_true]; try exact rfl)); (focus (simp only [VC.den, E.den, dEq, gsH_nil, and_true, hg, Bool.not_false, Bool.true_and, cond_true]; try exact rfl)); (focus (exact ⟨_, _, _, rfl, by assumption, by assumption⟩)); (focus (first | exact d_l1Once _ | exact Dr.ofR (d_l1Once _))); (focus (exact fun _ h => isB.ty h)); rintro _ rows i sd ⟨z, rfl⟩ hr hi; (simp only [cA]))
     refine den_ite (fun hz => ?_) (fun hz => ?_)
     ·(apply den_draw; (iterate 2 (focus (simp only [VC.den, E.den, dEq, gsH_nil, and_true]; try exact rfl))); (focus (exact ⟨_, _, _, rfl, by assumption, by assumption⟩)); (focus (first | exact d_l1Below _ | exact Dr.ofR (d_l1Below _))); (focus (exact fun _ h => isBel.ty h)); rintro _ rows i sd ⟨y, rfl, hy⟩ hr hi; (simp only [cA]))
      have hy2 := hy.2 (by omega)
      exact ⟨⟨⟨s, cmpI .gtr x 0, (!(cmpI .gtr x 0) && b), [], arI .sub .i64 999 y⟩, rfl, core_mk hok (by decide) (.inl rfl) (sub999 ⟨hy.1, hy2⟩) (.inl (by simpa [E.den] using h0)) (by rw [hg]; simp)⟩, _, _, _, rfl, hr, hi⟩
     ·exact ⟨⟨⟨s, cmpI .gtr x 0, (!(cmpI .gtr x 0) && b), [], n⟩, rfl, core_mk hok (by decide) (.inl rfl) ⟨hn.1, by omega⟩ (.inl (by simpa [E.den] using h0)) (by rw [hg]; simp)⟩, _, _, _, rfl, hr, hi⟩
   | true =>
    (refine den_call ?_ (c_spec_l2Has (kindN s) 1 (kind_lt s) (by decide)) (trivial) ?_; (focus (simp only [VC.den, E.den, dEq, gsH_nil, and_true]; try exact rfl)); (simp only [cA]))
    refine den_ite (fun h1 => ?_) (fun h1 => ?_)
    ·(apply den_drawR; (focus (simp only [VC.den, E.den, dEq, gsH_nil, and_true, hg, Bool.not_true, Bool.false_and, cond_false]; try exact rfl)); (focus (simp only [VC.den, E.den, dEq, gsH_nil, and_true, hg, Bool.not_true, Bool.false_and, cond_false]; try exact rfl)); (focus (exact ⟨_, _, _, rfl, by assumption, by assumption⟩)); (focus (first | exact d_l3Cells | exact Dr.ofR (d_l3Cells))); (focus (exact fun _ h => isCs.ty h)); rintro _ rows i sd ⟨l, rfl, hl⟩ hr hi; (simp only [cA]))
     (apply den_draw; (iterate 2 (focus (simp only [VC.den, E.den, dEq, gsH_nil, and_true]; try exact rfl))); (focus (exact ⟨_, _, _, rfl, by assumption, by assumption⟩)); (focus (first | exact d_l1Once _ | exact Dr.ofR (d_l1Once _))); (focus (exact fun _ h => isB.ty h)); rintro _ rows i sd ⟨z, rfl⟩ hr hi; (simp only [cA]))
     refine den_ite (fun hz => ?_) (fun hz => ?_)
     ·(apply den_draw; (iterate 2 (focus (simp only [VC.den, E.den, dEq, gsH_nil, and_true]; try exact rfl))); (focus (exact ⟨_, _, _, rfl, by assumption, by assumption⟩)); (focus (first | exact d_l1Below _ | exact Dr.ofR (d_l1Below _))); (focus (exact fun _ h => isBel.ty h)); rintro _ rows i sd ⟨y, rfl, hy⟩ hr hi; (simp only [cA]))
      have hy2 := hy.2 (by omega)
      exact ⟨⟨⟨s, cmpI .gtr x 0, (!(cmpI .gtr x 0) && b), l, arI .sub .i64 999 y⟩, rfl, core_mk hok hl (.inr (by simpa [E.den] using h1)) (sub999 ⟨hy.1, hy2⟩) (.inl (by simpa [E.den] using h0)) (by rw [hg]; simp)⟩, _, _, _, rfl, hr, hi⟩
     ·exact ⟨⟨⟨s, cmpI .gtr x 0, (!(cmpI .gtr x 0) && b), l, n⟩, rfl, core_mk hok hl (.inr (by simpa [E.den] using h1)) ⟨hn.1, by omega⟩ (.inl (by simpa [E.den] using h0)) (by rw [hg]; simp)⟩, _, _, _, rfl, hr, hi⟩
    ·(apply den_draw; (focus (simp only [VC.den, E.den, dEq, gsH_nil, and_true, hg, Bool.not_true, Bool.false_and, cond_false]; try exact rfl)); (focus (simp only [VC.den, E.den, dEq, gsH_nil, and_true, hg, Bool.not_true, Bool.false_and, cond_false]; try exact rfl)); (focus (exact ⟨_, _, _, rfl, by assumption, by assumption⟩)); (focus (first | exact d_l1Once _ | exact Dr.ofR (d_l1Once _))); (focus (exact fun _ h => isB.ty h)); rintro _ rows i sd ⟨z, rfl⟩ hr hi; (simp only [cA]))
     refine den_ite (fun hz => ?_) (fun hz => ?_)
     ·(apply den_draw; (iterate 2 (focus (simp only [VC.den, E.den, dEq, gsH_nil, and_true]; try exact rfl))); (focus (exact ⟨_, _, _, rfl, by assumption, by assumption⟩)); (focus (first | exact d_l1Below _ | exact Dr.ofR (d_l1Below _))); (focus (exact fun _ h => isBel.ty h)); rintro _ rows i sd ⟨y, rfl, hy⟩ hr hi; (simp only [cA]))
      have hy2 := hy.2 (by omega)
      exact ⟨⟨⟨s, cmpI .gtr x 0, (!(cmpI .gtr x 0) && b), [], arI .sub .i64 999 y⟩, rfl, core_mk hok (by decide) (.inl rfl) (sub999 ⟨hy.1, hy2⟩) (.inl (by simpa [E.den] using h0)) (by rw [hg]; simp)⟩, _, _, _, rfl, hr, hi⟩
     ·exact ⟨⟨⟨s, cmpI .gtr x 0, (!(cmpI .gtr x 0) && b), [], n⟩, rfl, core_mk hok (by decide) (.inl rfl) ⟨hn.1, by omega⟩ (.inl (by simpa [E.den] using h0)) (by rw [hg]; simp)⟩, _, _, _, rfl, hr, hi⟩
  ·(refine den_call ?_ (c_spec_l2Has (kindN s) 1 (kind_lt s) (by decide)) (trivial) ?_; (focus (simp only [VC.den, E.den, dEq, gsH_nil, and_true]; try exact rfl)); (simp only [cA]))
   refine den_ite (fun h1 => ?_) (fun h1 => ?_)
   ·(apply den_drawR; (iterate 2 (focus (simp only [VC.den, E.den, dEq, gsH_nil, and_true]; try exact rfl))); (focus (exact ⟨_, _, _, rfl, by assumption, by assumption⟩)); (focus (first | exact d_l3Cells | exact Dr.ofR (d_l3Cells))); (focus (exact fun _ h => isCs.ty h)); rintro _ rows i sd ⟨l, rfl, hl⟩ hr hi; (simp only [cA]))
    (apply den_draw; (iterate 2 (focus (simp only [VC.den, E.den, dEq, gsH_nil, and_true]; try exact rfl))); (focus (exact ⟨_, _, _, rfl, by assumption, by assumption⟩)); (focus (first | exact d_l1Once _ | exact Dr.ofR (d_l1Once _))); (focus (exact fun _ h => isB.ty h)); rintro _ rows i sd ⟨z, rfl⟩ hr hi; (simp only [cA]))
    refine den_ite (fun hz => ?_) (fun hz => ?_)
    ·(apply den_draw; (iterate 2 (focus (simp only [VC.den, E.den, dEq, gsH_nil, and_true]; try exact rfl))); (focus (exact ⟨_, _, _, rfl, by assumption, by assumption⟩)); (focus (first | exact d_l1Below _ | exact Dr.ofR (d_l1Below _))); (focus (exact fun _ h => isBel.ty h)); rintro _ rows i sd ⟨y, rfl, hy⟩ hr hi; (simp only [cA]))
     have hy2 := hy.2 (by omega)
     exact ⟨⟨⟨s, false, false, l, arI .sub .i64 999 y⟩, rfl, core_mk hok hl (.inr (by simpa [E.den] using h1)) (sub999 ⟨hy.1, hy2⟩) (.inr ⟨rfl, rfl⟩) (by simp)⟩, _, _, _, rfl, hr, hi⟩
    ·exact ⟨⟨⟨s, false, false, l, n⟩, rfl, core_mk hok hl (.inr (by simpa [E.den] using h1)) ⟨hn.1, by omega⟩ (.inr ⟨rfl, rfl⟩) (by simp)⟩, _, _, _, rfl, hr, hi⟩
   ·(apply den_draw; (iterate 2 (focus (simp only [VC.den, E.den, dEq, gsH_nil, and_true]; try exact rfl))); (focus (exact ⟨_, _, _, rfl, by assumption, by assumption⟩)); (focus (first | exact d_l1Once _ | exact Dr.ofR (d_l1Once _))); (focus (exact fun _ h => isB.ty h)); rintro _ rows i sd ⟨z, rfl⟩ hr hi; (simp only [cA]))
    refine den_ite (fun hz => ?_) (fun hz => ?_)
    ·(apply den_draw; (iterate 2 (focus (simp only [VC.den, E.den, dEq, gsH_nil, and_true]; try exact rfl))); (focus (exact ⟨_, _, _, rfl, by assumption, by assumption⟩)); (focus (first | exact d_l1Below _ | exact Dr.ofR (d_l1Below _))); (focus (exact fun _ h => isBel.ty h)); rintro _ rows i sd ⟨y, rfl, hy⟩ hr hi; (simp only [cA]))
     have hy2 := hy.2 (by omega)
     exact ⟨⟨⟨s, false, false, [], arI .sub .i64 999 y⟩, rfl, core_mk hok (by decide) (.inl rfl) (sub999 ⟨hy.1, hy2⟩) (.inr ⟨rfl, rfl⟩) (by simp)⟩, _, _, _, rfl, hr, hi⟩
    ·exact ⟨⟨⟨s, false, false, [], n⟩, rfl, core_mk hok (by decide) (.inl rfl) ⟨hn.1, by omega⟩ (.inr ⟨rfl, rfl⟩) (by simp)⟩, _, _, _, rfl, hr, hi⟩
theorem coreB_len {p : Core} (h : coreB p = true) : p.cells.length ≤ 4 := cellsB_len (coreB_iff.1 h).2.1
def isCw (r : D) : Prop := ∃ p : Core, r = enc p ∧ p.cells.length ≤ 5
set_option maxHeartbeats 4000000 in
theorem d_l3Any : DrR 101 [] isCw [(3, 2)] := by
 refine DrR.of vc_spec_l3Any_ok rt_spec_l3Any_ok rfl ty_spec_l3Any_ok (fun cs h => by exact cur_tys h) (enc (⟨robotN, false, false, [], 0⟩ : Core)) ⟨_, rfl, by decide⟩ fun rows i sd f1 hl hr hi => ?_; (simp only [cA]); unfold vc_spec_l3Any
 (apply den_drawR; (iterate 2 (focus (simp only [VC.den, E.den, dEq, gsH_nil, and_true]; try exact rfl))); (focus (exact ⟨_, _, _, rfl, by assumption, by assumption⟩)); (focus (first | exact d_l3Draw | exact Dr.ofR (d_l3Draw))); (focus (exact fun _ h => isCo.ty h)); rintro _ rows i sd ⟨p, rfl, hp⟩ hr hi; (simp only [cA]))
 have h4 := coreB_len hp
 (apply den_draw; (iterate 2 (focus (simp only [VC.den, E.den, dEq, gsH_nil, and_true]; try exact rfl))); (focus (exact ⟨_, _, _, rfl, by assumption, by assumption⟩)); (focus (first | exact d_l1Below _ | exact Dr.ofR (d_l1Below _))); (focus (exact fun _ h => isBel.ty h)); rintro _ rows i sd ⟨n, rfl, hn⟩ hr hi; (simp only [cA]))
 refine den_ite (fun h => ?_) (fun h => ?_)
 ·(apply den_draw; (iterate 2 (focus (simp only [VC.den, E.den, dEq, gsH_nil, and_true]; try exact rfl))); (focus (exact ⟨_, _, _, rfl, by assumption, by assumption⟩)); (focus (first | exact d_l1Str _ (by decide) rfl | exact Dr.ofR (d_l1Str _ (by decide) rfl))); (focus (exact fun _ h => isS.ty h)); rintro _ rows i sd ⟨s, rfl⟩ hr hi; (simp only [cA]))
  exact ⟨⟨⟨s, p.on, p.broken, p.cells, p.count⟩, rfl, by simp only; omega⟩, _, _, _, rfl, hr, hi⟩
 refine den_ite (fun h => ?_) (fun h => ?_)
 ·exact ⟨⟨⟨p.kind, true, p.broken, p.cells, p.count⟩, rfl, by simp only; omega⟩, _, _, _, rfl, hr, hi⟩
 refine den_ite (fun h => ?_) (fun h => ?_)
 ·exact ⟨⟨⟨p.kind, p.on, true, p.cells, p.count⟩, rfl, by simp only; omega⟩, _, _, _, rfl, hr, hi⟩
 refine den_ite (fun h => ?_) (fun h => ?_)
 ·(apply den_draw; (iterate 2 (focus (simp only [VC.den, E.den, dEq, gsH_nil, and_true]; try exact rfl))); (focus (exact ⟨_, _, _, rfl, by assumption, by assumption⟩)); (focus (first | exact d_l1Word | exact Dr.ofR (d_l1Word))); (focus (exact fun _ h => isS.ty h)); rintro _ rows i sd ⟨s, rfl⟩ hr hi; (simp only [cA]))
  (apply den_draw; (iterate 2 (focus (simp only [VC.den, E.den, dEq, gsH_nil, and_true]; try exact rfl))); (focus (exact ⟨_, _, _, rfl, by assumption, by assumption⟩)); (focus (first | exact d_l1Odd | exact Dr.ofR (d_l1Odd))); (focus (exact fun _ h => isI.ty h)); rintro _ rows i sd ⟨v, rfl⟩ hr hi; (simp only [cA]))
  refine den_cond (fun _ => ?_) ?_
  ·simp only [E.den, dEq, iEq, sEq, cells_Core]; simp; omega
  exact ⟨⟨⟨p.kind, p.on, p.broken, p.cells ++ [⟨s, v⟩], p.count⟩, by simp only [E.den, dEq, iEq, sEq, cells_Core]; simp [enc, encS, cells_Core, cells_Cell], by simp; omega⟩, _, _, _, rfl, hr, hi⟩
 refine den_ite (fun h => ?_) (fun h => ?_)
 ·(apply den_draw; (iterate 2 (focus (simp only [VC.den, E.den, dEq, gsH_nil, and_true]; try exact rfl))); (focus (exact ⟨_, _, _, rfl, by assumption, by assumption⟩)); (focus (first | exact d_l1Odd | exact Dr.ofR (d_l1Odd))); (focus (exact fun _ h => isI.ty h)); rintro _ rows i sd ⟨v, rfl⟩ hr hi; (simp only [cA]))
  exact ⟨⟨⟨p.kind, p.on, p.broken, p.cells, v⟩, rfl, by simp only; omega⟩, _, _, _, rfl, hr, hi⟩
 ·exact ⟨⟨p, rfl, by omega⟩, _, _, _, rfl, hr, hi⟩
structure LcSt where
 k : Nat
 rows : List (List D)
 i : Int
 h : Int
 x : Call
def LcSt.lay (s : LcSt) : List D := [.int .i64 s.k, .sl s.rows, .int .i64 s.i, .int .i64 s.h, .str s.x.method, .str s.x.key, .int .i64 s.x.val, .str s.x.text]
theorem d_l4Call (p : Part) : Dr 53 [enc p] isCl := by
 refine Dr.of vc_spec_l4Call_ok rfl ty_spec_l4Call_ok (fun cs h => by exact ⟨ty_Part p, cur_tys h⟩) (enc (⟨noText, noText, 0, noText⟩ : Call)) ⟨_, rfl, show noText.size ≤ 100 by decide⟩ fun rows i sd f1 hl hr hi => ?_; (simp only [cA]); unfold vc_spec_l4Call
 (apply den_draw; (iterate 2 (focus (simp only [VC.den, E.den, dEq, gsH_nil, and_true]; try exact rfl))); (focus (exact ⟨_, _, _, rfl, by assumption, by assumption⟩)); (focus (first | exact d_l3AnyCall | exact Dr.ofR (d_l3AnyCall))); (focus (exact fun _ h => isCl.ty h)); rintro _ rows i sd ⟨x, rfl, hx⟩ hr hi; (simp only [cA]))
 refine den_loop LcSt LcSt.lay (fun s => s.k ≤ 4 ∧ RowsTy tbl.tab [.int .u8] s.rows ∧ 0 ≤ s.i ∧ s.x.text.size ≤ 100) (fun s => 4 - s.k) ⟨0, rows, i, sd, x⟩ (fun s s' h => by simp [LcSt.lay] at h; omega) rfl ⟨by simp, hr, hi, hx⟩ ?_
 rintro ⟨k, rows, i, sd, x⟩ ⟨hk, hr, hi, hx⟩ -
 simp only at hk hr hi hx
 simp only [LcSt.lay, List.cons_append, List.nil_append]
 (refine den_call ?_ (c_spec_FaceOf p) (rfl) ?_; (focus (simp only [VC.den, E.den, dEq, gsH_nil, and_true]; try exact rfl)); (simp only [cA]))
 (refine den_call ?_ (c_spec_WantOf x.method) (rfl) ?_; (focus (simp only [VC.den, E.den, dEq, gsH_nil, and_true]; try exact rfl)); (simp only [cA]))
 (refine den_call ?_ (c_spec_Offers (faceOf p) (wantZ x.method)) (trivial) ?_; (focus (simp only [VC.den, E.den, dEq, gsH_nil, and_true]; try exact rfl)); (simp only [cA]))
 refine den_ite (fun h => ?_) (fun h => ?_)
 ·simp only [E.den, dEq, iEq, sEq] at h
  have hk4 : k < 4 := by simp at h; omega
  (apply den_draw; (iterate 2 (focus (simp only [VC.den, E.den, dEq, gsH_nil, and_true]; try exact rfl))); (focus (exact ⟨_, _, _, rfl, by assumption, by assumption⟩)); (focus (first | exact d_l3Call | exact Dr.ofR (d_l3Call))); (focus (exact fun _ h => isCl.ty h)); rintro _ rows i sd ⟨x', rfl, hx'⟩ hr hi; (simp only [cA]))
  refine ⟨⟨k + 1, rows, i, sd, x'⟩, ?_, ⟨by simp only; omega, hr, hi, hx'⟩, by simp only; omega⟩
  simp [E.den, LcSt.lay, cells_Call]
  rw [ar_add (by omega) (by omega)]
 ·exact ⟨⟨x, rfl, hx⟩, _, _, _, rfl, hr, hi⟩
end Go.Proofs.YtbgcaneflfdddaaGreatDoor
/- A region of the reference's draw of a part: a layer is drawn and laid on, in whatever order its operations come. -/
namespace Go.Proofs.YtbgcaneflfdddaaGreatDoor
open Go.RowKit Go
variable [GC]
def lq (l : List Nat) : Array Bool := ((List.range 13).map fun i => l.any (Nat.beq i)).toArray
def qp (g3 : Nat) (p : Part) (S1 S2 : Value) : World → Prop := fun W => RBlk W g3 29 (partA p S1 S2)
abbrev ev4 (gc g2 g3 : Nat) (m : Int) (l : List (Nat × Value)) : List (Nat × Value) := (0, PQ gc) :: (2, PQ g2) :: (3, PQ g3) :: (4, .int .i64 m) :: l
structure A5 (w0 : World) (g2 g3 : Nat) (Ba : Addr → Prop) (S1 S2 : Value) (T : TypeId) (z : Array Value) (b : Nat) (W : World) : Prop where
 r : RBlk W b T z
 k : ∀ q : Addr, q.block = b → Ba q
 ge : w0.heap.size ≤ b
 n2 : b ≠ g2
 n3 : b ≠ g3
 o1 : ¬ OutB S1 b
 o2 : ¬ OutB S2 b
theorem A5.more {w0 : World} {g2 g3 : Nat} {Ba Ba' : Addr → Prop} {S1 S2 : Value} {T : TypeId} {z : Array Value} {b : Nat} {W W' : World} (h : A5 w0 g2 g3 Ba S1 S2 T z b W) (hb : Below W.heap.size W W') (hk : ∀ q, Ba q → Ba' q) : A5 w0 g2 g3 Ba' S1 S2 T z b W' :=
 ⟨h.r.below hb h.r.lt, fun q hq => hk q (h.k q hq), h.ge, h.n2, h.n3, h.o1, h.o2⟩
theorem A5.draw {w0 : World} {gc g2 g3 : Nat} {Ba : Addr → Prop} {S1 S2 : Value} {T : TypeId} {z : Array Value} {b : Nat} {W W' : World} (h : A5 w0 g2 g3 Ba S1 S2 T z b W) (hf : Fr W.heap.size (some gc) W W') (hgl : gc < w0.heap.size) : A5 w0 g2 g3 Ba S1 S2 T z b W' :=
 ⟨(hf.block b h.r.lt (fun e => by have := h.ge; simp at e; omega)).trans h.r, h.k, h.ge, h.n2, h.n3, h.o1, h.o2⟩
theorem A5.one {w0 : World} {g2 g3 : Nat} {Ba : Addr → Prop} {S1 S2 : Value} {T : TypeId} {z : Array Value} {b x : Nat} {W W' : World} (h : A5 w0 g2 g3 Ba S1 S2 T z b W) (ho : OneBlock W W' x) (hx : b ≠ x) : A5 w0 g2 g3 Ba S1 S2 T z b W' :=
 ⟨(ho.block b hx).trans h.r, h.k, h.ge, h.n2, h.n3, h.o1, h.o2⟩
structure T5 (w0 : World) (g2 g3 : Nat) (Ba : Addr → Prop) (q : Part) (T1 T2 : Value) (W : World) : Prop where
 r1 : Row2 (fun b => w0.heap.size ≤ b ∧ b ≠ g2) W g3 T1 (prC q.core.cells)
 r2 : Row2 (fun b => w0.heap.size ≤ b ∧ b ≠ g2) W g3 T2 (prL q.layers)
 ap : ∀ b, OutB T1 b → ¬ OutB T2 b
 s1 : ∀ z, spareIn T1 2 z → Ba z
 s2 : ∀ z, spareIn T2 2 z → Ba z
 ks : q.core.kind.size ≤ maxLen
 ct : IntKind.i64.min ≤ q.core.count ∧ q.core.count ≤ IntKind.i64.max
theorem T5.more {w0 : World} {g2 g3 : Nat} {Ba Ba' : Addr → Prop} {q : Part} {T1 T2 : Value} {W W' : World} (h : T5 w0 g2 g3 Ba q T1 T2 W) (hb : Below W.heap.size W W') (hk : ∀ z, Ba z → Ba' z) : T5 w0 g2 g3 Ba' q T1 T2 W' :=
 ⟨h.r1.keep (fun b ho => hb.block b (h.r1.out ho).2.2) fun _ h => h, h.r2.keep (fun b ho => hb.block b (h.r2.out ho).2.2) fun _ h => h, h.ap, fun z hz => hk z (h.s1 z hz), fun z hz => hk z (h.s2 z hz), h.ks, h.ct⟩
theorem T5.one {w0 : World} {g2 g3 x : Nat} {Ba : Addr → Prop} {q : Part} {T1 T2 : Value} {W W' : World} (h : T5 w0 g2 g3 Ba q T1 T2 W) (ho : OneBlock W W' x) (h1 : ¬ OutB T1 x) (h2 : ¬ OutB T2 x) : T5 w0 g2 g3 Ba q T1 T2 W' :=
 ⟨h.r1.keep (fun b hb => ho.block b fun e => h1 (e ▸ hb)) fun _ h => h, h.r2.keep (fun b hb => ho.block b fun e => h2 (e ▸ hb)) fun _ h => h, h.ap, h.s1, h.s2, h.ks, h.ct⟩
theorem T5.hone {w0 : World} {g2 g3 : Nat} {Ba : Addr → Prop} {q : Part} {T1 T2 : Value} {W : World} (h : T5 w0 g2 g3 Ba q T1 T2 W) : ∀ u ∈ (partA q T1 T2).toList, u.oneCell' = true := by
 obtain ⟨a1, c1, e1, _⟩ := h.r1.lenS
 obtain ⟨a2, c2, e2, _⟩ := h.r2.lenS
 rw [e1, e2]; exact part_one _
theorem not_out {K : Nat → Prop} {W : World} {g b : Nat} {S : Value} {l : List (ByteArray × Int)} (h : Row2 K W g S l) (hb : W.heap.size ≤ b) : ¬ OutB S b := fun ho => by have := (h.out ho).2.2; omega
theorem rep_shape {w : World} {M : Addr → Prop} {r : Reply} {v : Value} (h : R w M (enc r) v) : v = .agg (repA r) := by
 obtain ⟨cs, rfl, v0, r0, e0, ⟨rfl, _⟩, v1, r1, rfl, ⟨rfl, _⟩, v2, r2, rfl, ⟨rfl, _⟩, v3, r3, rfl, ⟨rfl, _⟩, v4, r4, rfl, ⟨rfl, _⟩, rfl⟩ := h
 have : cs = repA r := by rw [← Array.toList_inj, e0]; rfl
 rw [this]
theorem wrap_out {w : World} {M : Addr → Prop} {q : Part} {r : Reply} {v : Value} (h : R w M (.tup [enc q, enc r]) v) : ∃ T1 T2, v = .tuple #[.agg (partA q T1 T2), .agg (repA r)] ∧ R w M (encS q.core.cells) T1 ∧ R w M (encS q.layers) T2 ∧ q.core.kind.size ≤ maxLen ∧ (IntKind.i64.min ≤ q.core.count ∧ q.core.count ≤ IntKind.i64.max) := by
 obtain ⟨cs, rfl, u, l, e, hu, u2, l2, e2, hu2, e3⟩ := h
 obtain ⟨T1, T2, rfl, h1, h2, h3, h4⟩ := part_shape hu
 have := rep_shape hu2
 subst this e3 e2
 refine ⟨T1, T2, ?_, h1, h2, h3, h4⟩
 have : cs = #[.agg (partA q T1 T2), .agg (repA r)] := by rw [← Array.toList_inj, e]; rfl
 rw [this]
theorem t5_of {w0 W W' : World} {M : Addr → Prop} {gc g2 g3 : Nat} {Ba : Addr → Prop} {a : Part × List D} {S1 S2 : Value} (H : LD w0 M gc g2 g3 Ba a S1 S2 W) (hb : Below W.heap.size W W') {q : Part} {r : Reply} {v : Value}
  (hv : R W' (fun p => M p ∨ RtM v [(3, 2), (5, 2)] p) (.tup [enc q, enc r]) v) (hrt : RtOk W.heap.size W' v [(3, 2), (5, 2)]) : ∃ T1 T2, v = .tuple #[.agg (partA q T1 T2), .agg (repA r)] ∧
   T5 w0 g2 g3 (fun z => Ba z ∨ spareIn T1 2 z ∨ spareIn T2 2 z) q T1 T2 W' ∧ LD w0 M gc g2 g3 (fun z => Ba z ∨ spareIn T1 2 z ∨ spareIn T2 2 z) a S1 S2 W' ∧ ∀ b, b < W.heap.size → ¬ OutB T1 b ∧ ¬ OutB T2 b := by
 obtain ⟨T1, T2, rfl, h1, h2, h3, h4⟩ := wrap_out hv
 have l1 : LiveAt W.heap.size W' T1 2 := hrt.1 (3, 2) (by simp)
 have l2 : LiveAt W.heap.size W' T2 2 := hrt.1 (5, 2) (by simp)
 have hap : Apart T1 T2 := hrt.2 0 1 (3, 2) (5, 2) rfl rfl (by simp)
 have k2 := H.b2.lt
 have k3 := H.b3.lt
 have hsz := H.size
 have f1 : R W' (fun _ => False) (.sl ((prC q.core.cells).map rowP)) T1 := by rw [prC_row]; exact R.less h1 fun _ h => h.elim
 have f2 : R W' (fun _ => False) (.sl ((prL q.layers).map rowP)) T2 := by rw [prL_row]; exact R.less h2 fun _ h => h.elim
 have q1 := Row2.of (K := fun b => w0.heap.size ≤ b ∧ b ≠ g2) (g := g3) f1 l1 (fun b z1 z2 => ⟨by omega, by omega⟩) (fun b z1 z2 => by omega)
 have q2 := Row2.of (K := fun b => w0.heap.size ≤ b ∧ b ≠ g2) (g := g3) f2 l2 (fun b z1 z2 => ⟨by omega, by omega⟩) (fun b z1 z2 => by omega)
 have new : ∀ {T : Value}, LiveAt W.heap.size W' T 2 → ∀ b, OutB T b → W.heap.size ≤ b ∧ b < W'.heap.size := by
  rintro T hl b ⟨o, s, len, cap, e, hc⟩
  obtain ⟨_, z2, cells, TT, z3, _⟩ := hl b o s len cap e hc
  exact ⟨z2, (Array.getElem?_eq_some_iff.1 z3).1⟩
 have out : ∀ {T : Value} {z : Addr}, spareIn T 2 z → OutB T z.block := fun {T z} h => by
  obtain ⟨o, s, len, cap, e, hc⟩ := spare_lt h
  exact ⟨o, s, len, cap, e, hc⟩
 refine ⟨T1, T2, rfl, ⟨q1, q2, fun b ⟨o, s, len, cap, e, hc⟩ ⟨o', s', len', cap', e', hc'⟩ => hap b o s len cap b o' s' len' cap' e hc e' hc' rfl, fun z hz => .inr (.inl hz), fun z hz => .inr (.inr hz), h3, h4⟩, H.more hb (fun _ h => .inl h) (fun z hz hl => ?_) (fun z hz => ?_), fun b hb' => ⟨fun ho => by have := (new l1 b ho).1; omega, fun ho => by have := (new l2 b ho).1; omega⟩⟩
 ·rcases hz with hz | hz | hz
  ·exact hz
  ·have := (new l1 _ (out hz)).1; omega
  ·have := (new l2 _ (out hz)).1; omega
 ·rcases hz with hz | hz | hz
  ·exact Nat.lt_of_lt_of_le (H.rdy.1 z hz) hb.size
  ·exact (new l1 _ (out hz)).2
  ·exact (new l2 _ (out hz)).2
theorem ld_alloc {w0 W : World} {M : Addr → Prop} {gc g2 g3 : Nat} {Ba : Addr → Prop} {a : Part × List D} {S1 S2 : Value} (H : LD w0 M gc g2 g3 Ba a S1 S2 W) (T : TypeId) (z : Array Value) :
  LD w0 M gc g2 g3 (fun q => Ba q ∨ q.block = W.heap.size) a S1 S2 (W.alloc (.cells z T)) ∧ A5 w0 g2 g3 (fun q => Ba q ∨ q.block = W.heap.size) S1 S2 T z W.heap.size (W.alloc (.cells z T)) := by
 have hb : Below W.heap.size W (W.alloc (.cells z T)) := by go_grown
 have hs : (W.alloc (.cells z T)).heap.size = W.heap.size + 1 := World.size_alloc _ _
 have k2 := H.b2.lt
 have k3 := H.b3.lt
 refine ⟨H.more hb (fun _ h => .inl h) (fun q hq hl => by rcases hq with hq | hq; exact hq; omega) (fun q hq => by rcases hq with hq | hq; have := H.rdy.1 q hq; omega; omega), RBlk.new W T z, fun q hq => .inr hq, H.size, by omega, by omega, not_out H.r1 (Nat.le_refl _), not_out H.r2 (Nat.le_refl _)⟩
theorem below_alloc (W : World) (o : Obj) : Below W.heap.size W (W.alloc o) := by go_grown
noncomputable def ops5 : Array Oper := regOf Tryz.f51 5
noncomputable def cl5 (i : Nat) : Go.Call := match (opAt ops5 i).op with
 | .call c => c
 | _ => { callee := .value (.const (.bool true)), args := #[], argTypes := #[] }
theorem ca_sf : callable Tryz.prog 61 = true := by kernel_rfl
theorem ca_sw : callable Tryz.prog 18 = true := by kernel_rfl
theorem ca_4f : callable Tryz.prog 88 = true := by kernel_rfl
theorem r5a9 {Q : Exit → Act → World → Prop} {S : World → Prop} {k : Nat} {L : Array Bool} {E : List (Nat × Value)} {W : World} (hS : S (W.alloc (.cells zPart 29))) (h : AU 63 Tryz.prog ops5 Q S 12 k (L.setIfInBounds 9 true) ((5, PQ W.heap.size) :: E) (W.alloc (.cells zPart 29))) : AUi 63 Tryz.prog ops5 Q S 12 k L E W 9 :=
 AUi.vv (o := opAt ops5 9) (d := 5) (by kernel_rfl) (by kernel_rfl) (by kernel_rfl) (r_alloc (z := .agg zPart) (by kernel_rfl) iz_p) (by decide) hS h
theorem r5a10 {Q : Exit → Act → World → Prop} {S : World → Prop} {k : Nat} {L : Array Bool} {E : List (Nat × Value)} {W : World} (hS : S (W.alloc (.cells zReply 34))) (h : AU 63 Tryz.prog ops5 Q S 12 k (L.setIfInBounds 10 true) ((6, PQ W.heap.size) :: E) (W.alloc (.cells zReply 34))) : AUi 63 Tryz.prog ops5 Q S 12 k L E W 10 :=
 AUi.vv (o := opAt ops5 10) (d := 6) (by kernel_rfl) (by kernel_rfl) (by kernel_rfl) (r_alloc (z := .agg zReply) (by kernel_rfl) iz_r) (by decide) hS h
theorem r5c (i d f : Nat) {args : Array Value} {Q : Exit → Act → World → Prop} {S : World → Prop} {k : Nat} {L : Array Bool} {E : List (Nat × Value)} {W : World} {R : Ending → World → Prop} (hi : ops5.toList[i]? = some (opAt ops5 i)) (hg : (opAt ops5 i).guard = none) (hd : (opAt ops5 i).dst = some d) (ho : (opAt ops5 i).op = .call (cl5 i)) (hc : (cl5 i).callee = .value (.func f)) (ca : callable Tryz.prog f = true) (hdn : d < 63) (ha : (cl5 i).args.toList.map (ev E) = args.toList.map some)
  (hC : Calls Tryz.prog f args W R) (h : ∀ e W', R e W' → ∃ v, e = .returned v ∧ S W' ∧ AU 63 Tryz.prog ops5 Q S 12 k (L.setIfInBounds i true) ((d, v) :: E) W') : AUi 63 Tryz.prog ops5 Q S 12 k L E W i :=
 AUi.c hi hg hd (r_call (cl := cl5 i) ca ho hc ha) hdn hC h
theorem i5 : (∀ i ∈ [3, 4, 5], ops5.toList[i]? = some (opAt ops5 i) ∧ (opAt ops5 i).guard = none ∧ (opAt ops5 i).op = .call (cl5 i)) ∧ (opAt ops5 3).dst = some 22 ∧ (opAt ops5 4).dst = some 23 ∧ (opAt ops5 5).dst = some 24 ∧ (cl5 3).callee = .value (.func 61) ∧ (cl5 4).callee = .value (.func 88) ∧ (cl5 5).callee = .value (.func 18) := by
 refine ⟨fun i hi => ?_, by kernel_rfl, by kernel_rfl, by kernel_rfl, by kernel_rfl, by kernel_rfl, by kernel_rfl⟩
 simp only [List.mem_cons, List.not_mem_nil, or_false] at hi
 rcases hi with rfl | rfl | rfl <;> exact ⟨by kernel_rfl, by kernel_rfl, by kernel_rfl⟩
theorem r5t (i d : Nat) {v : Value} {Q : Exit → Act → World → Prop} {S : World → Prop} {k : Nat} {L : Array Bool} {E : List (Nat × Value)} {W : World} (hQ : ∀ c a t v w, Q (.panic c) (Act.put a t v) w → Q (.panic c) a w) (hi : ops5.toList[i]? = some (opAt ops5 i)) (hg : (opAt ops5 i).guard = none) (hd : (opAt ops5 i).dst = some d) (hr : ∀ W, S W → RunV 63 Tryz.prog E (opAt ops5 i) W v W) (hdn : d < 63)
  (hf : Region.free .any ops5 L i = true) (hy : (Region.ready .any ops5 L).contains i = true) (hp : (preB .any ops5 30 i 12 && !(i == 12) && closedB .any ops5 L) = true) (hS : S W) (h : AU 63 Tryz.prog ops5 Q S 12 k (L.setIfInBounds i true) ((d, v) :: E) W) : AU 63 Tryz.prog ops5 Q S 12 (k + 1) L E W :=
 AU.take (o := opAt ops5 i) (d := d) i hi (by kernel_rfl) hf hy hp (fun _ _ _ h => hQ _ _ _ _ _ h) hg hd hr hdn hS h
theorem o5 : (opAt ops5 6).op = .move (.tmp 24) ∧ (opAt ops5 7).op = .extract (.tmp 18) 0 ∧ (opAt ops5 8).op = .extract (.tmp 18) 1 := ⟨by kernel_rfl, by kernel_rfl, by kernel_rfl⟩
theorem q5 : (∀ i ∈ [6, 7, 8], ops5.toList[i]? = some (opAt ops5 i) ∧ (opAt ops5 i).guard = none) ∧ (opAt ops5 6).dst = some 18 ∧ (opAt ops5 7).dst = some 25 ∧ (opAt ops5 8).dst = some 26 := by
 refine ⟨fun i hi => ?_, by kernel_rfl, by kernel_rfl, by kernel_rfl⟩
 simp only [List.mem_cons, List.not_mem_nil, or_false] at hi
 rcases hi with rfl | rfl | rfl <;> exact ⟨by kernel_rfl, by kernel_rfl⟩
set_option maxHeartbeats 4000000 in
theorem reg5 {w0 : World} {M : Addr → Prop} {gc g2 g3 : Nat} {a : Part × List D} {cs' : List D} {s : ByteArray} {S1 S2 : Value} {m : Int} {Q : Exit → Act → World → Prop} (hQ : ∀ c a t v w, Q (.panic c) (Act.put a t v) w → Q (.panic c) a w) (hcs' : Cur cs')
  (F4 : Fun Tryz.prog 88 (some a.2) [.int .i64 (faceOf a.1)] (.str s) cs') (hl1 : a.1.core.cells.length ≤ 4294967296) (hl2 : a.1.layers.length ≤ 4294967295)
  (fin : ∀ (Ba : Addr → Prop) (W : World) (T1 T2 : Value) (b5 b6 : Nat), LD w0 M gc g2 g3 Ba (a.1, cs') S1 S2 W → T5 w0 g2 g3 Ba (wrapP a.1 s).1 T1 T2 W → RBlk W b5 29 (partA (wrapP a.1 s).1 T1 T2) → RBlk W b6 34 (repA (wrapP a.1 s).2) →
   NX 63 (Q .normal) [(0, .pointer (some ⟨gc, 0, none⟩)), (2, .pointer (some ⟨g2, 0, none⟩)), (3, .pointer (some ⟨g3, 0, none⟩)), (4, .int .i64 m), (5, .pointer (some ⟨b5, 0, none⟩)), (6, .pointer (some ⟨b6, 0, none⟩))] W)
  (Ba : Addr → Prop) (W : World) (H : LD w0 M gc g2 g3 Ba a S1 S2 W) :
  AU 63 Tryz.prog ops5 Q (qp g3 a.1 S1 S2) 12 13 (Array.replicate 13 false) [(0, .pointer (some ⟨gc, 0, none⟩)), (2, .pointer (some ⟨g2, 0, none⟩)), (3, .pointer (some ⟨g3, 0, none⟩)), (4, .int .i64 m)] W := by
 have hfl : IntKind.i64.min ≤ ((faceOf a.1 : Nat) : Int) ∧ ((faceOf a.1 : Nat) : Int) ≤ IntKind.i64.max := by
  have := faceOf_lt' a.1
  have e1 : IntKind.i64.min = -9223372036854775808 ∧ IntKind.i64.max = 9223372036854775807 := by decide
  rw [e1.1, e1.2]; omega
 generalize hq : (wrapP a.1 s).1 = q at fin
 generalize hr : (wrapP a.1 s).2 = r at fin
 have j3 := i5.1 3 (by simp)
 have j4 := i5.1 4 (by simp)
 have j5 := i5.1 5 (by simp)
 have k6 := q5.1 6 (by simp)
 have k7 := q5.1 7 (by simp)
 have k8 := q5.1 8 (by simp)
 have hW := c_spec_Wrap a.1 s hl1 hl2
 rw [hq, hr] at hW
 have s4TT : ∀ (Ba : Addr → Prop) (W : World) (T1 T2 : Value) (b5 : Nat) (b6 : Nat), LD w0 M gc g2 g3 Ba (a.1, cs') S1 S2 W → s.size ≤ maxLen → T5 w0 g2 g3 Ba q T1 T2 W → A5 w0 g2 g3 Ba S1 S2 29 (partA q T1 T2) b5 W → A5 w0 g2 g3 Ba S1 S2 34 zReply b6 W → (¬ OutB T1 b5 ∧ ¬ OutB T2 b5) → (¬ OutB T1 b6 ∧ ¬ OutB T2 b6) → b5 ≠ b6 → AU 63 Tryz.prog ops5 Q (qp g3 a.1 S1 S2) 12 1 (lq [0, 1, 2, 3, 4, 5, 6, 7, 8, 9, 10, 11]) (ev4 gc g2 g3 m [(26, .agg (repA r)), (5, PQ b5), (6, PQ b6)]) W := by
  intro Ba W T1 T2 b5 b6 H hs hT h5 h6 n5 n6 n56
  refine AU.m1 (show Region.ready .any ops5 (lq [0, 1, 2, 3, 4, 5, 6, 7, 8, 9, 10, 11]) = [12] by kernel_rfl) ?_
  ·obtain ⟨W', hrun, R6, O6⟩ := r_storeS (n := 63) (P := Tryz.prog) (E := (ev4 gc g2 g3 m [(26, .agg (repA r)), (5, PQ b5), (6, PQ b6)])) (C := zReply) (o := opAt ops5 12) (T := 34) (x := .tmp 6) (y := .tmp 26) (by kernel_rfl) rfl rfl is_r (rep_one r) rfl h6.r
   have H' := H.one O6 h6.ge h6.k h6.n2 h6.n3 h6.o1 h6.o2
   refine AUi.sk (o := opAt ops5 12) (by kernel_rfl) (by kernel_rfl) (by kernel_rfl) hrun (fun h => absurd rfl h) ?_
   refine AU.done (by kernel_rfl) ?_
   exact fun ac hE => fin _ _ _ _ _ _ H' (hT.one O6 n6.1 n6.2) ((O6.block _ n56).trans h5.r) R6 ac (hE.sub ⟨rfl, rfl, rfl, rfl, rfl, rfl, trivial⟩)
 have s3TT : ∀ (Ba : Addr → Prop) (W : World) (T1 T2 : Value) (b5 : Nat) (b6 : Nat), LD w0 M gc g2 g3 Ba (a.1, cs') S1 S2 W → s.size ≤ maxLen → T5 w0 g2 g3 Ba q T1 T2 W → A5 w0 g2 g3 Ba S1 S2 29 zPart b5 W → A5 w0 g2 g3 Ba S1 S2 34 zReply b6 W → (¬ OutB T1 b5 ∧ ¬ OutB T2 b5) → (¬ OutB T1 b6 ∧ ¬ OutB T2 b6) → b5 ≠ b6 → AU 63 Tryz.prog ops5 Q (qp g3 a.1 S1 S2) 12 2 (lq [0, 1, 2, 3, 4, 5, 6, 7, 8, 9, 10]) (ev4 gc g2 g3 m [(25, .agg (partA q T1 T2)), (26, .agg (repA r)), (5, PQ b5), (6, PQ b6)]) W := by
  intro Ba W T1 T2 b5 b6 H hs hT h5 h6 n5 n6 n56
  refine AU.m1 (show Region.ready .any ops5 (lq [0, 1, 2, 3, 4, 5, 6, 7, 8, 9, 10]) = [11] by kernel_rfl) ?_
  ·obtain ⟨W', hrun, R5, O5⟩ := r_storeS (n := 63) (P := Tryz.prog) (E := (ev4 gc g2 g3 m [(25, .agg (partA q T1 T2)), (26, .agg (repA r)), (5, PQ b5), (6, PQ b6)])) (C := zPart) (o := opAt ops5 11) (T := 29) (x := .tmp 5) (y := .tmp 25) (by kernel_rfl) rfl rfl is_p hT.hone rfl h5.r
   have H' := H.one O5 h5.ge h5.k h5.n2 h5.n3 h5.o1 h5.o2
   refine AUi.sk (o := opAt ops5 11) (by kernel_rfl) (by kernel_rfl) (by kernel_rfl) hrun (fun _ => H'.b3) ?_
   exact AU.re (by kernel_rfl) (show allLk _ (ev4 gc g2 g3 m [(26, .agg (repA r)), (5, PQ b5), (6, PQ b6)]) from ⟨rfl, rfl, rfl, rfl, rfl, rfl, rfl, trivial⟩) (s4TT _ _ _ _ _ _ H' hs (hT.one O5 n5.1 n5.2) ⟨R5, h5.k, h5.ge, h5.n2, h5.n3, h5.o1, h5.o2⟩ (h6.one O5 (Ne.symm n56)) n5 n6 n56)
 have s3TF : ∀ (Ba : Addr → Prop) (W : World) (T1 T2 : Value) (b5 : Nat), LD w0 M gc g2 g3 Ba (a.1, cs') S1 S2 W → s.size ≤ maxLen → T5 w0 g2 g3 Ba q T1 T2 W → A5 w0 g2 g3 Ba S1 S2 29 zPart b5 W → (¬ OutB T1 b5 ∧ ¬ OutB T2 b5) → AU 63 Tryz.prog ops5 Q (qp g3 a.1 S1 S2) 12 3 (lq [0, 1, 2, 3, 4, 5, 6, 7, 8, 9]) (ev4 gc g2 g3 m [(25, .agg (partA q T1 T2)), (26, .agg (repA r)), (5, PQ b5)]) W := by
  intro Ba W T1 T2 b5 H hs hT h5 n5
  refine AU.m1 (show Region.ready .any ops5 (lq [0, 1, 2, 3, 4, 5, 6, 7, 8, 9]) = [10] by kernel_rfl) ?_
  ·obtain ⟨H', A'⟩ := ld_alloc H 34 zReply
   refine r5a10 H'.b3 ?_
   exact AU.re (by kernel_rfl) (show allLk _ (ev4 gc g2 g3 m [(25, .agg (partA q T1 T2)), (26, .agg (repA r)), (5, PQ b5), (6, PQ W.heap.size)]) from ⟨rfl, rfl, rfl, rfl, rfl, rfl, rfl, rfl, trivial⟩) (s3TT _ _ _ _ _ _ H' hs (hT.more (below_alloc W _) fun _ h => .inl h) (h5.more (below_alloc W _) fun _ h => .inl h) A' n5 ⟨not_out hT.r1 (Nat.le_refl _), not_out hT.r2 (Nat.le_refl _)⟩ (by have := h5.r.lt; omega))
 have s3FT : ∀ (Ba : Addr → Prop) (W : World) (T1 T2 : Value) (b6 : Nat), LD w0 M gc g2 g3 Ba (a.1, cs') S1 S2 W → s.size ≤ maxLen → T5 w0 g2 g3 Ba q T1 T2 W → A5 w0 g2 g3 Ba S1 S2 34 zReply b6 W → (¬ OutB T1 b6 ∧ ¬ OutB T2 b6) → AU 63 Tryz.prog ops5 Q (qp g3 a.1 S1 S2) 12 3 (lq [0, 1, 2, 3, 4, 5, 6, 7, 8, 10]) (ev4 gc g2 g3 m [(25, .agg (partA q T1 T2)), (26, .agg (repA r)), (6, PQ b6)]) W := by
  intro Ba W T1 T2 b6 H hs hT h6 n6
  refine AU.m1 (show Region.ready .any ops5 (lq [0, 1, 2, 3, 4, 5, 6, 7, 8, 10]) = [9] by kernel_rfl) ?_
  ·obtain ⟨H', A'⟩ := ld_alloc H 29 zPart
   refine r5a9 H'.b3 ?_
   exact AU.re (by kernel_rfl) (show allLk _ (ev4 gc g2 g3 m [(25, .agg (partA q T1 T2)), (26, .agg (repA r)), (5, PQ W.heap.size), (6, PQ b6)]) from ⟨rfl, rfl, rfl, rfl, rfl, rfl, rfl, rfl, trivial⟩) (s3TT _ _ _ _ _ _ H' hs (hT.more (below_alloc W _) fun _ h => .inl h) A' (h6.more (below_alloc W _) fun _ h => .inl h) ⟨not_out hT.r1 (Nat.le_refl _), not_out hT.r2 (Nat.le_refl _)⟩ n6 (by have := h6.r.lt; omega))
 have s3FF : ∀ (Ba : Addr → Prop) (W : World) (T1 T2 : Value), LD w0 M gc g2 g3 Ba (a.1, cs') S1 S2 W → s.size ≤ maxLen → T5 w0 g2 g3 Ba q T1 T2 W → AU 63 Tryz.prog ops5 Q (qp g3 a.1 S1 S2) 12 4 (lq [0, 1, 2, 3, 4, 5, 6, 7, 8]) (ev4 gc g2 g3 m [(25, .agg (partA q T1 T2)), (26, .agg (repA r))]) W := by
  intro Ba W T1 T2 H hs hT
  refine AU.m2 (show Region.ready .any ops5 (lq [0, 1, 2, 3, 4, 5, 6, 7, 8]) = [9, 10] by kernel_rfl) ?_ ?_
  ·obtain ⟨H', A'⟩ := ld_alloc H 29 zPart
   refine r5a9 H'.b3 ?_
   exact AU.re (by kernel_rfl) (show allLk _ (ev4 gc g2 g3 m [(25, .agg (partA q T1 T2)), (26, .agg (repA r)), (5, PQ W.heap.size)]) from ⟨rfl, rfl, rfl, rfl, rfl, rfl, rfl, trivial⟩) (s3TF _ _ _ _ _ H' hs (hT.more (below_alloc W _) fun _ h => .inl h) A' ⟨not_out hT.r1 (Nat.le_refl _), not_out hT.r2 (Nat.le_refl _)⟩)
  ·obtain ⟨H', A'⟩ := ld_alloc H 34 zReply
   refine r5a10 H'.b3 ?_
   exact AU.re (by kernel_rfl) (show allLk _ (ev4 gc g2 g3 m [(25, .agg (partA q T1 T2)), (26, .agg (repA r)), (6, PQ W.heap.size)]) from ⟨rfl, rfl, rfl, rfl, rfl, rfl, rfl, trivial⟩) (s3FT _ _ _ _ _ H' hs (hT.more (below_alloc W _) fun _ h => .inl h) A' ⟨not_out hT.r1 (Nat.le_refl _), not_out hT.r2 (Nat.le_refl _)⟩)
 have s2TT : ∀ (Ba : Addr → Prop) (W : World) (b5 : Nat) (b6 : Nat), LD w0 M gc g2 g3 Ba (a.1, cs') S1 S2 W → s.size ≤ maxLen → A5 w0 g2 g3 Ba S1 S2 29 zPart b5 W → A5 w0 g2 g3 Ba S1 S2 34 zReply b6 W → b5 ≠ b6 → AU 63 Tryz.prog ops5 Q (qp g3 a.1 S1 S2) 12 6 (lq [0, 1, 2, 3, 4, 9, 10]) (ev4 gc g2 g3 m [(19, .agg (partA a.1 S1 S2)), (20, PQ gc), (21, .agg (partA a.1 S1 S2)), (22, .int .i64 ((faceOf a.1 : Nat) : Int)), (23, .string s), (5, PQ b5), (6, PQ b6)]) W := by
  intro Ba W b5 b6 H hs h5 h6 n56
  refine AU.m1 (show Region.ready .any ops5 (lq [0, 1, 2, 3, 4, 9, 10]) = [5] by kernel_rfl) ?_
  ·refine r5c 5 24 _ (args := #[.agg (partA a.1 S1 S2), .string s]) j5.1 j5.2.1 i5.2.2.2.1 j5.2.2 i5.2.2.2.2.2.2 ca_sw (by decide) rfl (hW.2 W M 0 [.agg (partA a.1 S1 S2), .string s] H.rdyM ⟨_, _, rfl, H.arg, _, [], rfl, ⟨rfl, hs⟩, rfl⟩ (fun cs h => by cases h)) ?_
   rintro _ W' ⟨v, rfl, hv, hf, hrt, -⟩
   have hb := hf.to_below
   obtain ⟨T1, T2, rfl, hT, H', hn⟩ := t5_of H hb hv hrt
   refine ⟨_, rfl, H'.b3, ?_⟩
   refine r5t 6 18 hQ k6.1 k6.2 q5.2.1 (fun W _ => r_move o5.1 rfl) (by decide) (by kernel_rfl) (by kernel_rfl) (by kernel_rfl) H'.b3 ?_
   refine r5t 7 25 hQ k7.1 k7.2 q5.2.2.1 (fun W _ => r_extract o5.2.1 rfl rfl) (by decide) (by kernel_rfl) (by kernel_rfl) (by kernel_rfl) H'.b3 ?_
   refine r5t 8 26 hQ k8.1 k8.2 q5.2.2.2 (fun W _ => r_extract o5.2.2 rfl rfl) (by decide) (by kernel_rfl) (by kernel_rfl) (by kernel_rfl) H'.b3 ?_
   exact AU.re (by kernel_rfl) (show allLk _ (ev4 gc g2 g3 m [(25, .agg (partA q T1 T2)), (26, .agg (repA r)), (5, PQ b5), (6, PQ b6)]) from ⟨rfl, rfl, rfl, rfl, rfl, rfl, rfl, rfl, trivial⟩) (s3TT _ _ _ _ _ _ H' hs hT (h5.more hb fun _ h => .inl h) (h6.more hb fun _ h => .inl h) (hn _ h5.r.lt) (hn _ h6.r.lt) n56)
 have s2TF : ∀ (Ba : Addr → Prop) (W : World) (b5 : Nat), LD w0 M gc g2 g3 Ba (a.1, cs') S1 S2 W → s.size ≤ maxLen → A5 w0 g2 g3 Ba S1 S2 29 zPart b5 W → AU 63 Tryz.prog ops5 Q (qp g3 a.1 S1 S2) 12 7 (lq [0, 1, 2, 3, 4, 9]) (ev4 gc g2 g3 m [(19, .agg (partA a.1 S1 S2)), (20, PQ gc), (21, .agg (partA a.1 S1 S2)), (22, .int .i64 ((faceOf a.1 : Nat) : Int)), (23, .string s), (5, PQ b5)]) W := by
  intro Ba W b5 H hs h5
  refine AU.m2 (show Region.ready .any ops5 (lq [0, 1, 2, 3, 4, 9]) = [5, 10] by kernel_rfl) ?_ ?_
  ·refine r5c 5 24 _ (args := #[.agg (partA a.1 S1 S2), .string s]) j5.1 j5.2.1 i5.2.2.2.1 j5.2.2 i5.2.2.2.2.2.2 ca_sw (by decide) rfl (hW.2 W M 0 [.agg (partA a.1 S1 S2), .string s] H.rdyM ⟨_, _, rfl, H.arg, _, [], rfl, ⟨rfl, hs⟩, rfl⟩ (fun cs h => by cases h)) ?_
   rintro _ W' ⟨v, rfl, hv, hf, hrt, -⟩
   have hb := hf.to_below
   obtain ⟨T1, T2, rfl, hT, H', hn⟩ := t5_of H hb hv hrt
   refine ⟨_, rfl, H'.b3, ?_⟩
   refine r5t 6 18 hQ k6.1 k6.2 q5.2.1 (fun W _ => r_move o5.1 rfl) (by decide) (by kernel_rfl) (by kernel_rfl) (by kernel_rfl) H'.b3 ?_
   refine r5t 7 25 hQ k7.1 k7.2 q5.2.2.1 (fun W _ => r_extract o5.2.1 rfl rfl) (by decide) (by kernel_rfl) (by kernel_rfl) (by kernel_rfl) H'.b3 ?_
   refine r5t 8 26 hQ k8.1 k8.2 q5.2.2.2 (fun W _ => r_extract o5.2.2 rfl rfl) (by decide) (by kernel_rfl) (by kernel_rfl) (by kernel_rfl) H'.b3 ?_
   exact AU.re (by kernel_rfl) (show allLk _ (ev4 gc g2 g3 m [(25, .agg (partA q T1 T2)), (26, .agg (repA r)), (5, PQ b5)]) from ⟨rfl, rfl, rfl, rfl, rfl, rfl, rfl, trivial⟩) (s3TF _ _ _ _ _ H' hs hT (h5.more hb fun _ h => .inl h) (hn _ h5.r.lt))
  ·obtain ⟨H', A'⟩ := ld_alloc H 34 zReply
   refine r5a10 H'.b3 ?_
   exact AU.re (by kernel_rfl) (show allLk _ (ev4 gc g2 g3 m [(19, .agg (partA a.1 S1 S2)), (20, PQ gc), (21, .agg (partA a.1 S1 S2)), (22, .int .i64 ((faceOf a.1 : Nat) : Int)), (23, .string s), (5, PQ b5), (6, PQ W.heap.size)]) from ⟨rfl, rfl, rfl, rfl, rfl, rfl, rfl, rfl, rfl, rfl, rfl, trivial⟩) (s2TT _ _ _ _ H' hs (h5.more (below_alloc W _) fun _ h => .inl h) A' (by have := h5.r.lt; omega))
 have s2FT : ∀ (Ba : Addr → Prop) (W : World) (b6 : Nat), LD w0 M gc g2 g3 Ba (a.1, cs') S1 S2 W → s.size ≤ maxLen → A5 w0 g2 g3 Ba S1 S2 34 zReply b6 W → AU 63 Tryz.prog ops5 Q (qp g3 a.1 S1 S2) 12 7 (lq [0, 1, 2, 3, 4, 10]) (ev4 gc g2 g3 m [(19, .agg (partA a.1 S1 S2)), (20, PQ gc), (21, .agg (partA a.1 S1 S2)), (22, .int .i64 ((faceOf a.1 : Nat) : Int)), (23, .string s), (6, PQ b6)]) W := by
  intro Ba W b6 H hs h6
  refine AU.m2 (show Region.ready .any ops5 (lq [0, 1, 2, 3, 4, 10]) = [5, 9] by kernel_rfl) ?_ ?_
  ·refine r5c 5 24 _ (args := #[.agg (partA a.1 S1 S2), .string s]) j5.1 j5.2.1 i5.2.2.2.1 j5.2.2 i5.2.2.2.2.2.2 ca_sw (by decide) rfl (hW.2 W M 0 [.agg (partA a.1 S1 S2), .string s] H.rdyM ⟨_, _, rfl, H.arg, _, [], rfl, ⟨rfl, hs⟩, rfl⟩ (fun cs h => by cases h)) ?_
   rintro _ W' ⟨v, rfl, hv, hf, hrt, -⟩
   have hb := hf.to_below
   obtain ⟨T1, T2, rfl, hT, H', hn⟩ := t5_of H hb hv hrt
   refine ⟨_, rfl, H'.b3, ?_⟩
   refine r5t 6 18 hQ k6.1 k6.2 q5.2.1 (fun W _ => r_move o5.1 rfl) (by decide) (by kernel_rfl) (by kernel_rfl) (by kernel_rfl) H'.b3 ?_
   refine r5t 7 25 hQ k7.1 k7.2 q5.2.2.1 (fun W _ => r_extract o5.2.1 rfl rfl) (by decide) (by kernel_rfl) (by kernel_rfl) (by kernel_rfl) H'.b3 ?_
   refine r5t 8 26 hQ k8.1 k8.2 q5.2.2.2 (fun W _ => r_extract o5.2.2 rfl rfl) (by decide) (by kernel_rfl) (by kernel_rfl) (by kernel_rfl) H'.b3 ?_
   exact AU.re (by kernel_rfl) (show allLk _ (ev4 gc g2 g3 m [(25, .agg (partA q T1 T2)), (26, .agg (repA r)), (6, PQ b6)]) from ⟨rfl, rfl, rfl, rfl, rfl, rfl, rfl, trivial⟩) (s3FT _ _ _ _ _ H' hs hT (h6.more hb fun _ h => .inl h) (hn _ h6.r.lt))
  ·obtain ⟨H', A'⟩ := ld_alloc H 29 zPart
   refine r5a9 H'.b3 ?_
   exact AU.re (by kernel_rfl) (show allLk _ (ev4 gc g2 g3 m [(19, .agg (partA a.1 S1 S2)), (20, PQ gc), (21, .agg (partA a.1 S1 S2)), (22, .int .i64 ((faceOf a.1 : Nat) : Int)), (23, .string s), (5, PQ W.heap.size), (6, PQ b6)]) from ⟨rfl, rfl, rfl, rfl, rfl, rfl, rfl, rfl, rfl, rfl, rfl, trivial⟩) (s2TT _ _ _ _ H' hs A' (h6.more (below_alloc W _) fun _ h => .inl h) (by have := h6.r.lt; omega))
 have s2FF : ∀ (Ba : Addr → Prop) (W : World), LD w0 M gc g2 g3 Ba (a.1, cs') S1 S2 W → s.size ≤ maxLen → AU 63 Tryz.prog ops5 Q (qp g3 a.1 S1 S2) 12 8 (lq [0, 1, 2, 3, 4]) (ev4 gc g2 g3 m [(19, .agg (partA a.1 S1 S2)), (20, PQ gc), (21, .agg (partA a.1 S1 S2)), (22, .int .i64 ((faceOf a.1 : Nat) : Int)), (23, .string s)]) W := by
  intro Ba W H hs
  refine AU.m3 (show Region.ready .any ops5 (lq [0, 1, 2, 3, 4]) = [5, 9, 10] by kernel_rfl) ?_ ?_ ?_
  ·refine r5c 5 24 _ (args := #[.agg (partA a.1 S1 S2), .string s]) j5.1 j5.2.1 i5.2.2.2.1 j5.2.2 i5.2.2.2.2.2.2 ca_sw (by decide) rfl (hW.2 W M 0 [.agg (partA a.1 S1 S2), .string s] H.rdyM ⟨_, _, rfl, H.arg, _, [], rfl, ⟨rfl, hs⟩, rfl⟩ (fun cs h => by cases h)) ?_
   rintro _ W' ⟨v, rfl, hv, hf, hrt, -⟩
   have hb := hf.to_below
   obtain ⟨T1, T2, rfl, hT, H', hn⟩ := t5_of H hb hv hrt
   refine ⟨_, rfl, H'.b3, ?_⟩
   refine r5t 6 18 hQ k6.1 k6.2 q5.2.1 (fun W _ => r_move o5.1 rfl) (by decide) (by kernel_rfl) (by kernel_rfl) (by kernel_rfl) H'.b3 ?_
   refine r5t 7 25 hQ k7.1 k7.2 q5.2.2.1 (fun W _ => r_extract o5.2.1 rfl rfl) (by decide) (by kernel_rfl) (by kernel_rfl) (by kernel_rfl) H'.b3 ?_
   refine r5t 8 26 hQ k8.1 k8.2 q5.2.2.2 (fun W _ => r_extract o5.2.2 rfl rfl) (by decide) (by kernel_rfl) (by kernel_rfl) (by kernel_rfl) H'.b3 ?_
   exact AU.re (by kernel_rfl) (show allLk _ (ev4 gc g2 g3 m [(25, .agg (partA q T1 T2)), (26, .agg (repA r))]) from ⟨rfl, rfl, rfl, rfl, rfl, rfl, trivial⟩) (s3FF _ _ _ _ H' hs hT)
  ·obtain ⟨H', A'⟩ := ld_alloc H 29 zPart
   refine r5a9 H'.b3 ?_
   exact AU.re (by kernel_rfl) (show allLk _ (ev4 gc g2 g3 m [(19, .agg (partA a.1 S1 S2)), (20, PQ gc), (21, .agg (partA a.1 S1 S2)), (22, .int .i64 ((faceOf a.1 : Nat) : Int)), (23, .string s), (5, PQ W.heap.size)]) from ⟨rfl, rfl, rfl, rfl, rfl, rfl, rfl, rfl, rfl, rfl, trivial⟩) (s2TF _ _ _ H' hs A')
  ·obtain ⟨H', A'⟩ := ld_alloc H 34 zReply
   refine r5a10 H'.b3 ?_
   exact AU.re (by kernel_rfl) (show allLk _ (ev4 gc g2 g3 m [(19, .agg (partA a.1 S1 S2)), (20, PQ gc), (21, .agg (partA a.1 S1 S2)), (22, .int .i64 ((faceOf a.1 : Nat) : Int)), (23, .string s), (6, PQ W.heap.size)]) from ⟨rfl, rfl, rfl, rfl, rfl, rfl, rfl, rfl, rfl, rfl, trivial⟩) (s2FT _ _ _ H' hs A')
 have s1TT : ∀ (Ba : Addr → Prop) (W : World) (b5 : Nat) (b6 : Nat), LD w0 M gc g2 g3 Ba a S1 S2 W → A5 w0 g2 g3 Ba S1 S2 29 zPart b5 W → A5 w0 g2 g3 Ba S1 S2 34 zReply b6 W → b5 ≠ b6 → AU 63 Tryz.prog ops5 Q (qp g3 a.1 S1 S2) 12 7 (lq [0, 1, 2, 3, 9, 10]) (ev4 gc g2 g3 m [(19, .agg (partA a.1 S1 S2)), (20, PQ gc), (21, .agg (partA a.1 S1 S2)), (22, .int .i64 ((faceOf a.1 : Nat) : Int)), (5, PQ b5), (6, PQ b6)]) W := by
  intro Ba W b5 b6 H h5 h6 n56
  refine AU.m1 (show Region.ready .any ops5 (lq [0, 1, 2, 3, 9, 10]) = [4] by kernel_rfl) ?_
  ·refine r5c 4 23 _ (args := #[PQ gc, .int .i64 ((faceOf a.1 : Nat) : Int)]) j4.1 j4.2.1 i5.2.2.1 j4.2.2 i5.2.2.2.2.2.1 ca_4f (by decide) rfl (H.draws hcs' F4 ⟨_, [], rfl, ⟨rfl, hfl⟩, rfl⟩) ?_
   rintro _ W' ⟨v, rfl, hv, hf, H'⟩
   obtain ⟨rfl, hs⟩ : v = .string s ∧ s.size ≤ maxLen := hv
   refine ⟨_, rfl, H'.b3, AU.re (by kernel_rfl) (show allLk _ (ev4 gc g2 g3 m [(19, .agg (partA a.1 S1 S2)), (20, PQ gc), (21, .agg (partA a.1 S1 S2)), (22, .int .i64 ((faceOf a.1 : Nat) : Int)), (23, .string s), (5, PQ b5), (6, PQ b6)]) from ⟨rfl, rfl, rfl, rfl, rfl, rfl, rfl, rfl, rfl, rfl, rfl, trivial⟩) (s2TT _ _ _ _ H' hs (h5.draw hf H.gl) (h6.draw hf H.gl) n56)⟩
 have s1TF : ∀ (Ba : Addr → Prop) (W : World) (b5 : Nat), LD w0 M gc g2 g3 Ba a S1 S2 W → A5 w0 g2 g3 Ba S1 S2 29 zPart b5 W → AU 63 Tryz.prog ops5 Q (qp g3 a.1 S1 S2) 12 8 (lq [0, 1, 2, 3, 9]) (ev4 gc g2 g3 m [(19, .agg (partA a.1 S1 S2)), (20, PQ gc), (21, .agg (partA a.1 S1 S2)), (22, .int .i64 ((faceOf a.1 : Nat) : Int)), (5, PQ b5)]) W := by
  intro Ba W b5 H h5
  refine AU.m2 (show Region.ready .any ops5 (lq [0, 1, 2, 3, 9]) = [4, 10] by kernel_rfl) ?_ ?_
  ·refine r5c 4 23 _ (args := #[PQ gc, .int .i64 ((faceOf a.1 : Nat) : Int)]) j4.1 j4.2.1 i5.2.2.1 j4.2.2 i5.2.2.2.2.2.1 ca_4f (by decide) rfl (H.draws hcs' F4 ⟨_, [], rfl, ⟨rfl, hfl⟩, rfl⟩) ?_
   rintro _ W' ⟨v, rfl, hv, hf, H'⟩
   obtain ⟨rfl, hs⟩ : v = .string s ∧ s.size ≤ maxLen := hv
   refine ⟨_, rfl, H'.b3, AU.re (by kernel_rfl) (show allLk _ (ev4 gc g2 g3 m [(19, .agg (partA a.1 S1 S2)), (20, PQ gc), (21, .agg (partA a.1 S1 S2)), (22, .int .i64 ((faceOf a.1 : Nat) : Int)), (23, .string s), (5, PQ b5)]) from ⟨rfl, rfl, rfl, rfl, rfl, rfl, rfl, rfl, rfl, rfl, trivial⟩) (s2TF _ _ _ H' hs (h5.draw hf H.gl))⟩
  ·obtain ⟨H', A'⟩ := ld_alloc H 34 zReply
   refine r5a10 H'.b3 ?_
   exact AU.re (by kernel_rfl) (show allLk _ (ev4 gc g2 g3 m [(19, .agg (partA a.1 S1 S2)), (20, PQ gc), (21, .agg (partA a.1 S1 S2)), (22, .int .i64 ((faceOf a.1 : Nat) : Int)), (5, PQ b5), (6, PQ W.heap.size)]) from ⟨rfl, rfl, rfl, rfl, rfl, rfl, rfl, rfl, rfl, rfl, trivial⟩) (s1TT _ _ _ _ H' (h5.more (below_alloc W _) fun _ h => .inl h) A' (by have := h5.r.lt; omega))
 have s1FT : ∀ (Ba : Addr → Prop) (W : World) (b6 : Nat), LD w0 M gc g2 g3 Ba a S1 S2 W → A5 w0 g2 g3 Ba S1 S2 34 zReply b6 W → AU 63 Tryz.prog ops5 Q (qp g3 a.1 S1 S2) 12 8 (lq [0, 1, 2, 3, 10]) (ev4 gc g2 g3 m [(19, .agg (partA a.1 S1 S2)), (20, PQ gc), (21, .agg (partA a.1 S1 S2)), (22, .int .i64 ((faceOf a.1 : Nat) : Int)), (6, PQ b6)]) W := by
  intro Ba W b6 H h6
  refine AU.m2 (show Region.ready .any ops5 (lq [0, 1, 2, 3, 10]) = [4, 9] by kernel_rfl) ?_ ?_
  ·refine r5c 4 23 _ (args := #[PQ gc, .int .i64 ((faceOf a.1 : Nat) : Int)]) j4.1 j4.2.1 i5.2.2.1 j4.2.2 i5.2.2.2.2.2.1 ca_4f (by decide) rfl (H.draws hcs' F4 ⟨_, [], rfl, ⟨rfl, hfl⟩, rfl⟩) ?_
   rintro _ W' ⟨v, rfl, hv, hf, H'⟩
   obtain ⟨rfl, hs⟩ : v = .string s ∧ s.size ≤ maxLen := hv
   refine ⟨_, rfl, H'.b3, AU.re (by kernel_rfl) (show allLk _ (ev4 gc g2 g3 m [(19, .agg (partA a.1 S1 S2)), (20, PQ gc), (21, .agg (partA a.1 S1 S2)), (22, .int .i64 ((faceOf a.1 : Nat) : Int)), (23, .string s), (6, PQ b6)]) from ⟨rfl, rfl, rfl, rfl, rfl, rfl, rfl, rfl, rfl, rfl, trivial⟩) (s2FT _ _ _ H' hs (h6.draw hf H.gl))⟩
  ·obtain ⟨H', A'⟩ := ld_alloc H 29 zPart
   refine r5a9 H'.b3 ?_
   exact AU.re (by kernel_rfl) (show allLk _ (ev4 gc g2 g3 m [(19, .agg (partA a.1 S1 S2)), (20, PQ gc), (21, .agg (partA a.1 S1 S2)), (22, .int .i64 ((faceOf a.1 : Nat) : Int)), (5, PQ W.heap.size), (6, PQ b6)]) from ⟨rfl, rfl, rfl, rfl, rfl, rfl, rfl, rfl, rfl, rfl, trivial⟩) (s1TT _ _ _ _ H' A' (h6.more (below_alloc W _) fun _ h => .inl h) (by have := h6.r.lt; omega))
 have s1FF : ∀ (Ba : Addr → Prop) (W : World), LD w0 M gc g2 g3 Ba a S1 S2 W → AU 63 Tryz.prog ops5 Q (qp g3 a.1 S1 S2) 12 9 (lq [0, 1, 2, 3]) (ev4 gc g2 g3 m [(19, .agg (partA a.1 S1 S2)), (20, PQ gc), (21, .agg (partA a.1 S1 S2)), (22, .int .i64 ((faceOf a.1 : Nat) : Int))]) W := by
  intro Ba W H
  refine AU.m3 (show Region.ready .any ops5 (lq [0, 1, 2, 3]) = [4, 9, 10] by kernel_rfl) ?_ ?_ ?_
  ·refine r5c 4 23 _ (args := #[PQ gc, .int .i64 ((faceOf a.1 : Nat) : Int)]) j4.1 j4.2.1 i5.2.2.1 j4.2.2 i5.2.2.2.2.2.1 ca_4f (by decide) rfl (H.draws hcs' F4 ⟨_, [], rfl, ⟨rfl, hfl⟩, rfl⟩) ?_
   rintro _ W' ⟨v, rfl, hv, hf, H'⟩
   obtain ⟨rfl, hs⟩ : v = .string s ∧ s.size ≤ maxLen := hv
   refine ⟨_, rfl, H'.b3, AU.re (by kernel_rfl) (show allLk _ (ev4 gc g2 g3 m [(19, .agg (partA a.1 S1 S2)), (20, PQ gc), (21, .agg (partA a.1 S1 S2)), (22, .int .i64 ((faceOf a.1 : Nat) : Int)), (23, .string s)]) from ⟨rfl, rfl, rfl, rfl, rfl, rfl, rfl, rfl, rfl, trivial⟩) (s2FF _ _ H' hs)⟩
  ·obtain ⟨H', A'⟩ := ld_alloc H 29 zPart
   refine r5a9 H'.b3 ?_
   exact AU.re (by kernel_rfl) (show allLk _ (ev4 gc g2 g3 m [(19, .agg (partA a.1 S1 S2)), (20, PQ gc), (21, .agg (partA a.1 S1 S2)), (22, .int .i64 ((faceOf a.1 : Nat) : Int)), (5, PQ W.heap.size)]) from ⟨rfl, rfl, rfl, rfl, rfl, rfl, rfl, rfl, rfl, trivial⟩) (s1TF _ _ _ H' A')
  ·obtain ⟨H', A'⟩ := ld_alloc H 34 zReply
   refine r5a10 H'.b3 ?_
   exact AU.re (by kernel_rfl) (show allLk _ (ev4 gc g2 g3 m [(19, .agg (partA a.1 S1 S2)), (20, PQ gc), (21, .agg (partA a.1 S1 S2)), (22, .int .i64 ((faceOf a.1 : Nat) : Int)), (6, PQ W.heap.size)]) from ⟨rfl, rfl, rfl, rfl, rfl, rfl, rfl, rfl, rfl, trivial⟩) (s1FT _ _ _ H' A')
 have s0TT : ∀ (Ba : Addr → Prop) (W : World) (b5 : Nat) (b6 : Nat), LD w0 M gc g2 g3 Ba a S1 S2 W → A5 w0 g2 g3 Ba S1 S2 29 zPart b5 W → A5 w0 g2 g3 Ba S1 S2 34 zReply b6 W → b5 ≠ b6 → AU 63 Tryz.prog ops5 Q (qp g3 a.1 S1 S2) 12 8 (lq [0, 1, 2, 9, 10]) (ev4 gc g2 g3 m [(19, .agg (partA a.1 S1 S2)), (20, PQ gc), (21, .agg (partA a.1 S1 S2)), (5, PQ b5), (6, PQ b6)]) W := by
  intro Ba W b5 b6 H h5 h6 n56
  refine AU.m1 (show Region.ready .any ops5 (lq [0, 1, 2, 9, 10]) = [3] by kernel_rfl) ?_
  ·refine r5c 3 22 _ (args := #[.agg (partA a.1 S1 S2)]) j3.1 j3.2.1 i5.2.1 j3.2.2 i5.2.2.2.2.1 ca_sf (by decide) rfl ((c_spec_FaceOf a.1).calls (M := M) H.rdyM ⟨_, [], rfl, H.arg, rfl⟩) ?_
   rintro _ W' ⟨v, rfl, hv, hb⟩
   obtain ⟨rfl, -⟩ : v = .int .i64 ((faceOf a.1 : Nat) : Int) ∧ True := ⟨hv.1, trivial⟩
   refine ⟨_, rfl, (H.below hb).b3, AU.re (by kernel_rfl) (show allLk _ (ev4 gc g2 g3 m [(19, .agg (partA a.1 S1 S2)), (20, PQ gc), (21, .agg (partA a.1 S1 S2)), (22, .int .i64 ((faceOf a.1 : Nat) : Int)), (5, PQ b5), (6, PQ b6)]) from ⟨rfl, rfl, rfl, rfl, rfl, rfl, rfl, rfl, rfl, rfl, trivial⟩) (s1TT _ _ _ _ (H.below hb) (h5.more hb fun _ h => h) (h6.more hb fun _ h => h) n56)⟩
 have s0TF : ∀ (Ba : Addr → Prop) (W : World) (b5 : Nat), LD w0 M gc g2 g3 Ba a S1 S2 W → A5 w0 g2 g3 Ba S1 S2 29 zPart b5 W → AU 63 Tryz.prog ops5 Q (qp g3 a.1 S1 S2) 12 9 (lq [0, 1, 2, 9]) (ev4 gc g2 g3 m [(19, .agg (partA a.1 S1 S2)), (20, PQ gc), (21, .agg (partA a.1 S1 S2)), (5, PQ b5)]) W := by
  intro Ba W b5 H h5
  refine AU.m2 (show Region.ready .any ops5 (lq [0, 1, 2, 9]) = [3, 10] by kernel_rfl) ?_ ?_
  ·refine r5c 3 22 _ (args := #[.agg (partA a.1 S1 S2)]) j3.1 j3.2.1 i5.2.1 j3.2.2 i5.2.2.2.2.1 ca_sf (by decide) rfl ((c_spec_FaceOf a.1).calls (M := M) H.rdyM ⟨_, [], rfl, H.arg, rfl⟩) ?_
   rintro _ W' ⟨v, rfl, hv, hb⟩
   obtain ⟨rfl, -⟩ : v = .int .i64 ((faceOf a.1 : Nat) : Int) ∧ True := ⟨hv.1, trivial⟩
   refine ⟨_, rfl, (H.below hb).b3, AU.re (by kernel_rfl) (show allLk _ (ev4 gc g2 g3 m [(19, .agg (partA a.1 S1 S2)), (20, PQ gc), (21, .agg (partA a.1 S1 S2)), (22, .int .i64 ((faceOf a.1 : Nat) : Int)), (5, PQ b5)]) from ⟨rfl, rfl, rfl, rfl, rfl, rfl, rfl, rfl, rfl, trivial⟩) (s1TF _ _ _ (H.below hb) (h5.more hb fun _ h => h))⟩
  ·obtain ⟨H', A'⟩ := ld_alloc H 34 zReply
   refine r5a10 H'.b3 ?_
   exact AU.re (by kernel_rfl) (show allLk _ (ev4 gc g2 g3 m [(19, .agg (partA a.1 S1 S2)), (20, PQ gc), (21, .agg (partA a.1 S1 S2)), (5, PQ b5), (6, PQ W.heap.size)]) from ⟨rfl, rfl, rfl, rfl, rfl, rfl, rfl, rfl, rfl, trivial⟩) (s0TT _ _ _ _ H' (h5.more (below_alloc W _) fun _ h => .inl h) A' (by have := h5.r.lt; omega))
 have s0FT : ∀ (Ba : Addr → Prop) (W : World) (b6 : Nat), LD w0 M gc g2 g3 Ba a S1 S2 W → A5 w0 g2 g3 Ba S1 S2 34 zReply b6 W → AU 63 Tryz.prog ops5 Q (qp g3 a.1 S1 S2) 12 9 (lq [0, 1, 2, 10]) (ev4 gc g2 g3 m [(19, .agg (partA a.1 S1 S2)), (20, PQ gc), (21, .agg (partA a.1 S1 S2)), (6, PQ b6)]) W := by
  intro Ba W b6 H h6
  refine AU.m2 (show Region.ready .any ops5 (lq [0, 1, 2, 10]) = [3, 9] by kernel_rfl) ?_ ?_
  ·refine r5c 3 22 _ (args := #[.agg (partA a.1 S1 S2)]) j3.1 j3.2.1 i5.2.1 j3.2.2 i5.2.2.2.2.1 ca_sf (by decide) rfl ((c_spec_FaceOf a.1).calls (M := M) H.rdyM ⟨_, [], rfl, H.arg, rfl⟩) ?_
   rintro _ W' ⟨v, rfl, hv, hb⟩
   obtain ⟨rfl, -⟩ : v = .int .i64 ((faceOf a.1 : Nat) : Int) ∧ True := ⟨hv.1, trivial⟩
   refine ⟨_, rfl, (H.below hb).b3, AU.re (by kernel_rfl) (show allLk _ (ev4 gc g2 g3 m [(19, .agg (partA a.1 S1 S2)), (20, PQ gc), (21, .agg (partA a.1 S1 S2)), (22, .int .i64 ((faceOf a.1 : Nat) : Int)), (6, PQ b6)]) from ⟨rfl, rfl, rfl, rfl, rfl, rfl, rfl, rfl, rfl, trivial⟩) (s1FT _ _ _ (H.below hb) (h6.more hb fun _ h => h))⟩
  ·obtain ⟨H', A'⟩ := ld_alloc H 29 zPart
   refine r5a9 H'.b3 ?_
   exact AU.re (by kernel_rfl) (show allLk _ (ev4 gc g2 g3 m [(19, .agg (partA a.1 S1 S2)), (20, PQ gc), (21, .agg (partA a.1 S1 S2)), (5, PQ W.heap.size), (6, PQ b6)]) from ⟨rfl, rfl, rfl, rfl, rfl, rfl, rfl, rfl, rfl, trivial⟩) (s0TT _ _ _ _ H' A' (h6.more (below_alloc W _) fun _ h => .inl h) (by have := h6.r.lt; omega))
 have s0FF : ∀ (Ba : Addr → Prop) (W : World), LD w0 M gc g2 g3 Ba a S1 S2 W → AU 63 Tryz.prog ops5 Q (qp g3 a.1 S1 S2) 12 10 (lq [0, 1, 2]) (ev4 gc g2 g3 m [(19, .agg (partA a.1 S1 S2)), (20, PQ gc), (21, .agg (partA a.1 S1 S2))]) W := by
  intro Ba W H
  refine AU.m3 (show Region.ready .any ops5 (lq [0, 1, 2]) = [3, 9, 10] by kernel_rfl) ?_ ?_ ?_
  ·refine r5c 3 22 _ (args := #[.agg (partA a.1 S1 S2)]) j3.1 j3.2.1 i5.2.1 j3.2.2 i5.2.2.2.2.1 ca_sf (by decide) rfl ((c_spec_FaceOf a.1).calls (M := M) H.rdyM ⟨_, [], rfl, H.arg, rfl⟩) ?_
   rintro _ W' ⟨v, rfl, hv, hb⟩
   obtain ⟨rfl, -⟩ : v = .int .i64 ((faceOf a.1 : Nat) : Int) ∧ True := ⟨hv.1, trivial⟩
   refine ⟨_, rfl, (H.below hb).b3, AU.re (by kernel_rfl) (show allLk _ (ev4 gc g2 g3 m [(19, .agg (partA a.1 S1 S2)), (20, PQ gc), (21, .agg (partA a.1 S1 S2)), (22, .int .i64 ((faceOf a.1 : Nat) : Int))]) from ⟨rfl, rfl, rfl, rfl, rfl, rfl, rfl, rfl, trivial⟩) (s1FF _ _ (H.below hb))⟩
  ·obtain ⟨H', A'⟩ := ld_alloc H 29 zPart
   refine r5a9 H'.b3 ?_
   exact AU.re (by kernel_rfl) (show allLk _ (ev4 gc g2 g3 m [(19, .agg (partA a.1 S1 S2)), (20, PQ gc), (21, .agg (partA a.1 S1 S2)), (5, PQ W.heap.size)]) from ⟨rfl, rfl, rfl, rfl, rfl, rfl, rfl, rfl, trivial⟩) (s0TF _ _ _ H' A')
  ·obtain ⟨H', A'⟩ := ld_alloc H 34 zReply
   refine r5a10 H'.b3 ?_
   exact AU.re (by kernel_rfl) (show allLk _ (ev4 gc g2 g3 m [(19, .agg (partA a.1 S1 S2)), (20, PQ gc), (21, .agg (partA a.1 S1 S2)), (6, PQ W.heap.size)]) from ⟨rfl, rfl, rfl, rfl, rfl, rfl, rfl, rfl, trivial⟩) (s0FT _ _ _ H' A')
 refine AU.take (o := opAt ops5 0) (d := 19) 0 (by kernel_rfl) (by kernel_rfl) (by kernel_rfl) (by kernel_rfl) (by kernel_rfl) (fun _ _ _ h => hQ _ _ _ _ _ h) (by kernel_rfl) (by kernel_rfl) (fun W hW => r_loadS (T := 29) (x := .tmp 3) (by kernel_rfl) rfl Tryz.underlying29 rfl hW is_p) (by decide) H.b3 ?_
 refine AU.take (o := opAt ops5 1) (d := 20) 1 (by kernel_rfl) (by kernel_rfl) (by kernel_rfl) (by kernel_rfl) (by kernel_rfl) (fun _ _ _ h => hQ _ _ _ _ _ h) (by kernel_rfl) (by kernel_rfl) (fun W hW => r_move (x := .tmp 0) (by kernel_rfl) rfl) (by decide) H.b3 ?_
 refine AU.take (o := opAt ops5 2) (d := 21) 2 (by kernel_rfl) (by kernel_rfl) (by kernel_rfl) (by kernel_rfl) (by kernel_rfl) (fun _ _ _ h => hQ _ _ _ _ _ h) (by kernel_rfl) (by kernel_rfl) (fun W hW => r_loadS (T := 29) (x := .tmp 3) (by kernel_rfl) rfl Tryz.underlying29 rfl hW is_p) (by decide) H.b3 ?_
 exact AU.re (by kernel_rfl) (show allLk _ (ev4 gc g2 g3 m [(19, .agg (partA a.1 S1 S2)), (20, PQ gc), (21, .agg (partA a.1 S1 S2))]) from ⟨rfl, rfl, rfl, rfl, rfl, rfl, rfl, trivial⟩) (s0FF _ _ H)
end Go.Proofs.YtbgcaneflfdddaaGreatDoor
