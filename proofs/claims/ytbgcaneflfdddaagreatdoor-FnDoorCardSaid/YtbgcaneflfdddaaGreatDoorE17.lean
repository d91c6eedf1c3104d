/- Walk: Get and Put of a core in a box (keepCall). -/
import Derived.Test.YtbgcaneflfdddaaGreatDoorE16
import Derived.Test.YtbgcaneflfdddaaGreatDoorE13
set_option linter.unusedVariables false
set_option linter.unusedSimpArgs false
set_option linter.unusedSectionVars false
set_option maxRecDepth 100000
namespace Go.Proofs.YtbgcaneflfdddaaGreatDoor
open Go.RowKit Go
variable [GC]
set_option maxHeartbeats 60000000 in
theorem t_keepCall {K : Nat → Prop} {w : World} {g : Nat} {S2 : Value} {p : Part} {x : Call} (h : PB K w g S2 p) (hx : CallFits x) :
  Calls Tryz.prog 129 #[.pointer (some ⟨g, 0, none⟩), callV x] w (AfterB K w g S2 (onCore p (keepD p.core x))) := by
 obtain ⟨S1, a, n, cap, hS1, hn, hnc, hcm, c0, c1, c2, c3, c4, c5, hf, hR1, hap⟩ := h.cells
 unfold maxLen at hcm
 have hlen := prC_len p.core.cells
 have H := Lib.hid h
 have HX := Lib.hid hx
 have HK := Lib.hid (fun w0 hb => w_KindFace h p.core.kind h.ks w0 hb)
 have hgl := h.glt
 clear h hx
 unfold callV
 go_enter Tryz.func129, Tryz.ntmps129
 go_wp2_with fail
 refine (HK.out _ (by go_grown)).mono ?_
 rintro e w1 ⟨rfl, hb1⟩
 have hB1 : Below w.heap.size w w1 := bt (by go_grown) hb1
 obtain ⟨hc1, hf1⟩ := bcell hb1
 (try simp only [World.size_alloc] at hc1 hf1)
 have hz1 : w.heap.size + 1 + 1 ≤ w1.heap.size := by have := hb1.size; (try simp only [World.size_alloc] at this); omega
 have d0 := cell_keep hB1 c0
 have d1 := cell_keep hB1 c1
 have d3 := cell_keep hB1 c3
 have d4 := cell_keep hB1 c4
 have hbit := and1_bit (kindN p.core.kind) (kindN_lt _)
 have HS := Lib.hid ((St.start H.out).below hB1)
 have HR := Lib.hid (show RBlk w1 (w.heap.size + 1) 34 zReply by
  have := (RBlk.new (w.alloc (.cells #[.string x.method, .string x.key, .int .i64 x.val, .string x.text] 39)) 34 zReply).below hb1 (by simp)
  rwa [World.size_alloc] at this)
 have hkr : ¬ K (w.heap.size + 1) := fun hk => by have := (H.out.kb _ hk).2; omega
 have HXB := Lib.hid (show RBlk w1 w.heap.size 39 #[.string x.method, .string x.key, .int .i64 x.val, .string x.text] from
  ((RBlk.new w 39 #[.string x.method, .string x.key, .int .i64 x.val, .string x.text]).alloc _).below hb1 (by simp only [World.size_alloc]; omega))
 go_upto_region 2 with fail
 go_cut [26] (fun s26 wx => s26 = .bool ((kindN p.core.kind).testBit 0 && !p.core.on) ∧ wx = w1)
 case first =>
  cases hq : (kindN p.core.kind).testBit 0 with
  | true =>
   rw [hq, if_pos rfl] at hbit
   cases hon : p.core.on <;> (rw [hon] at d1; go_wp2_with fail; go_meet; case rel => exact ⟨by rw [hq, hon]; rfl, rfl⟩)
  | false =>
   rw [hq, if_neg (by simp)] at hbit
   go_wp2_with fail
   go_meet
   case rel => exact ⟨by rw [hq]; rfl, rfl⟩
 case rest =>
 obtain ⟨rfl, hwc⟩ := hcut
 replace hwc := hwc.symm
 subst hwc
 clear hbit
 by_cases hoff : (kindN p.core.kind).testBit 0 = true ∧ p.core.on = false
 ·have hq : ((kindN p.core.kind).testBit 0 && !p.core.on) = true := by simp [hoff.1, hoff.2]
  have HOFF := Lib.hid hoff
  clear hoff
  rw [hq]
  go_wp2
  obtain ⟨q1, q2⟩ := done_reply HS.out H.out HR.out (by simp) (by simpa using hkr) (rep 2 0 0 0)
  have e : onCore p (keepD p.core x) = (p, rep 2 0 0 0) := by unfold onCore keepD; rw [if_pos HOFF.out]
  rw [e]
  refine bodyPost_ret (results_blk rfl _ _ _ rfl q1 Tryz.underlying34 rfl (by kernel_rfl)) rfl q2
 have hq : ((kindN p.core.kind).testBit 0 && !p.core.on) = false := by
  cases h1 : (kindN p.core.kind).testBit 0 <;> cases h2 : p.core.on <;> simp_all
 have HOFF := Lib.hid hoff
 clear hoff
 rw [hq]
 clear hq
 go_upto_block 0 with fail
 have HN := Lib.hid hn
 clear hn
 have hf' : ∀ W : World, Below w.heap.size w W → ∀ i, W.frozen? ⟨g, i, none⟩ = false := fun W hb i => by rw [(bcell hb).2 g i hgl]; exact hf i
 have HF := Lib.hid hf'
 clear hf' hf
 have x0 : w1.cell? ⟨w.heap.size, 0, none⟩ = some (.string x.method) := by rw [HXB.out.cell]; rfl
 have x1 : w1.cell? ⟨w.heap.size, 1, none⟩ = some (.string x.key) := by rw [HXB.out.cell]; rfl
 have x2 : w1.cell? ⟨w.heap.size, 2, none⟩ = some (.int .i64 x.val) := by rw [HXB.out.cell]; rfl
 have HR1 := Lib.hid hR1
 clear hR1
 have HAt := Lib.hid (fun (k : Nat) (hk : k < n) (W : World) (hb : Below w.heap.size w W) => show ∃ b o, S1 = .slice (some ⟨b, o, none⟩) n cap ∧ K b ∧ b ≠ g ∧ OutB S1 b ∧ W.cell? ⟨b, o + k * 2, none⟩ = some (.string (nth p.core.cells k).key) ∧ W.cell? ⟨b, o + k * 2 + 1, none⟩ = some (.int .i64 (nth p.core.cells k).val) ∧ (∀ i, W.frozen? ⟨b, i, none⟩ = false) from by
  obtain ⟨b, o, cp, hSS, hKb, hbg, hob, a0, a1, hfz, hbl⟩ := HR1.out.at (i := k) (by rw [prC_len, ← HN.out]; exact hk)
  rw [prC_nth (by rw [← HN.out]; exact hk)] at a0 a1
  have e : S1 = .slice (some ⟨b, o, none⟩) n cap := by
   rw [hS1] at hSS ⊢
   simp only [Value.slice.injEq] at hSS ⊢
   exact ⟨hSS.1, trivial, trivial⟩
  exact ⟨b, o, e, hKb, hbg, hob, cell_keep hb a0, cell_keep hb a1, fun i => by rw [(bcell hb).2 b i hbl]; exact hfz i none⟩)
 rw [hS1] at d3
 have HS1 := Lib.hid hS1
 clear hS1 hlen
 go_cut [7] (fun s7 wx => s7 = .int .i64 ((atC p.core.cells x.key : Nat) : Int) ∧ Below w1.heap.size w1 wx)
 case first =>
  go_wp2
  go_loopw [7] (fun at' wr => Below w1.heap.size w1 wr ∧ ∃ k : Nat, k ≤ n ∧ at' = .int .i64 k ∧ ∀ i, i < k → ltB (nth p.core.cells i).key x.key = true) (fun at' _ => n - (intOf at').toNat)
  case atStart => exact ⟨Below.refl _ _, 0, by omega, rfl, fun i h => absurd h (by omega)⟩
  case round =>
   obtain ⟨hB, k, hk, rfl, hlow⟩ := hrel
   have e1 := cell_keep hB d1
   have e3 := cell_keep hB d3
   have e4 := cell_keep hB d4
   replace x0 := cell_keep hB x0
   replace x1 := cell_keep hB x1
   replace x2 := cell_keep hB x2
   have HLow := Lib.hid hlow
   clear hlow
   by_cases hlt : k < n
   ·obtain ⟨b, o, hSS, hKb, hbg, hob, a0, a1, hfz⟩ := HAt.out k hlt wr (bt hB1 hB)
    rw [HS1.out] at hSS
    simp only [Value.slice.injEq] at hSS
    obtain ⟨rfl, -, -⟩ := hSS
    have hi0 : (0 : Int) ≤ (k : Int) := by omega
    have hi1 : (k : Int) < (n : Int) := by omega
    have hdl : decide (k < n) = true := by simp; omega
    by_cases hl : ltB (nth p.core.cells k).key x.key = true
    ·have hl' : Op.bytesLess (nth p.core.cells k).key.toList x.key.toList = true := hl
     go_wp2
     (refine region_still_gen mo (by kernel_rfl) fun wd hwd hBd => ?_); replace e1 := cell_keep hBd e1; replace e3 := cell_keep hBd e3; replace e4 := cell_keep hBd e4; replace x0 := cell_keep hBd x0; replace x1 := cell_keep hBd x1; replace x2 := cell_keep hBd x2; replace a0 := cell_keep hBd a0; replace a1 := cell_keep hBd a1; replace hB := bt hB hBd; clear hwd hBd; (repeat still_step); refine wpStill_nil ?_
     go_wp2
     exact ⟨⟨hB, k + 1, by omega, by go_num, fun i hi => by
      rcases Nat.lt_or_ge i k with h | h
      ·exact HLow.out i h
      ·obtain rfl : i = k := by omega
       exact hl⟩, by simp [intOf]; omega⟩
    ·have hl2 : ltB (nth p.core.cells k).key x.key = false := by simpa using hl
     have hl' : Op.bytesLess (nth p.core.cells k).key.toList x.key.toList = false := hl2
     have hat : atC p.core.cells x.key = k := atC_of (by rw [← HN.out]; omega) HLow.out (fun _ => hl2)
     have HAT := Lib.hid hat
     clear hat hl hl2
     go_wp2
     (refine region_still_gen mo (by kernel_rfl) fun wd hwd hBd => ?_); replace e1 := cell_keep hBd e1; replace e3 := cell_keep hBd e3; replace e4 := cell_keep hBd e4; replace x0 := cell_keep hBd x0; replace x1 := cell_keep hBd x1; replace x2 := cell_keep hBd x2; replace a0 := cell_keep hBd a0; replace a1 := cell_keep hBd a1; replace hB := bt hB hBd; clear hwd hBd; (repeat still_step); refine wpStill_nil ?_
     go_wp2_with fail
     go_meet
     case rel => exact ⟨by rw [HAT.out], hB⟩
   ·have hat : atC p.core.cells x.key = k := atC_of (by rw [← HN.out]; omega) HLow.out (fun h => by have := HN.out; omega)
    have HAT := Lib.hid hat
    clear hat
    have hdl : decide (k < n) = false := by simp; omega
    go_wp2
    refine region_quiet (C := Cls w1 [((⟨g, 3, none⟩ : Addr), .slice a n cap)]) (by kernel_rfl) (by kernel_rfl) (Cls.start hB ⟨e3, trivial⟩) ?_; (repeat (first | go_big_quiet_skip | (go_big_quiet_want; first | (refine BigFrame.quiet_move _ rfl ?_; (try simp only [Act.put]); (try simp only [Act.eval]); (try simp only [Array.getD_eq_getD_getElem?]); (try simp only [List.getElem?_toArray]); (try simp only [List.getElem?_cons_succ]); (try simp only [List.getElem?_cons_zero]); (try simp only [Option.getD_some]); (try simp only [List.setIfInBounds_toArray]); (try simp only [List.set_cons_succ]); (try simp only [List.set_cons_zero]); go_big_quiet_on) | (refine BigFrame.quiet_assign _ rfl ?_; (try simp only [Act.put]); (try simp only [Act.eval]); (try simp only [Array.getD_eq_getD_getElem?]); (try simp only [List.getElem?_toArray]); (try simp only [List.getElem?_cons_succ]); (try simp only [List.getElem?_cons_zero]); (try simp only [Option.getD_some]); (try simp only [List.setIfInBounds_toArray]); (try simp only [List.set_cons_succ]); (try simp only [List.set_cons_zero]); go_big_quiet_on) | (apply quiet_run; (focus (intro w' hC; simp only [Cls, HoldC] at hC; go_split_ands; go_simp; (try exact rfl); done)); (try simp only [Act.put]); (try simp only [List.setIfInBounds_toArray]); (try simp only [List.set_cons_succ]); (try simp only [List.set_cons_zero]); go_big_quiet_on)))); refine wpQuiet_nil ?_; intro w' hC; simp only [Cls, HoldC] at hC; go_split_ands
    go_wp2_with fail
    go_meet
    case rel => exact ⟨by rw [HAT.out], by assumption⟩
 case rest =>
 obtain ⟨rfl, hB⟩ := hcut
 have hle : atC p.core.cells x.key ≤ n := by rw [HN.out]; exact atC_le _ _
 obtain ⟨k, hk⟩ : ∃ k, atC p.core.cells x.key = k := ⟨_, rfl⟩
 rw [hk] at hle ⊢
 have HK2 := Lib.hid hk
 clear hk
 have e1 := cell_keep hB d1
 have e3 := cell_keep hB d3
 have e4 := cell_keep hB d4
 replace x0 := cell_keep hB x0
 replace x1 := cell_keep hB x1
 replace x2 := cell_keep hB x2
 have HSt := Lib.hid (HS.out.below hB)
 have HRt := Lib.hid (HR.out.below hB (by omega))
 have HBt := Lib.hid (bt hB1 hB)
 go_upto_region 7 with fail
 go_cut [8] (fun s8 wx => s8 = .bool (isK p.core.cells x.key) ∧ Below wc.heap.size wc wx)
 case first =>
  by_cases hlt : k < n
  ·obtain ⟨b, o, hSS, hKb, hbg, hob, a0, a1, hfz⟩ := HAt.out k hlt wc HBt.out
   rw [HS1.out] at hSS
   simp only [Value.slice.injEq] at hSS
   obtain ⟨rfl, -, -⟩ := hSS
   have hi0 : (0 : Int) ≤ (k : Int) := by omega
   have hi1 : (k : Int) < (n : Int) := by omega
   have hdl : decide (k < n) = true := by simp; omega
   cases hky : decide ((nth p.core.cells k).key = x.key) with
   | true =>
    have hky' : ((nth p.core.cells k).key.toList == x.key.toList) = true := by rw [toList_eqB]; exact hky
    have his : isK p.core.cells x.key = true := isK_iff.2 ⟨by rw [HK2.out, ← HN.out]; exact hlt, by rw [HK2.out]; simpa using hky⟩
    have HIS := Lib.hid his
    clear his hky
    refine region_quiet (C := Cls wc [((⟨g, 3, none⟩ : Addr), .slice (some ⟨b, o, none⟩) n cap), (⟨b, o + k * 2, none⟩, .string (nth p.core.cells k).key), (⟨w.heap.size, 1, none⟩, .string x.key)]) (by kernel_rfl) (by kernel_rfl) (Cls.start (Below.refl _ wc) ⟨e3, a0, x1, trivial⟩) ?_; (repeat (first | go_big_quiet_skip | (go_big_quiet_want; first | (refine BigFrame.quiet_move _ rfl ?_; (try simp only [Act.put]); (try simp only [Act.eval]); (try simp only [Array.getD_eq_getD_getElem?]); (try simp only [List.getElem?_toArray]); (try simp only [List.getElem?_cons_succ]); (try simp only [List.getElem?_cons_zero]); (try simp only [Option.getD_some]); (try simp only [List.setIfInBounds_toArray]); (try simp only [List.set_cons_succ]); (try simp only [List.set_cons_zero]); go_big_quiet_on) | (refine BigFrame.quiet_assign _ rfl ?_; (try simp only [Act.put]); (try simp only [Act.eval]); (try simp only [Array.getD_eq_getD_getElem?]); (try simp only [List.getElem?_toArray]); (try simp only [List.getElem?_cons_succ]); (try simp only [List.getElem?_cons_zero]); (try simp only [Option.getD_some]); (try simp only [List.setIfInBounds_toArray]); (try simp only [List.set_cons_succ]); (try simp only [List.set_cons_zero]); go_big_quiet_on) | (apply quiet_run; (focus (intro w' hC; simp only [Cls, HoldC] at hC; go_split_ands; go_simp; (try exact rfl); done)); (try simp only [Act.put]); (try simp only [List.setIfInBounds_toArray]); (try simp only [List.set_cons_succ]); (try simp only [List.set_cons_zero]); go_big_quiet_on)))); refine wpQuiet_nil ?_; intro w' hC; simp only [Cls, HoldC] at hC; go_split_ands
    go_wp2_with fail
    go_meet
    case rel => exact ⟨by rw [HIS.out], by assumption⟩
   | false =>
    have hky' : ((nth p.core.cells k).key.toList == x.key.toList) = false := by rw [toList_eqB]; exact hky
    have his : isK p.core.cells x.key = false := by
     unfold isK; rw [HK2.out, hky]; simp
    have HIS := Lib.hid his
    clear his hky
    refine region_quiet (C := Cls wc [((⟨g, 3, none⟩ : Addr), .slice (some ⟨b, o, none⟩) n cap), (⟨b, o + k * 2, none⟩, .string (nth p.core.cells k).key), (⟨w.heap.size, 1, none⟩, .string x.key)]) (by kernel_rfl) (by kernel_rfl) (Cls.start (Below.refl _ wc) ⟨e3, a0, x1, trivial⟩) ?_; (repeat (first | go_big_quiet_skip | (go_big_quiet_want; first | (refine BigFrame.quiet_move _ rfl ?_; (try simp only [Act.put]); (try simp only [Act.eval]); (try simp only [Array.getD_eq_getD_getElem?]); (try simp only [List.getElem?_toArray]); (try simp only [List.getElem?_cons_succ]); (try simp only [List.getElem?_cons_zero]); (try simp only [Option.getD_some]); (try simp only [List.setIfInBounds_toArray]); (try simp only [List.set_cons_succ]); (try simp only [List.set_cons_zero]); go_big_quiet_on) | (refine BigFrame.quiet_assign _ rfl ?_; (try simp only [Act.put]); (try simp only [Act.eval]); (try simp only [Array.getD_eq_getD_getElem?]); (try simp only [List.getElem?_toArray]); (try simp only [List.getElem?_cons_succ]); (try simp only [List.getElem?_cons_zero]); (try simp only [Option.getD_some]); (try simp only [List.setIfInBounds_toArray]); (try simp only [List.set_cons_succ]); (try simp only [List.set_cons_zero]); go_big_quiet_on) | (apply quiet_run; (focus (intro w' hC; simp only [Cls, HoldC] at hC; go_split_ands; go_simp; (try exact rfl); done)); (try simp only [Act.put]); (try simp only [List.setIfInBounds_toArray]); (try simp only [List.set_cons_succ]); (try simp only [List.set_cons_zero]); go_big_quiet_on)))); refine wpQuiet_nil ?_; intro w' hC; simp only [Cls, HoldC] at hC; go_split_ands
    go_wp2_with fail
    go_meet
    case rel => exact ⟨by rw [HIS.out], by assumption⟩
  ·have hdl : decide (k < n) = false := by simp; omega
   have his : isK p.core.cells x.key = false := by
    unfold isK; rw [HK2.out, ← HN.out, hdl]; rfl
   have HIS := Lib.hid his
   clear his
   refine region_quiet (C := Cls wc [((⟨g, 3, none⟩ : Addr), .slice a n cap)]) (by kernel_rfl) (by kernel_rfl) (Cls.start (Below.refl _ wc) ⟨e3, trivial⟩) ?_; (repeat (first | go_big_quiet_skip | (go_big_quiet_want; first | (refine BigFrame.quiet_move _ rfl ?_; (try simp only [Act.put]); (try simp only [Act.eval]); (try simp only [Array.getD_eq_getD_getElem?]); (try simp only [List.getElem?_toArray]); (try simp only [List.getElem?_cons_succ]); (try simp only [List.getElem?_cons_zero]); (try simp only [Option.getD_some]); (try simp only [List.setIfInBounds_toArray]); (try simp only [List.set_cons_succ]); (try simp only [List.set_cons_zero]); go_big_quiet_on) | (refine BigFrame.quiet_assign _ rfl ?_; (try simp only [Act.put]); (try simp only [Act.eval]); (try simp only [Array.getD_eq_getD_getElem?]); (try simp only [List.getElem?_toArray]); (try simp only [List.getElem?_cons_succ]); (try simp only [List.getElem?_cons_zero]); (try simp only [Option.getD_some]); (try simp only [List.setIfInBounds_toArray]); (try simp only [List.set_cons_succ]); (try simp only [List.set_cons_zero]); go_big_quiet_on) | (apply quiet_run; (focus (intro w' hC; simp only [Cls, HoldC] at hC; go_split_ands; go_simp; (try exact rfl); done)); (try simp only [Act.put]); (try simp only [List.setIfInBounds_toArray]); (try simp only [List.set_cons_succ]); (try simp only [List.set_cons_zero]); go_big_quiet_on)))); refine wpQuiet_nil ?_; intro w' hC; simp only [Cls, HoldC] at hC; go_split_ands
   go_wp2_with fail
   go_meet
   case rel => exact ⟨by rw [HIS.out], by assumption⟩
 case rest =>
 obtain ⟨rfl, hBx⟩ := hcut
 replace e1 := cell_keep hBx e1
 replace e3 := cell_keep hBx e3
 replace e4 := cell_keep hBx e4
 replace x0 := cell_keep hBx x0
 replace x1 := cell_keep hBx x1
 replace x2 := cell_keep hBx x2
 have HSx := Lib.hid (HSt.out.below hBx)
 have hRx := HRt.out.below hBx (by have := hB.size; omega)
 have HRx := Lib.hid hRx
 have HBx := Lib.hid (bt HBt.out hBx)
 generalize his : isK p.core.cells x.key = bv
 go_upto_block 2 with fail
 go_cut [] (fun wy => (∃ K', St K w g S2 K' ⟨⟨p.core.kind, p.core.on, p.core.broken, putC p.core.cells x.key x.val, p.core.count⟩, p.layers⟩ wy ∧ ¬ K' (w.heap.size + 1) ∧ RBlk wy (w.heap.size + 1) 34 zReply) ∧ onCore p (keepD p.core x) = (⟨⟨p.core.kind, p.core.on, p.core.broken, putC p.core.cells x.key x.val, up3 p.core.count⟩, p.layers⟩, rep 0 (putC p.core.cells x.key x.val).length 0 0))
 case first =>
  by_cases hg : x.method = mGet
  ·have hg' : x.method.toList = [71, 101, 116] := by rw [hg, ByteArray.toList_eq]; rfl
   have HG := Lib.hid hg
   clear hg
   cases bv with
   | true =>
    have HIS := Lib.hid his
    clear his
    have hkn : k < n := by have := (isK_iff.1 HIS.out).1; rw [HK2.out] at this; have := HN.out; omega
    obtain ⟨b, o, hSS, hKb, hbg, hob, a0, a1, hfz⟩ := HAt.out k hkn wc HBx.out
    rw [HS1.out] at hSS
    simp only [Value.slice.injEq] at hSS
    obtain ⟨rfl, -, -⟩ := hSS
    have hi0 : (0 : Int) ≤ (k : Int) := by omega
    have hi1 : (k : Int) < (n : Int) := by omega
    have hRE := HRx.out; obtain ⟨rz0, rz1, rz2, rz3, rz4, rzf⟩ := rzs (w := wc) (b := w.heap.size + 1) hRE
    go_wp2
    obtain ⟨q1, q2⟩ := done_reply HSx.out H.out HRx.out (by omega) hkr (rep 0 (nth p.core.cells k).val 0 0)
    have e : onCore p (keepD p.core x) = (p, rep 0 (nth p.core.cells k).val 0 0) := by unfold onCore keepD; rw [if_neg HOFF.out, if_pos HG.out, if_pos HIS.out, HK2.out]
    rw [e]
    refine bodyPost_ret (results_blk rfl _ _ _ rfl q1 Tryz.underlying34 rfl (by kernel_rfl)) rfl q2
   | false =>
    have HIS := Lib.hid his
    clear his
    have hRE := HRx.out; obtain ⟨rz0, rz1, rz2, rz3, rz4, rzf⟩ := rzs (w := wc) (b := w.heap.size + 1) hRE
    go_wp2
    obtain ⟨q1, q2⟩ := done_reply HSx.out H.out HRx.out (by omega) hkr (rep 4 0 0 0)
    have e : onCore p (keepD p.core x) = (p, rep 4 0 0 0) := by unfold onCore keepD; rw [if_neg HOFF.out, if_pos HG.out, if_neg (by rw [HIS.out]; simp)]
    rw [e]
    refine bodyPost_ret (results_blk rfl _ _ _ rfl q1 Tryz.underlying34 rfl (by kernel_rfl)) rfl q2
  ·have hg' : (x.method.toList == [71, 101, 116]) = false := by
    have : ¬ x.method.toList = [71, 101, 116] := fun h => hg (toList_inj (by rw [h, ByteArray.toList_eq]; rfl))
    simpa using this
   have HG := Lib.hid hg
   clear hg
   cases bv with
   | true =>
    have HIS := Lib.hid his
    clear his
    have hkn : k < n := by have := (isK_iff.1 HIS.out).1; rw [HK2.out] at this; have := HN.out; omega
    obtain ⟨b, o, hSS, hKb, hbg, hob, a0, a1, hfz⟩ := HAt.out k hkn wc HBx.out
    rw [HS1.out] at hSS
    simp only [Value.slice.injEq] at hSS
    obtain ⟨rfl, -, -⟩ := hSS
    have hi0 : (0 : Int) ≤ (k : Int) := by omega
    have hi1 : (k : Int) < (n : Int) := by omega
    go_wp2
    refine region_tail_gen 9 mo (by kernel_rfl) fun wd hwd hBd => ?_
    replace e3 := cell_keep hBd e3
    replace x2 := cell_keep hBd x2
    replace a1 := cell_keep hBd a1
    have hfz' : ∀ i, wd.frozen? ⟨b, i, none⟩ = false := fun i => (fro_of_block (w := wc) (w' := wd) (p := ⟨b, i, none⟩) (by rw [hwd])).trans (hfz i)
    have HSd := Lib.hid (HSx.out.below hBd)
    have HRd := Lib.hid (HRx.out.below hBd (by have := HSx.out.fr.size; have := HRx.out.lt; omega))
    simp only [List.take_succ_cons, List.take_zero, List.drop_succ_cons, List.drop_zero]
    (repeat still_step)
    refine wpStill_nil ?_
    go_wp2_with fail
    go_meet
    case rel =>
     have hkc : k < p.core.cells.length := by rw [← HN.out]; exact hkn
     have P2 := HSd.out.pb.putCell e3 hkc HX.out.val
     have e : p.core.cells.set k ⟨(nth p.core.cells k).key, x.val⟩ = putC p.core.cells x.key x.val := by
      unfold putC
      have := (isK_iff.1 HIS.out).2
      rw [HK2.out] at this
      rw [if_pos HIS.out, HK2.out, this]
     rw [e] at P2
     exact ⟨⟨K, HSd.out.put (a := ⟨b, o + k * 2 + 1, none⟩) hKb P2, hkr, HRd.out.far (by intro e2; exact hkr (by have e2 : w.heap.size + 1 = b := e2; rw [e2]; exact hKb)) _⟩, by unfold onCore keepD; rw [if_neg HOFF.out, if_neg HG.out, if_neg (fun h => by have h1 := h.1; rw [HIS.out] at h1; cases h1)]⟩
   | false =>
    have HIS := Lib.hid his
    clear his
    by_cases h4 : 4 ≤ n
    ·have h4' : (4 : Int) ≤ (n : Int) := by omega
     have hRE := HRx.out; obtain ⟨rz0, rz1, rz2, rz3, rz4, rzf⟩ := rzs (w := wc) (b := w.heap.size + 1) hRE
     go_wp2
     obtain ⟨q1, q2⟩ := done_reply HSx.out H.out HRx.out (by omega) hkr (rep 5 0 0 0)
     have e : onCore p (keepD p.core x) = (p, rep 5 0 0 0) := by unfold onCore keepD; rw [if_neg HOFF.out, if_neg HG.out, if_pos ⟨HIS.out, by rw [← HN.out]; exact h4⟩]
     rw [e]
     refine bodyPost_ret (results_blk rfl _ _ _ rfl q1 Tryz.underlying34 rfl (by kernel_rfl)) rfl q2
    ·have h4' : ¬ ((4 : Int) ≤ (n : Int)) := by omega
     go_wp2
     cases a with
     | none =>
      obtain ⟨ti, hti, hz, hsz, hby⟩ := info_parts (P := Tryz.prog) (e := 125) (z := .agg #[.string ⟨#[]⟩, .int .i64 0]) (size := 2) (bytes := 24) (by kernel_rfl)
      have hc0 : cap = 0 := by
       obtain ⟨a', cap', e, _, _, h3, _⟩ := HR1.out
       rw [HS1.out] at e
       simp only [Value.slice.injEq] at e
       rw [e.2.2]; exact h3 e.1.symm
      have hn0 : n = 0 := by omega
      have hk0 : k = 0 := by omega
      have hnil : p.core.cells = [] := List.eq_nil_of_length_eq_zero (by rw [← HN.out]; exact hn0)
      have HNIL := Lib.hid hnil
      clear hnil
      subst hc0 hn0 hk0
      refine wp_region_U (fun W => Below wc.heap.size wc W) 24 (by kernel_rfl) (by go_grown) (fun hSS => ?_)
      refine anyU_take (i := 0) (v := ?_) rfl (by kernel_rfl) (by kernel_rfl) (by kernel_rfl) (by kernel_rfl) (fun _ _ _ h => h) (Or.inl ⟨by rfl, ?_⟩) hSS ?_
      rotate_left
      ·intro W hW
       have e3W := cell_keep hW e3; have x1W := cell_keep hW x1; have x2W := cell_keep hW x2
       go_simp
       try with_reducible rfl
      try simp only [Act.put, sI]
      refine anyU_take (i := 1) (v := ?_) rfl (by kernel_rfl) (by kernel_rfl) (by kernel_rfl) (by kernel_rfl) (fun _ _ _ h => h) (Or.inl ⟨by rfl, ?_⟩) hSS ?_
      rotate_left
      ·intro W hW
       have e3W := cell_keep hW e3; have x1W := cell_keep hW x1; have x2W := cell_keep hW x2
       go_simp
       try with_reducible rfl
      try simp only [Act.put, sI]
      refine anyU_take (i := 2) (v := ?_) rfl (by kernel_rfl) (by kernel_rfl) (by kernel_rfl) (by kernel_rfl) (fun _ _ _ h => h) (Or.inl ⟨by rfl, ?_⟩) hSS ?_
      rotate_left
      ·intro W hW
       have e3W := cell_keep hW e3; have x1W := cell_keep hW x1; have x2W := cell_keep hW x2
       go_simp
       try with_reducible rfl
      try simp only [Act.put, sI]
      refine anyU_take (i := 3) (v := ?_) rfl (by kernel_rfl) (by kernel_rfl) (by kernel_rfl) (by kernel_rfl) (fun _ _ _ h => h) (Or.inl ⟨by rfl, ?_⟩) hSS ?_
      rotate_left
      ·intro W hW
       have e3W := cell_keep hW e3; have x1W := cell_keep hW x1; have x2W := cell_keep hW x2
       go_simp
       try with_reducible rfl
      try simp only [Act.put, sI]
      refine anyU_take (i := 4) (v := ?_) rfl (by kernel_rfl) (by kernel_rfl) (by kernel_rfl) (by kernel_rfl) (fun _ _ _ h => h) (Or.inl ⟨by rfl, ?_⟩) hSS ?_
      rotate_left
      ·intro W hW
       have e3W := cell_keep hW e3; have x1W := cell_keep hW x1; have x2W := cell_keep hW x2
       go_simp
       try with_reducible rfl
      try simp only [Act.put, sI]
      refine anyU_take (i := 5) (v := ?_) rfl (by kernel_rfl) (by kernel_rfl) (by kernel_rfl) (by kernel_rfl) (fun _ _ _ h => h) (Or.inl ⟨by rfl, ?_⟩) hSS ?_
      rotate_left
      ·intro W hW
       have e3W := cell_keep hW e3; have x1W := cell_keep hW x1; have x2W := cell_keep hW x2
       go_simp
       try with_reducible rfl
      try simp only [Act.put, sI]
      refine anyU_take (i := 6) (v := ?_) rfl (by kernel_rfl) (by kernel_rfl) (by kernel_rfl) (by kernel_rfl) (fun _ _ _ h => h) (Or.inl ⟨by rfl, ?_⟩) hSS ?_
      rotate_left
      ·intro W hW
       have e3W := cell_keep hW e3; have x1W := cell_keep hW x1; have x2W := cell_keep hW x2
       go_simp
       try with_reducible rfl
      try simp only [Act.put, sI]
      refine anyU_take (i := 8) (v := ?_) rfl (by kernel_rfl) (by kernel_rfl) (by kernel_rfl) (by kernel_rfl) (fun _ _ _ h => h) (Or.inl ⟨by rfl, ?_⟩) hSS ?_
      rotate_left
      ·intro W hW
       have e3W := cell_keep hW e3; have x1W := cell_keep hW x1; have x2W := cell_keep hW x2
       go_simp
       try with_reducible rfl
      try simp only [Act.put, sI]
      refine anyU_take (i := 9) (v := ?_) rfl (by kernel_rfl) (by kernel_rfl) (by kernel_rfl) (by kernel_rfl) (fun _ _ _ h => h) (Or.inl ⟨by rfl, ?_⟩) hSS ?_
      rotate_left
      ·intro W hW
       have e3W := cell_keep hW e3; have x1W := cell_keep hW x1; have x2W := cell_keep hW x2
       go_simp
       try with_reducible rfl
      try simp only [Act.put, sI]
      refine anyU_take (i := 10) (v := ?_) rfl (by kernel_rfl) (by kernel_rfl) (by kernel_rfl) (by kernel_rfl) (fun _ _ _ h => h) (Or.inl ⟨by rfl, ?_⟩) hSS ?_
      rotate_left
      ·intro W hW
       have e3W := cell_keep hW e3; have x1W := cell_keep hW x1; have x2W := cell_keep hW x2
       go_simp
       try with_reducible rfl
      try simp only [Act.put, sI]
      refine anyU_take (i := 11) (v := ?_) rfl (by kernel_rfl) (by kernel_rfl) (by kernel_rfl) (by kernel_rfl) (fun _ _ _ h => h) (Or.inl ⟨by rfl, ?_⟩) hSS ?_
      rotate_left
      ·intro W hW
       have e3W := cell_keep hW e3; have x1W := cell_keep hW x1; have x2W := cell_keep hW x2
       go_simp
       try with_reducible rfl
      try simp only [Act.put, sI]
      refine anyU_take (i := 12) (v := ?_) rfl (by kernel_rfl) (by kernel_rfl) (by kernel_rfl) (by kernel_rfl) (fun _ _ _ h => h) (Or.inl ⟨by rfl, ?_⟩) hSS ?_
      rotate_left
      ·intro W hW
       have e3W := cell_keep hW e3; have x1W := cell_keep hW x1; have x2W := cell_keep hW x2
       go_simp
       try with_reducible rfl
      try simp only [Act.put, sI]
      refine anyU_take (i := 15) (v := ?_) rfl (by kernel_rfl) (by kernel_rfl) (by kernel_rfl) (by kernel_rfl) (fun _ _ _ h => h) (Or.inl ⟨by rfl, ?_⟩) hSS ?_
      rotate_left
      ·intro W hW
       have e3W := cell_keep hW e3; have x1W := cell_keep hW x1; have x2W := cell_keep hW x2
       go_simp
       try with_reducible rfl
      try simp only [Act.put, sI]
      refine anyU_take (i := 16) (v := ?_) rfl (by kernel_rfl) (by kernel_rfl) (by kernel_rfl) (by kernel_rfl) (fun _ _ _ h => h) (Or.inl ⟨by rfl, ?_⟩) hSS ?_
      rotate_left
      ·intro W hW
       have e3W := cell_keep hW e3; have x1W := cell_keep hW x1; have x2W := cell_keep hW x2
       go_simp
       try with_reducible rfl
      try simp only [Act.put, sI]
      refine anyU_take (i := 17) (v := ?_) rfl (by kernel_rfl) (by kernel_rfl) (by kernel_rfl) (by kernel_rfl) (fun _ _ _ h => h) (Or.inl ⟨by rfl, ?_⟩) hSS ?_
      rotate_left
      ·intro W hW
       have e3W := cell_keep hW e3; have x1W := cell_keep hW x1; have x2W := cell_keep hW x2
       go_simp
       try with_reducible rfl
      try simp only [Act.put, sI]
      refine anyU_take (i := 18) (v := ?_) rfl (by kernel_rfl) (by kernel_rfl) (by kernel_rfl) (by kernel_rfl) (fun _ _ _ h => h) (Or.inl ⟨by rfl, ?_⟩) hSS ?_
      rotate_left
      ·intro W hW
       have e3W := cell_keep hW e3; have x1W := cell_keep hW x1; have x2W := cell_keep hW x2
       go_simp
       try with_reducible rfl
      try simp only [Act.put, sI]
      refine anyU_take (i := 19) (v := ?_) rfl (by kernel_rfl) (by kernel_rfl) (by kernel_rfl) (by kernel_rfl) (fun _ _ _ h => h) (Or.inl ⟨by rfl, ?_⟩) hSS ?_
      rotate_left
      ·intro W hW
       have e3W := cell_keep hW e3; have x1W := cell_keep hW x1; have x2W := cell_keep hW x2
       go_simp
       try with_reducible rfl
      try simp only [Act.put, sI]
      refine anyU_take (i := 20) (v := ?_) rfl (by kernel_rfl) (by kernel_rfl) (by kernel_rfl) (by kernel_rfl) (fun _ _ _ h => h) (Or.inl ⟨by rfl, ?_⟩) hSS ?_
      rotate_left
      ·intro W hW
       have e3W := cell_keep hW e3; have x1W := cell_keep hW x1; have x2W := cell_keep hW x2
       go_simp
       try with_reducible rfl
      try simp only [Act.put, sI]
      refine anyU_two (i := 7) (k := 13) rfl rfl (by kernel_rfl) ?_ ?_
      ·intro K' hK
       refine step_append_none rfl (.const (.slice none 0 0)) (.tmp 76) 24 rfl 125 ti Tryz.underlying24 hti none 0 0 rfl (Nat.le_refl _) rfl ?_
       refine hK _ _ (fun _ => by go_grown) (fun hS => ?_)
       clear hK K' hS
       try simp only [Act.put, sI]
       refine anyU_one (i := 13) rfl (by kernel_rfl) ?_
       intro K' hK
       go_simp
       refine hK _ _ (fun _ => by go_grown) (fun hS => ?_)
       clear hK K' hS
       try simp only [Act.put, sI]
       refine anyU_one (i := 14) rfl (by kernel_rfl) ?_
       intro K' hK
       refine step_append_own (w0 := wc) rfl (.tmp 77) (.tmp 83) 24 rfl 125 ti _ 2 24 Tryz.underlying24 hti hz hsz hby rfl (by decide) (.slice none 0 0) 0 [] rfl (World.ownsRow_nil _ _ _ _) _ 1 1 [.string x.key, .int .i64 x.val] rfl rfl (by first | exact cells_newL | (intro j u hj; exact cell_keep (by go_grown) (cells_newL j u hj)) | (intro j u hj; simpa using cells_newL (w := wc) j u hj)) (by intro u hu; simp at hu; rcases hu with rfl | rfl <;> rfl) (by unfold maxLen; omega) (by omega) (by go_grown) ?_
       intro v2 W2 ho2 hB2 hK2
       obtain ⟨a3, c3z, rfl⟩ := owns_slice ho2
       refine hK _ _ (fun _ => hB2) (fun hS => ?_)
       clear hK K' hS
       try simp only [Act.put, sI]
       refine anyU_one (i := 21) rfl (by kernel_rfl) ?_
       intro K' hK
       refine step_append_none rfl (.tmp 84) (.tmp 90) 24 rfl 125 ti Tryz.underlying24 hti a3 _ c3z rfl (owns_le ho2) rfl ?_
       refine hK _ _ (fun _ => hB2) (fun hS => ?_)
       clear hK K' hS
       try simp only [Act.put, sI]
       have e33 := cell_keep hB2 e3; have f33 := HF.out W2 (bt HBx.out hB2)
       refine anyU_take (i := 22) (v := ?_) rfl (by kernel_rfl) (by kernel_rfl) (by kernel_rfl) (by kernel_rfl) (fun _ _ _ h => h) (Or.inl ⟨by rfl, ?_⟩) hB2 ?_
       rotate_left
       ·intro W hW
        have e3W := cell_keep hW e3; have x1W := cell_keep hW x1; have x2W := cell_keep hW x2
        go_simp
        try with_reducible rfl
       try simp only [Act.put, sI]
       refine anyU_take (i := 23) (v := ?_) rfl (by kernel_rfl) (by kernel_rfl) (by kernel_rfl) (by kernel_rfl) (fun _ _ _ h => h) (Or.inl ⟨by rfl, ?_⟩) hB2 ?_
       rotate_left
       ·intro W hW
        have e3W := cell_keep hW e3; have x1W := cell_keep hW x1; have x2W := cell_keep hW x2
        go_simp
        try with_reducible rfl
       try simp only [Act.put, sI]
       refine anyU_one (i := 24) rfl (by kernel_rfl) ?_
       intro K' hK
       go_simp
       refine hK _ _ (fun h => absurd rfl h) (fun _ => ?_)
       clear hK K'
       refine anyU_done (by kernel_rfl) ?_ _
       go_wp2_with fail
       go_meet
       case rel => exact ⟨leaf_insert HSx.out HX.out HN.out HK2.out HIS.out hB2 ho2 (by omega) (by rw [HNIL.out]; simp [prC, flatL]) HRx.out hkr, by unfold onCore keepD; rw [if_neg HOFF.out, if_neg HG.out, if_neg (fun h => by have h1 := h.2; have h2 := HN.out; omega)]⟩
      ·intro K' hK
       go_simp
       refine hK _ _ (fun _ => by go_grown) (fun hS => ?_)
       clear hK K' hS
       try simp only [Act.put, sI]
       refine anyU_one (i := 7) rfl (by kernel_rfl) ?_
       intro K' hK
       refine step_append_none rfl (.const (.slice none 0 0)) (.tmp 76) 24 rfl 125 ti Tryz.underlying24 hti none 0 0 rfl (Nat.le_refl _) rfl ?_
       refine hK _ _ (fun _ => by go_grown) (fun hS => ?_)
       clear hK K' hS
       try simp only [Act.put, sI]
       refine anyU_one (i := 14) rfl (by kernel_rfl) ?_
       intro K' hK
       refine step_append_own (w0 := wc) rfl (.tmp 77) (.tmp 83) 24 rfl 125 ti _ 2 24 Tryz.underlying24 hti hz hsz hby rfl (by decide) (.slice none 0 0) 0 [] rfl (World.ownsRow_nil _ _ _ _) _ 1 1 [.string x.key, .int .i64 x.val] rfl rfl (by first | exact cells_newL | (intro j u hj; exact cell_keep (by go_grown) (cells_newL j u hj)) | (intro j u hj; simpa using cells_newL (w := wc) j u hj)) (by intro u hu; simp at hu; rcases hu with rfl | rfl <;> rfl) (by unfold maxLen; omega) (by omega) (by go_grown) ?_
       intro v2 W2 ho2 hB2 hK2
       obtain ⟨a3, c3z, rfl⟩ := owns_slice ho2
       refine hK _ _ (fun _ => hB2) (fun hS => ?_)
       clear hK K' hS
       try simp only [Act.put, sI]
       refine anyU_one (i := 21) rfl (by kernel_rfl) ?_
       intro K' hK
       refine step_append_none rfl (.tmp 84) (.tmp 90) 24 rfl 125 ti Tryz.underlying24 hti a3 _ c3z rfl (owns_le ho2) rfl ?_
       refine hK _ _ (fun _ => hB2) (fun hS => ?_)
       clear hK K' hS
       try simp only [Act.put, sI]
       have e33 := cell_keep hB2 e3; have f33 := HF.out W2 (bt HBx.out hB2)
       refine anyU_take (i := 22) (v := ?_) rfl (by kernel_rfl) (by kernel_rfl) (by kernel_rfl) (by kernel_rfl) (fun _ _ _ h => h) (Or.inl ⟨by rfl, ?_⟩) hB2 ?_
       rotate_left
       ·intro W hW
        have e3W := cell_keep hW e3; have x1W := cell_keep hW x1; have x2W := cell_keep hW x2
        go_simp
        try with_reducible rfl
       try simp only [Act.put, sI]
       refine anyU_take (i := 23) (v := ?_) rfl (by kernel_rfl) (by kernel_rfl) (by kernel_rfl) (by kernel_rfl) (fun _ _ _ h => h) (Or.inl ⟨by rfl, ?_⟩) hB2 ?_
       rotate_left
       ·intro W hW
        have e3W := cell_keep hW e3; have x1W := cell_keep hW x1; have x2W := cell_keep hW x2
        go_simp
        try with_reducible rfl
       try simp only [Act.put, sI]
       refine anyU_one (i := 24) rfl (by kernel_rfl) ?_
       intro K' hK
       go_simp
       refine hK _ _ (fun h => absurd rfl h) (fun _ => ?_)
       clear hK K'
       refine anyU_done (by kernel_rfl) ?_ _
       go_wp2_with fail
       go_meet
       case rel => exact ⟨leaf_insert HSx.out HX.out HN.out HK2.out HIS.out hB2 ho2 (by omega) (by rw [HNIL.out]; simp [prC, flatL]) HRx.out hkr, by unfold onCore keepD; rw [if_neg HOFF.out, if_neg HG.out, if_neg (fun h => by have h1 := h.2; have h2 := HN.out; omega)]⟩
     | some ad =>
      obtain ⟨ti, hti, hz, hsz, hby⟩ := info_parts (P := Tryz.prog) (e := 125) (z := .agg #[.string ⟨#[]⟩, .int .i64 0]) (size := 2) (bytes := 24) (by kernel_rfl)
      have hi0 : (0 : Int) ≤ (k : Int) := by omega
      have hi1 : (k : Int) ≤ (n : Int) := by omega
      have hi2 : (k : Int) ≤ (cap : Int) := by omega
      have hi3 : (n : Int) ≤ (cap : Int) := by omega
      have hnn : n = (prC p.core.cells).length := by rw [prC_len]; exact HN.out
      have HCt := Lib.hid (fun (W : World) (hb : Below wc.heap.size wc W) => show ∀ j u, (flatL ((prC p.core.cells).take k))[j]? = some u → W.cell? (ad.add j) = some u from fun j u hj => by
       have hr := HR1.out
       rw [HS1.out] at hr
       exact cell_keep (bt HBx.out hb) (hr.flatT k j u hj))
      have HCd := Lib.hid (fun (W : World) (hb : Below wc.heap.size wc W) => show ∀ j u, (flatL ((prC p.core.cells).drop k))[j]? = some u → W.cell? ((ad.add (k * 2)).add j) = some u from fun j u hj => by
       have hr := HR1.out
       rw [HS1.out] at hr
       have := cell_keep (bt HBx.out hb) (hr.flat k j u hj)
       rw [addr_add2]
       exact this)
      have HLt := Lib.hid (show (flatL ((prC p.core.cells).take k)).length = k * 2 by rw [flatL_len, List.length_take, ← hnn]; omega)
      have HLd := Lib.hid (show (flatL ((prC p.core.cells).drop k)).length = (n - k) * 2 by rw [flatL_len, List.length_drop, ← hnn])
      clear hnn
      have e3a := (fun o => cell_keep ((Below.refl wc.heap.size wc).alloc (Nat.le_refl _) o) e3)
      have x1a := (fun o => cell_keep ((Below.refl wc.heap.size wc).alloc (Nat.le_refl _) o) x1)
      have x2a := (fun o => cell_keep ((Below.refl wc.heap.size wc).alloc (Nat.le_refl _) o) x2)
      by_cases hck : cap = k
      ·have HCe := Lib.hid (fun (W : World) => show ∀ j u, (flatL ((prC p.core.cells).drop k))[j]? = some u → W.cell? (ad.add j) = some u from fun j u hj => by
        have := (List.getElem?_eq_some_iff.1 hj).1
        rw [HLd.out] at this
        omega)
       have hckT : (cap = k) = True := eq_true hck
       have HCK := Lib.hid hck
       clear hck
       refine wp_region_U (fun W => Below wc.heap.size wc W) 24 (by kernel_rfl) (by go_grown) (fun hSS => ?_)
       refine anyU_take (i := 0) (v := ?_) rfl (by kernel_rfl) (by kernel_rfl) (by kernel_rfl) (by kernel_rfl) (fun _ _ _ h => h) (Or.inl ⟨by rfl, ?_⟩) hSS ?_
       rotate_left
       ·intro W hW
        have e3W := cell_keep hW e3; have x1W := cell_keep hW x1; have x2W := cell_keep hW x2
        go_simp
        try with_reducible rfl
       try simp only [Act.put, sI]
       refine anyU_take (i := 1) (v := ?_) rfl (by kernel_rfl) (by kernel_rfl) (by kernel_rfl) (by kernel_rfl) (fun _ _ _ h => h) (Or.inl ⟨by rfl, ?_⟩) hSS ?_
       rotate_left
       ·intro W hW
        have e3W := cell_keep hW e3; have x1W := cell_keep hW x1; have x2W := cell_keep hW x2
        go_simp
        try with_reducible rfl
       try simp only [Act.put, sI]
       refine anyU_take (i := 2) (v := ?_) rfl (by kernel_rfl) (by kernel_rfl) (by kernel_rfl) (by kernel_rfl) (fun _ _ _ h => h) (Or.inl ⟨by rfl, ?_⟩) hSS ?_
       rotate_left
       ·intro W hW
        have e3W := cell_keep hW e3; have x1W := cell_keep hW x1; have x2W := cell_keep hW x2
        go_simp
        try with_reducible rfl
       try simp only [Act.put, sI]
       refine anyU_take (i := 3) (v := ?_) rfl (by kernel_rfl) (by kernel_rfl) (by kernel_rfl) (by kernel_rfl) (fun _ _ _ h => h) (Or.inl ⟨by rfl, ?_⟩) hSS ?_
       rotate_left
       ·intro W hW
        have e3W := cell_keep hW e3; have x1W := cell_keep hW x1; have x2W := cell_keep hW x2
        go_simp
        try with_reducible rfl
       try simp only [Act.put, sI]
       refine anyU_take (i := 4) (v := ?_) rfl (by kernel_rfl) (by kernel_rfl) (by kernel_rfl) (by kernel_rfl) (fun _ _ _ h => h) (Or.inl ⟨by rfl, ?_⟩) hSS ?_
       rotate_left
       ·intro W hW
        have e3W := cell_keep hW e3; have x1W := cell_keep hW x1; have x2W := cell_keep hW x2
        go_simp
        try with_reducible rfl
       try simp only [Act.put, sI]
       refine anyU_take (i := 5) (v := ?_) rfl (by kernel_rfl) (by kernel_rfl) (by kernel_rfl) (by kernel_rfl) (fun _ _ _ h => h) (Or.inl ⟨by rfl, ?_⟩) hSS ?_
       rotate_left
       ·intro W hW
        have e3W := cell_keep hW e3; have x1W := cell_keep hW x1; have x2W := cell_keep hW x2
        go_simp
        try with_reducible rfl
       try simp only [Act.put, sI]
       refine anyU_take (i := 6) (v := ?_) rfl (by kernel_rfl) (by kernel_rfl) (by kernel_rfl) (by kernel_rfl) (fun _ _ _ h => h) (Or.inl ⟨by rfl, ?_⟩) hSS ?_
       rotate_left
       ·intro W hW
        have e3W := cell_keep hW e3; have x1W := cell_keep hW x1; have x2W := cell_keep hW x2
        go_simp
        try with_reducible rfl
       try simp only [Act.put, sI]
       refine anyU_take (i := 8) (v := ?_) rfl (by kernel_rfl) (by kernel_rfl) (by kernel_rfl) (by kernel_rfl) (fun _ _ _ h => h) (Or.inl ⟨by rfl, ?_⟩) hSS ?_
       rotate_left
       ·intro W hW
        have e3W := cell_keep hW e3; have x1W := cell_keep hW x1; have x2W := cell_keep hW x2
        go_simp
        try with_reducible rfl
       try simp only [Act.put, sI]
       refine anyU_take (i := 9) (v := ?_) rfl (by kernel_rfl) (by kernel_rfl) (by kernel_rfl) (by kernel_rfl) (fun _ _ _ h => h) (Or.inl ⟨by rfl, ?_⟩) hSS ?_
       rotate_left
       ·intro W hW
        have e3W := cell_keep hW e3; have x1W := cell_keep hW x1; have x2W := cell_keep hW x2
        go_simp
        try with_reducible rfl
       try simp only [Act.put, sI]
       refine anyU_take (i := 10) (v := ?_) rfl (by kernel_rfl) (by kernel_rfl) (by kernel_rfl) (by kernel_rfl) (fun _ _ _ h => h) (Or.inl ⟨by rfl, ?_⟩) hSS ?_
       rotate_left
       ·intro W hW
        have e3W := cell_keep hW e3; have x1W := cell_keep hW x1; have x2W := cell_keep hW x2
        go_simp
        try with_reducible rfl
       try simp only [Act.put, sI]
       refine anyU_take (i := 11) (v := ?_) rfl (by kernel_rfl) (by kernel_rfl) (by kernel_rfl) (by kernel_rfl) (fun _ _ _ h => h) (Or.inl ⟨by rfl, ?_⟩) hSS ?_
       rotate_left
       ·intro W hW
        have e3W := cell_keep hW e3; have x1W := cell_keep hW x1; have x2W := cell_keep hW x2
        go_simp
        try with_reducible rfl
       try simp only [Act.put, sI]
       refine anyU_take (i := 12) (v := ?_) rfl (by kernel_rfl) (by kernel_rfl) (by kernel_rfl) (by kernel_rfl) (fun _ _ _ h => h) (Or.inl ⟨by rfl, ?_⟩) hSS ?_
       rotate_left
       ·intro W hW
        have e3W := cell_keep hW e3; have x1W := cell_keep hW x1; have x2W := cell_keep hW x2
        go_simp
        try with_reducible rfl
       try simp only [Act.put, sI]
       refine anyU_take (i := 15) (v := ?_) rfl (by kernel_rfl) (by kernel_rfl) (by kernel_rfl) (by kernel_rfl) (fun _ _ _ h => h) (Or.inl ⟨by rfl, ?_⟩) hSS ?_
       rotate_left
       ·intro W hW
        have e3W := cell_keep hW e3; have x1W := cell_keep hW x1; have x2W := cell_keep hW x2
        go_simp
        try with_reducible rfl
       try simp only [Act.put, sI]
       refine anyU_take (i := 16) (v := ?_) rfl (by kernel_rfl) (by kernel_rfl) (by kernel_rfl) (by kernel_rfl) (fun _ _ _ h => h) (Or.inl ⟨by rfl, ?_⟩) hSS ?_
       rotate_left
       ·intro W hW
        have e3W := cell_keep hW e3; have x1W := cell_keep hW x1; have x2W := cell_keep hW x2
        go_simp
        try with_reducible rfl
       try simp only [Act.put, sI]
       refine anyU_take (i := 17) (v := ?_) rfl (by kernel_rfl) (by kernel_rfl) (by kernel_rfl) (by kernel_rfl) (fun _ _ _ h => h) (Or.inl ⟨by rfl, ?_⟩) hSS ?_
       rotate_left
       ·intro W hW
        have e3W := cell_keep hW e3; have x1W := cell_keep hW x1; have x2W := cell_keep hW x2
        go_simp
        try with_reducible rfl
       try simp only [Act.put, sI]
       refine anyU_take (i := 18) (v := ?_) rfl (by kernel_rfl) (by kernel_rfl) (by kernel_rfl) (by kernel_rfl) (fun _ _ _ h => h) (Or.inl ⟨by rfl, ?_⟩) hSS ?_
       rotate_left
       ·intro W hW
        have e3W := cell_keep hW e3; have x1W := cell_keep hW x1; have x2W := cell_keep hW x2
        go_simp
        try with_reducible rfl
       try simp only [Act.put, sI]
       refine anyU_take (i := 19) (v := ?_) rfl (by kernel_rfl) (by kernel_rfl) (by kernel_rfl) (by kernel_rfl) (fun _ _ _ h => h) (Or.inl ⟨by rfl, ?_⟩) hSS ?_
       rotate_left
       ·intro W hW
        have e3W := cell_keep hW e3; have x1W := cell_keep hW x1; have x2W := cell_keep hW x2
        go_simp
        try with_reducible rfl
       try simp only [Act.put, sI]
       refine anyU_take (i := 20) (v := ?_) rfl (by kernel_rfl) (by kernel_rfl) (by kernel_rfl) (by kernel_rfl) (fun _ _ _ h => h) (Or.inl ⟨by rfl, ?_⟩) hSS ?_
       rotate_left
       ·intro W hW
        have e3W := cell_keep hW e3; have x1W := cell_keep hW x1; have x2W := cell_keep hW x2
        go_simp
        try with_reducible rfl
       try simp only [Act.put, sI]
       refine anyU_two (i := 7) (k := 13) rfl rfl (by kernel_rfl) ?_ ?_
       ·intro K' hK
        refine step_append_own (w0 := wc) rfl (.const (.slice none 0 0)) (.tmp 76) 24 rfl 125 ti _ 2 24 Tryz.underlying24 hti hz hsz hby rfl (by decide) (.slice none 0 0) 0 [] rfl (World.ownsRow_nil _ _ _ _) ad k cap (flatL ((prC p.core.cells).take k)) rfl HLt.out (HCt.out _ (by go_grown)) (flatL_one _) (by unfold maxLen; omega) (by omega) (by go_grown) ?_
        intro v1 W1 ho1 hB1 hK1
        refine hK _ _ (fun _ => hB1) (fun hS => ?_)
        clear hK K' hS
        try simp only [Act.put, sI]
        refine anyU_one (i := 13) rfl (by kernel_rfl) ?_
        intro K' hK
        go_simp
        refine hK _ _ (fun _ => bt hB1 (by go_grown)) (fun hS => ?_)
        clear hK K' hS
        try simp only [Act.put, sI]
        refine anyU_one (i := 14) rfl (by kernel_rfl) ?_
        intro K' hK
        refine step_append_own (w0 := wc) rfl (.tmp 77) (.tmp 83) 24 rfl 125 ti _ 2 24 Tryz.underlying24 hti hz hsz hby rfl (by decide) _ _ _ rfl (owns_belowL ho1 (by go_grown)) _ 1 1 [.string x.key, .int .i64 x.val] rfl rfl (cells_newL) (by intro u hu; simp at hu; rcases hu with rfl | rfl <;> rfl) (by unfold maxLen; omega) (by omega) (bt hB1 (by go_grown)) ?_
        intro v2 W2 ho2 hB2 hK2
        refine hK _ _ (fun _ => hB2) (fun hS => ?_)
        clear hK K' hS
        try simp only [Act.put, sI]
        refine anyU_one (i := 21) rfl (by kernel_rfl) ?_
        intro K' hK
        refine step_append_own (w0 := wc) rfl (.tmp 84) (.tmp 90) 24 rfl 125 ti _ 2 24 Tryz.underlying24 hti hz hsz hby rfl (by decide) _ _ _ rfl ho2 ad (n - k) (cap - k) (flatL ((prC p.core.cells).drop k)) rfl HLd.out (HCe.out _) (flatL_one _) (by unfold maxLen; omega) (by omega) hB2 ?_
        intro v3 W3 ho3 hB3 hK3
        obtain ⟨a3, c3z, rfl⟩ := owns_slice ho3
        refine hK _ _ (fun _ => hB3) (fun hS => ?_)
        clear hK K' hS
        try simp only [Act.put, sI]
        have e33 := cell_keep hB3 e3; have f33 := HF.out W3 (bt HBx.out hB3)
        refine anyU_take (i := 22) (v := ?_) rfl (by kernel_rfl) (by kernel_rfl) (by kernel_rfl) (by kernel_rfl) (fun _ _ _ h => h) (Or.inl ⟨by rfl, ?_⟩) hB3 ?_
        rotate_left
        ·intro W hW
         have e3W := cell_keep hW e3
         go_simp
         try with_reducible rfl
        try simp only [Act.put, sI]
        refine anyU_take (i := 23) (v := ?_) rfl (by kernel_rfl) (by kernel_rfl) (by kernel_rfl) (by kernel_rfl) (fun _ _ _ h => h) (Or.inl ⟨by rfl, ?_⟩) hB3 ?_
        rotate_left
        ·intro W hW
         have e3W := cell_keep hW e3
         go_simp
         try with_reducible rfl
        try simp only [Act.put, sI]
        refine anyU_one (i := 24) rfl (by kernel_rfl) ?_
        intro K' hK
        go_simp
        refine hK _ _ (fun h => absurd rfl h) (fun _ => ?_)
        clear hK K'
        refine anyU_done (by kernel_rfl) ?_ _
        go_wp2_with fail
        go_meet
        case rel => exact ⟨leaf_insert HSx.out HX.out HN.out HK2.out HIS.out hB3 ho3 (by omega) (by simp) HRx.out hkr, by unfold onCore keepD; rw [if_neg HOFF.out, if_neg HG.out, if_neg (fun h => by have h1 := h.2; have h2 := HN.out; omega)]⟩
       ·intro K' hK
        go_simp
        refine hK _ _ (fun _ => by go_grown) (fun hS => ?_)
        clear hK K' hS
        try simp only [Act.put, sI]
        refine anyU_one (i := 7) rfl (by kernel_rfl) ?_
        intro K' hK
        refine step_append_own (w0 := wc) rfl (.const (.slice none 0 0)) (.tmp 76) 24 rfl 125 ti _ 2 24 Tryz.underlying24 hti hz hsz hby rfl (by decide) (.slice none 0 0) 0 [] rfl (World.ownsRow_nil _ _ _ _) ad k cap (flatL ((prC p.core.cells).take k)) rfl HLt.out (HCt.out _ (by go_grown)) (flatL_one _) (by unfold maxLen; omega) (by omega) (by go_grown) ?_
        intro v1 W1 ho1 hB1 hK1
        refine hK _ _ (fun _ => hB1) (fun hS => ?_)
        clear hK K' hS
        try simp only [Act.put, sI]
        refine anyU_one (i := 14) rfl (by kernel_rfl) ?_
        intro K' hK
        refine step_append_own (w0 := wc) rfl (.tmp 77) (.tmp 83) 24 rfl 125 ti _ 2 24 Tryz.underlying24 hti hz hsz hby rfl (by decide) _ _ _ rfl (ho1) _ 1 1 [.string x.key, .int .i64 x.val] rfl rfl (fun j u hj => cell_keep (hK1 rfl) (cells_newL j u hj)) (by intro u hu; simp at hu; rcases hu with rfl | rfl <;> rfl) (by unfold maxLen; omega) (by omega) (hB1) ?_
        intro v2 W2 ho2 hB2 hK2
        refine hK _ _ (fun _ => hB2) (fun hS => ?_)
        clear hK K' hS
        try simp only [Act.put, sI]
        refine anyU_one (i := 21) rfl (by kernel_rfl) ?_
        intro K' hK
        refine step_append_own (w0 := wc) rfl (.tmp 84) (.tmp 90) 24 rfl 125 ti _ 2 24 Tryz.underlying24 hti hz hsz hby rfl (by decide) _ _ _ rfl ho2 ad (n - k) (cap - k) (flatL ((prC p.core.cells).drop k)) rfl HLd.out (HCe.out _) (flatL_one _) (by unfold maxLen; omega) (by omega) hB2 ?_
        intro v3 W3 ho3 hB3 hK3
        obtain ⟨a3, c3z, rfl⟩ := owns_slice ho3
        refine hK _ _ (fun _ => hB3) (fun hS => ?_)
        clear hK K' hS
        try simp only [Act.put, sI]
        have e33 := cell_keep hB3 e3; have f33 := HF.out W3 (bt HBx.out hB3)
        refine anyU_take (i := 22) (v := ?_) rfl (by kernel_rfl) (by kernel_rfl) (by kernel_rfl) (by kernel_rfl) (fun _ _ _ h => h) (Or.inl ⟨by rfl, ?_⟩) hB3 ?_
        rotate_left
        ·intro W hW
         have e3W := cell_keep hW e3
         go_simp
         try with_reducible rfl
        try simp only [Act.put, sI]
        refine anyU_take (i := 23) (v := ?_) rfl (by kernel_rfl) (by kernel_rfl) (by kernel_rfl) (by kernel_rfl) (fun _ _ _ h => h) (Or.inl ⟨by rfl, ?_⟩) hB3 ?_
        rotate_left
        ·intro W hW
         have e3W := cell_keep hW e3
         go_simp
         try with_reducible rfl
        try simp only [Act.put, sI]
        refine anyU_one (i := 24) rfl (by kernel_rfl) ?_
        intro K' hK
        go_simp
        refine hK _ _ (fun h => absurd rfl h) (fun _ => ?_)
        clear hK K'
        refine anyU_done (by kernel_rfl) ?_ _
        go_wp2_with fail
        go_meet
        case rel => exact ⟨leaf_insert HSx.out HX.out HN.out HK2.out HIS.out hB3 ho3 (by omega) (by simp) HRx.out hkr, by unfold onCore keepD; rw [if_neg HOFF.out, if_neg HG.out, if_neg (fun h => by have h1 := h.2; have h2 := HN.out; omega)]⟩
      ·have hckF : (cap = k) = False := eq_false hck
       refine wp_region_U (fun W => Below wc.heap.size wc W) 24 (by kernel_rfl) (by go_grown) (fun hSS => ?_)
       refine anyU_take (i := 0) (v := ?_) rfl (by kernel_rfl) (by kernel_rfl) (by kernel_rfl) (by kernel_rfl) (fun _ _ _ h => h) (Or.inl ⟨by rfl, ?_⟩) hSS ?_
       rotate_left
       ·intro W hW
        have e3W := cell_keep hW e3; have x1W := cell_keep hW x1; have x2W := cell_keep hW x2
        go_simp
        try with_reducible rfl
       try simp only [Act.put, sI]
       refine anyU_take (i := 1) (v := ?_) rfl (by kernel_rfl) (by kernel_rfl) (by kernel_rfl) (by kernel_rfl) (fun _ _ _ h => h) (Or.inl ⟨by rfl, ?_⟩) hSS ?_
       rotate_left
       ·intro W hW
        have e3W := cell_keep hW e3; have x1W := cell_keep hW x1; have x2W := cell_keep hW x2
        go_simp
        try with_reducible rfl
       try simp only [Act.put, sI]
       refine anyU_take (i := 2) (v := ?_) rfl (by kernel_rfl) (by kernel_rfl) (by kernel_rfl) (by kernel_rfl) (fun _ _ _ h => h) (Or.inl ⟨by rfl, ?_⟩) hSS ?_
       rotate_left
       ·intro W hW
        have e3W := cell_keep hW e3; have x1W := cell_keep hW x1; have x2W := cell_keep hW x2
        go_simp
        try with_reducible rfl
       try simp only [Act.put, sI]
       refine anyU_take (i := 3) (v := ?_) rfl (by kernel_rfl) (by kernel_rfl) (by kernel_rfl) (by kernel_rfl) (fun _ _ _ h => h) (Or.inl ⟨by rfl, ?_⟩) hSS ?_
       rotate_left
       ·intro W hW
        have e3W := cell_keep hW e3; have x1W := cell_keep hW x1; have x2W := cell_keep hW x2
        go_simp
        try with_reducible rfl
       try simp only [Act.put, sI]
       refine anyU_take (i := 4) (v := ?_) rfl (by kernel_rfl) (by kernel_rfl) (by kernel_rfl) (by kernel_rfl) (fun _ _ _ h => h) (Or.inl ⟨by rfl, ?_⟩) hSS ?_
       rotate_left
       ·intro W hW
        have e3W := cell_keep hW e3; have x1W := cell_keep hW x1; have x2W := cell_keep hW x2
        go_simp
        try with_reducible rfl
       try simp only [Act.put, sI]
       refine anyU_take (i := 5) (v := ?_) rfl (by kernel_rfl) (by kernel_rfl) (by kernel_rfl) (by kernel_rfl) (fun _ _ _ h => h) (Or.inl ⟨by rfl, ?_⟩) hSS ?_
       rotate_left
       ·intro W hW
        have e3W := cell_keep hW e3; have x1W := cell_keep hW x1; have x2W := cell_keep hW x2
        go_simp
        try with_reducible rfl
       try simp only [Act.put, sI]
       refine anyU_take (i := 6) (v := ?_) rfl (by kernel_rfl) (by kernel_rfl) (by kernel_rfl) (by kernel_rfl) (fun _ _ _ h => h) (Or.inl ⟨by rfl, ?_⟩) hSS ?_
       rotate_left
       ·intro W hW
        have e3W := cell_keep hW e3; have x1W := cell_keep hW x1; have x2W := cell_keep hW x2
        go_simp
        try with_reducible rfl
       try simp only [Act.put, sI]
       refine anyU_take (i := 8) (v := ?_) rfl (by kernel_rfl) (by kernel_rfl) (by kernel_rfl) (by kernel_rfl) (fun _ _ _ h => h) (Or.inl ⟨by rfl, ?_⟩) hSS ?_
       rotate_left
       ·intro W hW
        have e3W := cell_keep hW e3; have x1W := cell_keep hW x1; have x2W := cell_keep hW x2
        go_simp
        try with_reducible rfl
       try simp only [Act.put, sI]
       refine anyU_take (i := 9) (v := ?_) rfl (by kernel_rfl) (by kernel_rfl) (by kernel_rfl) (by kernel_rfl) (fun _ _ _ h => h) (Or.inl ⟨by rfl, ?_⟩) hSS ?_
       rotate_left
       ·intro W hW
        have e3W := cell_keep hW e3; have x1W := cell_keep hW x1; have x2W := cell_keep hW x2
        go_simp
        try with_reducible rfl
       try simp only [Act.put, sI]
       refine anyU_take (i := 10) (v := ?_) rfl (by kernel_rfl) (by kernel_rfl) (by kernel_rfl) (by kernel_rfl) (fun _ _ _ h => h) (Or.inl ⟨by rfl, ?_⟩) hSS ?_
       rotate_left
       ·intro W hW
        have e3W := cell_keep hW e3; have x1W := cell_keep hW x1; have x2W := cell_keep hW x2
        go_simp
        try with_reducible rfl
       try simp only [Act.put, sI]
       refine anyU_take (i := 11) (v := ?_) rfl (by kernel_rfl) (by kernel_rfl) (by kernel_rfl) (by kernel_rfl) (fun _ _ _ h => h) (Or.inl ⟨by rfl, ?_⟩) hSS ?_
       rotate_left
       ·intro W hW
        have e3W := cell_keep hW e3; have x1W := cell_keep hW x1; have x2W := cell_keep hW x2
        go_simp
        try with_reducible rfl
       try simp only [Act.put, sI]
       refine anyU_take (i := 12) (v := ?_) rfl (by kernel_rfl) (by kernel_rfl) (by kernel_rfl) (by kernel_rfl) (fun _ _ _ h => h) (Or.inl ⟨by rfl, ?_⟩) hSS ?_
       rotate_left
       ·intro W hW
        have e3W := cell_keep hW e3; have x1W := cell_keep hW x1; have x2W := cell_keep hW x2
        go_simp
        try with_reducible rfl
       try simp only [Act.put, sI]
       refine anyU_take (i := 15) (v := ?_) rfl (by kernel_rfl) (by kernel_rfl) (by kernel_rfl) (by kernel_rfl) (fun _ _ _ h => h) (Or.inl ⟨by rfl, ?_⟩) hSS ?_
       rotate_left
       ·intro W hW
        have e3W := cell_keep hW e3; have x1W := cell_keep hW x1; have x2W := cell_keep hW x2
        go_simp
        try with_reducible rfl
       try simp only [Act.put, sI]
       refine anyU_take (i := 16) (v := ?_) rfl (by kernel_rfl) (by kernel_rfl) (by kernel_rfl) (by kernel_rfl) (fun _ _ _ h => h) (Or.inl ⟨by rfl, ?_⟩) hSS ?_
       rotate_left
       ·intro W hW
        have e3W := cell_keep hW e3; have x1W := cell_keep hW x1; have x2W := cell_keep hW x2
        go_simp
        try with_reducible rfl
       try simp only [Act.put, sI]
       refine anyU_take (i := 17) (v := ?_) rfl (by kernel_rfl) (by kernel_rfl) (by kernel_rfl) (by kernel_rfl) (fun _ _ _ h => h) (Or.inl ⟨by rfl, ?_⟩) hSS ?_
       rotate_left
       ·intro W hW
        have e3W := cell_keep hW e3; have x1W := cell_keep hW x1; have x2W := cell_keep hW x2
        go_simp
        try with_reducible rfl
       try simp only [Act.put, sI]
       refine anyU_take (i := 18) (v := ?_) rfl (by kernel_rfl) (by kernel_rfl) (by kernel_rfl) (by kernel_rfl) (fun _ _ _ h => h) (Or.inl ⟨by rfl, ?_⟩) hSS ?_
       rotate_left
       ·intro W hW
        have e3W := cell_keep hW e3; have x1W := cell_keep hW x1; have x2W := cell_keep hW x2
        go_simp
        try with_reducible rfl
       try simp only [Act.put, sI]
       refine anyU_take (i := 19) (v := ?_) rfl (by kernel_rfl) (by kernel_rfl) (by kernel_rfl) (by kernel_rfl) (fun _ _ _ h => h) (Or.inl ⟨by rfl, ?_⟩) hSS ?_
       rotate_left
       ·intro W hW
        have e3W := cell_keep hW e3; have x1W := cell_keep hW x1; have x2W := cell_keep hW x2
        go_simp
        try with_reducible rfl
       try simp only [Act.put, sI]
       refine anyU_take (i := 20) (v := ?_) rfl (by kernel_rfl) (by kernel_rfl) (by kernel_rfl) (by kernel_rfl) (fun _ _ _ h => h) (Or.inl ⟨by rfl, ?_⟩) hSS ?_
       rotate_left
       ·intro W hW
        have e3W := cell_keep hW e3; have x1W := cell_keep hW x1; have x2W := cell_keep hW x2
        go_simp
        try with_reducible rfl
       try simp only [Act.put, sI]
       refine anyU_two (i := 7) (k := 13) rfl rfl (by kernel_rfl) ?_ ?_
       ·intro K' hK
        refine step_append_own (w0 := wc) rfl (.const (.slice none 0 0)) (.tmp 76) 24 rfl 125 ti _ 2 24 Tryz.underlying24 hti hz hsz hby rfl (by decide) (.slice none 0 0) 0 [] rfl (World.ownsRow_nil _ _ _ _) ad k cap (flatL ((prC p.core.cells).take k)) rfl HLt.out (HCt.out _ (by go_grown)) (flatL_one _) (by unfold maxLen; omega) (by omega) (by go_grown) ?_
        intro v1 W1 ho1 hB1 hK1
        refine hK _ _ (fun _ => hB1) (fun hS => ?_)
        clear hK K' hS
        try simp only [Act.put, sI]
        refine anyU_one (i := 13) rfl (by kernel_rfl) ?_
        intro K' hK
        go_simp
        refine hK _ _ (fun _ => bt hB1 (by go_grown)) (fun hS => ?_)
        clear hK K' hS
        try simp only [Act.put, sI]
        refine anyU_one (i := 14) rfl (by kernel_rfl) ?_
        intro K' hK
        refine step_append_own (w0 := wc) rfl (.tmp 77) (.tmp 83) 24 rfl 125 ti _ 2 24 Tryz.underlying24 hti hz hsz hby rfl (by decide) _ _ _ rfl (owns_belowL ho1 (by go_grown)) _ 1 1 [.string x.key, .int .i64 x.val] rfl rfl (cells_newL) (by intro u hu; simp at hu; rcases hu with rfl | rfl <;> rfl) (by unfold maxLen; omega) (by omega) (bt hB1 (by go_grown)) ?_
        intro v2 W2 ho2 hB2 hK2
        refine hK _ _ (fun _ => hB2) (fun hS => ?_)
        clear hK K' hS
        try simp only [Act.put, sI]
        refine anyU_one (i := 21) rfl (by kernel_rfl) ?_
        intro K' hK
        refine step_append_own (w0 := wc) rfl (.tmp 84) (.tmp 90) 24 rfl 125 ti _ 2 24 Tryz.underlying24 hti hz hsz hby rfl (by decide) _ _ _ rfl ho2 (ad.add (k * 2)) (n - k) (cap - k) (flatL ((prC p.core.cells).drop k)) rfl HLd.out (HCd.out _ hB2) (flatL_one _) (by unfold maxLen; omega) (by omega) hB2 ?_
        intro v3 W3 ho3 hB3 hK3
        obtain ⟨a3, c3z, rfl⟩ := owns_slice ho3
        refine hK _ _ (fun _ => hB3) (fun hS => ?_)
        clear hK K' hS
        try simp only [Act.put, sI]
        have e33 := cell_keep hB3 e3; have f33 := HF.out W3 (bt HBx.out hB3)
        refine anyU_take (i := 22) (v := ?_) rfl (by kernel_rfl) (by kernel_rfl) (by kernel_rfl) (by kernel_rfl) (fun _ _ _ h => h) (Or.inl ⟨by rfl, ?_⟩) hB3 ?_
        rotate_left
        ·intro W hW
         have e3W := cell_keep hW e3
         go_simp
         try with_reducible rfl
        try simp only [Act.put, sI]
        refine anyU_take (i := 23) (v := ?_) rfl (by kernel_rfl) (by kernel_rfl) (by kernel_rfl) (by kernel_rfl) (fun _ _ _ h => h) (Or.inl ⟨by rfl, ?_⟩) hB3 ?_
        rotate_left
        ·intro W hW
         have e3W := cell_keep hW e3
         go_simp
         try with_reducible rfl
        try simp only [Act.put, sI]
        refine anyU_one (i := 24) rfl (by kernel_rfl) ?_
        intro K' hK
        go_simp
        refine hK _ _ (fun h => absurd rfl h) (fun _ => ?_)
        clear hK K'
        refine anyU_done (by kernel_rfl) ?_ _
        go_wp2_with fail
        go_meet
        case rel => exact ⟨leaf_insert HSx.out HX.out HN.out HK2.out HIS.out hB3 ho3 (by omega) (by simp) HRx.out hkr, by unfold onCore keepD; rw [if_neg HOFF.out, if_neg HG.out, if_neg (fun h => by have h1 := h.2; have h2 := HN.out; omega)]⟩
       ·intro K' hK
        go_simp
        refine hK _ _ (fun _ => by go_grown) (fun hS => ?_)
        clear hK K' hS
        try simp only [Act.put, sI]
        refine anyU_one (i := 7) rfl (by kernel_rfl) ?_
        intro K' hK
        refine step_append_own (w0 := wc) rfl (.const (.slice none 0 0)) (.tmp 76) 24 rfl 125 ti _ 2 24 Tryz.underlying24 hti hz hsz hby rfl (by decide) (.slice none 0 0) 0 [] rfl (World.ownsRow_nil _ _ _ _) ad k cap (flatL ((prC p.core.cells).take k)) rfl HLt.out (HCt.out _ (by go_grown)) (flatL_one _) (by unfold maxLen; omega) (by omega) (by go_grown) ?_
        intro v1 W1 ho1 hB1 hK1
        refine hK _ _ (fun _ => hB1) (fun hS => ?_)
        clear hK K' hS
        try simp only [Act.put, sI]
        refine anyU_one (i := 14) rfl (by kernel_rfl) ?_
        intro K' hK
        refine step_append_own (w0 := wc) rfl (.tmp 77) (.tmp 83) 24 rfl 125 ti _ 2 24 Tryz.underlying24 hti hz hsz hby rfl (by decide) _ _ _ rfl (ho1) _ 1 1 [.string x.key, .int .i64 x.val] rfl rfl (fun j u hj => cell_keep (hK1 rfl) (cells_newL j u hj)) (by intro u hu; simp at hu; rcases hu with rfl | rfl <;> rfl) (by unfold maxLen; omega) (by omega) (hB1) ?_
        intro v2 W2 ho2 hB2 hK2
        refine hK _ _ (fun _ => hB2) (fun hS => ?_)
        clear hK K' hS
        try simp only [Act.put, sI]
        refine anyU_one (i := 21) rfl (by kernel_rfl) ?_
        intro K' hK
        refine step_append_own (w0 := wc) rfl (.tmp 84) (.tmp 90) 24 rfl 125 ti _ 2 24 Tryz.underlying24 hti hz hsz hby rfl (by decide) _ _ _ rfl ho2 (ad.add (k * 2)) (n - k) (cap - k) (flatL ((prC p.core.cells).drop k)) rfl HLd.out (HCd.out _ hB2) (flatL_one _) (by unfold maxLen; omega) (by omega) hB2 ?_
        intro v3 W3 ho3 hB3 hK3
        obtain ⟨a3, c3z, rfl⟩ := owns_slice ho3
        refine hK _ _ (fun _ => hB3) (fun hS => ?_)
        clear hK K' hS
        try simp only [Act.put, sI]
        have e33 := cell_keep hB3 e3; have f33 := HF.out W3 (bt HBx.out hB3)
        refine anyU_take (i := 22) (v := ?_) rfl (by kernel_rfl) (by kernel_rfl) (by kernel_rfl) (by kernel_rfl) (fun _ _ _ h => h) (Or.inl ⟨by rfl, ?_⟩) hB3 ?_
        rotate_left
        ·intro W hW
         have e3W := cell_keep hW e3
         go_simp
         try with_reducible rfl
        try simp only [Act.put, sI]
        refine anyU_take (i := 23) (v := ?_) rfl (by kernel_rfl) (by kernel_rfl) (by kernel_rfl) (by kernel_rfl) (fun _ _ _ h => h) (Or.inl ⟨by rfl, ?_⟩) hB3 ?_
        rotate_left
        ·intro W hW
         have e3W := cell_keep hW e3
         go_simp
         try with_reducible rfl
        try simp only [Act.put, sI]
        refine anyU_one (i := 24) rfl (by kernel_rfl) ?_
        intro K' hK
        go_simp
        refine hK _ _ (fun h => absurd rfl h) (fun _ => ?_)
        clear hK K'
        refine anyU_done (by kernel_rfl) ?_ _
        go_wp2_with fail
        go_meet
        case rel => exact ⟨leaf_insert HSx.out HX.out HN.out HK2.out HIS.out hB3 ho3 (by omega) (by simp) HRx.out hkr, by unfold onCore keepD; rw [if_neg HOFF.out, if_neg HG.out, if_neg (fun h => by have h1 := h.2; have h2 := HN.out; omega)]⟩
 case rest =>
 obtain ⟨⟨K', hSy, hky, hRy⟩, hbad⟩ := hcut
 have HBAD := Lib.hid hbad
 clear hbad
 have hct := H.out.ct
 have HCU := Lib.hid (w_countUp hSy.pb p.core.count hct)
 obtain ⟨-, -, -, -, -, -, -, -, -, -, -, -, c4y, -, -, -, -⟩ := hSy.pb.cells
 have HSy := Lib.hid hSy
 have HRy := Lib.hid hRy
 clear hSy hRy hct e1 e3 e4 x0 x1 x2 d0 d1 d3 d4 c0 c1 c2 c3 c4 c5
 go_wp2_with fail
 refine HCU.out.mono ?_
 rintro e w5 ⟨rfl, hb5, hr5⟩
 have HS5 := Lib.hid (HSy.out.below hb5)
 have HR5 := Lib.hid (HRy.out.below hb5 HRy.out.lt)
 have P6 := HS5.out.pb.setCount (up3 p.core.count) hr5
 have HS6 := Lib.hid (HS5.out.put HS5.out.pb.kg P6)
 obtain ⟨-, -, -, -, -, -, -, -, -, -, -, -, c4z, -, hfz, -, -⟩ := HS5.out.pb.cells
 obtain ⟨S1u, au, nu, cpu, rfl, hnu, -, -, -, -, -, c3u, c4u, -, -, -, -⟩ := P6.cells
 simp only at hnu
 have hkg : w.heap.size + 1 ≠ g := fun e => hky (by rw [e]; exact HS5.out.pb.kg)
 have HR6 := Lib.hid (HR5.out.far (p := ⟨g, 4, none⟩) hkg (.int .i64 (up3 p.core.count)))
 have HNU := Lib.hid hnu
 clear P6 hnu hb5 hkg
 have hRE := HR6.out; obtain ⟨rz0, rz1, rz2, rz3, rz4, rzf⟩ := rzs (w := (w5.setCell ⟨g, 4, none⟩ (.int .i64 (up3 p.core.count)))) (b := w.heap.size + 1) hRE
 go_wp2
 obtain ⟨q1, q2⟩ := done_reply HS6.out H.out HR6.out (by omega) hky (rep 0 (putC p.core.cells x.key x.val).length 0 0)
 rw [HBAD.out]
 rw [← HNU.out] at q1 q2 ⊢
 refine bodyPost_ret (results_blk rfl _ _ _ rfl q1 Tryz.underlying34 rfl (by kernel_rfl)) rfl q2
end Go.Proofs.YtbgcaneflfdddaaGreatDoor
