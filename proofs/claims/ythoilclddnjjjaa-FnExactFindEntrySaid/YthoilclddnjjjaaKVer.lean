/- The laws' own sizes, copies, comparisons of one type. Written by gen.py. -/
import Derived.Test.YthoilclddnjjjaaData
import Derived.Test.YthoilclddnjjjaaQuiet
import Derived.Test.YthoilclddnjjjaaRow
import Derived.OwnWalk
import Derived.Test.YthoilclddnjjjaaVer
namespace Go.Proofs.Ythoilclddnjjjaa
open Go.RowKit
set_option maxRecDepth 100000
set_option linter.unusedVariables false
set_option linter.unusedSimpArgs false

theorem szTo_Ver (l : List Ver) (k : Nat) : szTo l k = 0 := by
  induction k with
  | zero => rfl
  | succ k ih => simp only [szTo, ih, sz_Ver, sz_int, sz_bool]
theorem sz_VerS_c (a : Option Addr) (len cap : Nat) (l : List Ver) (n : Int) (h0 : 0 ≤ n) (hn : n ≤ 1048576) (w : World) (hl : Sl w (· < w.heap.size) a len cap l) :
    Calls Try.prog 49 #[.slice a len cap, .int .i64 n] w fun e w' => e = .returned (.int .i64 (szF n (sz l))) ∧ Below w.heap.size w w' := by
  have hm := hl.2.1
  have hm' := hl.2.2.1
  unfold maxLen at hm'
  have hz : sz l = len := by rw [sz_list, szTo_Ver, hl.len_eq]; rfl
  rw [hz]
  clear hz
  by_cases h : n - (len : Int) < 0
  · rw [szF_neg h]
    go_enter Try.func49, Try.ntmps49
    go_wp2
    go_ret
    exact ⟨rfl, by go_grown⟩
  · rw [szF_pos h]
    go_enter Try.func49, Try.ntmps49
    go_wp2
    go_ret
    exact ⟨rfl, by go_grown⟩
theorem to_Ver_c (x : Ver) (cs : List Value) (w : World) (h : Rep.rd w (· < w.heap.size) cs x) (hsm : sz x ≤ 1048576) :
    Calls Try.prog 13 #[.agg cs.toArray] w fun e w' => ∃ cs', e = .returned (.agg cs'.toArray) ∧ Rep.rd w' (Fr w.heap.size w') cs' x ∧ Below w.heap.size w w' := by
  obtain ⟨rfl, f0, f1⟩ := h
  exact (laws_toVersion _ _ w).mono fun e w' ⟨h1, h2⟩ => ⟨_, h1, ⟨rfl, f0, f1⟩, h2⟩
theorem to_VerS_c (a : Option Addr) (len cap : Nat) (l : List Ver) (w : World) (hl : Sl w (· < w.heap.size) a len cap l) (hsm : sz l ≤ 1048576) :
    Calls Try.prog 53 #[.slice a len cap] w fun e w' => ∃ g, e = .returned (.slice (some ⟨g, 0, none⟩) len len) ∧ Sl w' (Fr w.heap.size w') (some ⟨g, 0, none⟩) len len l ∧ Below w.heap.size w w' := by
  have HL := Lib.hid hl.len_eq
  have hlen : len ≤ 1048576 := by rw [hl.len_eq]; exact sz_len hsm
  have HSM := Lib.hid (fun k (hk : k < len) => sz_at hsm (show k < l.length by rw [← HL.out]; exact hk))
  clear hsm
  have hmk := fun W => run_make_at (P := Try.prog) 33 25 (z := .agg #[.int .i64 0, .int .i64 0]) (size := 2) (bytes := 16) Try.underlying33 (by kernel_rfl) .i64 .i64 len (by omega) (by omega) W
  go_enter Try.func53, Try.ntmps53
  go_wp2
  go_loopw [4] (fun i wr => Below w.heap.size w wr ∧ ∃ k : Nat, k ≤ len ∧ i = .int .i64 k ∧ RowTo wr w.heap.size 25 len k l (w.heap.size + 1)) (fun i _ => len - (intOf i).toNat)
  case atStart => exact ⟨by go_grown, 0, by omega, rfl, RowTo.new (Blk.new _ _ _) (by rw [size_madeCells]; first | rfl | exact (Nat.mul_one _).symm)⟩
  case round =>
    obtain ⟨hB, k, hk, rfl, hR⟩ := hrel
    have hBs := hB.size
    have hgl := hR.lt
    by_cases hlt : k < len
    · obtain ⟨b, o, rfl, hb, hbs, hc0, hc1, hr⟩ := hl.rVer hlt
      have he0 := keep_cell hB hc0; have he1 := keep_cell hB hc1
      have hi0 : (0 : Int) ≤ (k : Int) := by omega
      have hi1 : (k : Int) < (len : Int) := by omega
      have HX := Lib.hid (fun (w0 : World) (hb : Below wr.heap.size wr w0) => rd_up (rd_up hr hB) hb)
      have hsk := HSM.out k hlt
      go_wp2_with (go_at_call 13; refine (to_Ver_c (nth l k) _ _ (HX.out _ (by go_grown)) hsk).mono ?_; rintro e w1 ⟨cs1, rfl, hr1, hb1⟩; have hr2 := hr1; obtain ⟨rfl, v0_1, v1_1⟩ := hr1; have hR1 := hR.keep hb1; obtain ⟨y0, hy0⟩ := hR1.there (i := k) (j := 0) hlt (by decide); obtain ⟨y1, hy1⟩ := hR1.there (i := k) (j := 1) hlt (by decide); have hy0' : w1.cell? ⟨w.heap.size, k * 2, none⟩ = some y0 := hy0; have hfr0 := hR1.free (k * 2); have hy1' : w1.cell? ⟨w.heap.size, k * 2 + 1, none⟩ = some y1 := hy1; have hfr1 := hR1.free (k * 2 + 1))
      have hx : RowTo (setN w1 w.heap.size (k * 2) [.int .i64 (nth l k).maj, .int .i64 (nth l k).min]) w.heap.size 25 len (k + 1) l (w.heap.size + 1) := hR1.step hlt (Rep.wide hr2 fun b hb => ⟨(by have := hb.1; omega), (by have := hb.1; omega), hb.2⟩)
      exact ⟨⟨by have h2 := bt hB hb1; go_grown, k + 1, by omega, by go_num, hx⟩, by simp [intOf]; omega⟩
    · go_wp2
      go_ret
      obtain rfl : k = len := by omega
      exact ⟨_, rfl, hR.done HL.out (by omega) (by unfold maxLen; omega), hB⟩
theorem eq_Ver_c (x y : Ver) (cs cs' : List Value) (w : World) (h : Rep.rd w (· < w.heap.size) cs x) (h' : Rep.rd w (· < w.heap.size) cs' y) :
    Calls Try.prog 69 #[.agg cs.toArray, .agg cs'.toArray] w fun e w' => e = .returned (.bool (eqB x y)) ∧ Below w.heap.size w w' := by
  obtain ⟨rfl, f0, f1⟩ := h
  obtain ⟨rfl, f0', f1'⟩ := h'
  have h := laws_eqVersion x.maj x.min y.maj y.min w
  rwa [show decide (x.maj = y.maj ∧ x.min = y.min) = eqB x y by cases x; cases y; simp [eqB]] at h
theorem eq_VerS_c (a a' : Option Addr) (len cap len' cap' : Nat) (l l' : List Ver) (w : World) (hl : Sl w (· < w.heap.size) a len cap l) (hl' : Sl w (· < w.heap.size) a' len' cap' l') :
    Calls Try.prog 54 #[.slice a len cap, .slice a' len' cap'] w fun e w' => e = .returned (.bool (eqB l l')) ∧ Below w.heap.size w w' := by
  by_cases hne : len = len'
  · subst hne
    have HL := Lib.hid hl.len_eq
    have HL' := Lib.hid hl'.len_eq
    have hm := hl.2.1
    have hm' := hl.2.2.1
    unfold maxLen at hm'
    go_enter Try.func54, Try.ntmps54
    go_wp2
    go_loopw [5] (fun i wr => Below w.heap.size w wr ∧ ∃ k : Nat, k ≤ len ∧ i = .int .i64 k ∧ ∀ i, i < k → nth l i = nth l' i) (fun i _ => len - (intOf i).toNat)
    case atStart => exact ⟨Below.refl _ _, 0, by omega, rfl, fun i h => absurd h (by omega)⟩
    case round =>
      obtain ⟨hB, k, hk, rfl, hv⟩ := hrel
      have HV := Lib.hid hv
      clear hv
      have hBs := hB.size
      by_cases hlt : k < len
      · obtain ⟨b, o, rfl, hb, hbs, hc0, hc1, hr⟩ := hl.rVer hlt
        obtain ⟨b', o', rfl, hb', hbs', hd0, hd1, hr2⟩ := hl'.rVer hlt
        have hi0 : (0 : Int) ≤ (k : Int) := by omega
        have hi1 : (k : Int) < (len : Int) := by omega
        have HX := Lib.hid (fun (w0 : World) (hb : Below w.heap.size w w0) => rd_up hr hb)
        have HY := Lib.hid (fun (w0 : World) (hb : Below w.heap.size w w0) => rd_up hr2 hb)
        by_cases hq : eqB (nth l k) (nth l' k) = true
        · have HR := Lib.hid (show ∀ i, i < k + 1 → nth l i = nth l' i from fun i hi => by
            by_cases e : i = k
            · subst e; exact eqB_true hq
            · exact HV.out i (by omega))
          go_wp2_with fail
          refine region_quiet (C := Cls w [((⟨b, o + k * 2, none⟩ : Addr), .int .i64 (nth l k).maj), ((⟨b, o + k * 2 + 1, none⟩ : Addr), .int .i64 (nth l k).min), (⟨b', o' + k * 2, none⟩, .int .i64 (nth l' k).maj), (⟨b', o' + k * 2 + 1, none⟩, .int .i64 (nth l' k).min)]) (by kernel_rfl) (by kernel_rfl) (Cls.start hB ⟨keep_cell hB hc0, keep_cell hB hc1, keep_cell hB hd0, keep_cell hB hd1, trivial⟩) ?_; (repeat (first | go_big_quiet_skip | (go_big_quiet_want; first | (refine BigFrame.quiet_move _ rfl ?_; (try simp only [Act.put]); (try simp only [Act.eval]); (try simp only [Array.getD_eq_getD_getElem?]); (try simp only [List.getElem?_toArray]); (try simp only [List.getElem?_cons_succ]); (try simp only [List.getElem?_cons_zero]); (try simp only [Option.getD_some]); (try simp only [List.setIfInBounds_toArray]); (try simp only [List.set_cons_succ]); (try simp only [List.set_cons_zero]); go_big_quiet_on) | (refine BigFrame.quiet_assign _ rfl ?_; (try simp only [Act.put]); (try simp only [Act.eval]); (try simp only [Array.getD_eq_getD_getElem?]); (try simp only [List.getElem?_toArray]); (try simp only [List.getElem?_cons_succ]); (try simp only [List.getElem?_cons_zero]); (try simp only [Option.getD_some]); (try simp only [List.setIfInBounds_toArray]); (try simp only [List.set_cons_succ]); (try simp only [List.set_cons_zero]); go_big_quiet_on) | (apply quiet_run; (focus (intro w' hC; simp only [Cls, HoldC] at hC; go_split_ands; go_simp; (try exact rfl); done)); (try simp only [Act.put]); (try simp only [List.setIfInBounds_toArray]); (try simp only [List.set_cons_succ]); (try simp only [List.set_cons_zero]); go_big_quiet_on) | (apply quiet_call; (focus (intro w' _; go_simp; first | exact ⟨rfl, rfl⟩ | exact rfl | done)); (focus (intro w' hC; first | exact cls_call hC (eq_Ver_c (nth l k) (nth l' k) _ _ _ (HX.out _ hC.1) (HY.out _ hC.1)))); (try simp only [Act.put]); (try simp only [List.setIfInBounds_toArray]); (try simp only [List.set_cons_succ]); (try simp only [List.set_cons_zero]); go_big_quiet_on)))); refine wpQuiet_nil ?_; intro w' hC; simp only [Cls, HoldC] at hC; go_split_ands
          go_wp2
          exact ⟨⟨by assumption, k + 1, by omega, by go_num, HR.out⟩, by simp [intOf]; omega⟩
        · have hq' : eqB (nth l k) (nth l' k) = false := by simpa using hq
          have HR := Lib.hid (eqB_list_no (eqB_false hq'))
          clear hq
          go_wp2_with fail
          refine region_quiet (C := Cls w [((⟨b, o + k * 2, none⟩ : Addr), .int .i64 (nth l k).maj), ((⟨b, o + k * 2 + 1, none⟩ : Addr), .int .i64 (nth l k).min), (⟨b', o' + k * 2, none⟩, .int .i64 (nth l' k).maj), (⟨b', o' + k * 2 + 1, none⟩, .int .i64 (nth l' k).min)]) (by kernel_rfl) (by kernel_rfl) (Cls.start hB ⟨keep_cell hB hc0, keep_cell hB hc1, keep_cell hB hd0, keep_cell hB hd1, trivial⟩) ?_; (repeat (first | go_big_quiet_skip | (go_big_quiet_want; first | (refine BigFrame.quiet_move _ rfl ?_; (try simp only [Act.put]); (try simp only [Act.eval]); (try simp only [Array.getD_eq_getD_getElem?]); (try simp only [List.getElem?_toArray]); (try simp only [List.getElem?_cons_succ]); (try simp only [List.getElem?_cons_zero]); (try simp only [Option.getD_some]); (try simp only [List.setIfInBounds_toArray]); (try simp only [List.set_cons_succ]); (try simp only [List.set_cons_zero]); go_big_quiet_on) | (refine BigFrame.quiet_assign _ rfl ?_; (try simp only [Act.put]); (try simp only [Act.eval]); (try simp only [Array.getD_eq_getD_getElem?]); (try simp only [List.getElem?_toArray]); (try simp only [List.getElem?_cons_succ]); (try simp only [List.getElem?_cons_zero]); (try simp only [Option.getD_some]); (try simp only [List.setIfInBounds_toArray]); (try simp only [List.set_cons_succ]); (try simp only [List.set_cons_zero]); go_big_quiet_on) | (apply quiet_run; (focus (intro w' hC; simp only [Cls, HoldC] at hC; go_split_ands; go_simp; (try exact rfl); done)); (try simp only [Act.put]); (try simp only [List.setIfInBounds_toArray]); (try simp only [List.set_cons_succ]); (try simp only [List.set_cons_zero]); go_big_quiet_on) | (apply quiet_call; (focus (intro w' _; go_simp; first | exact ⟨rfl, rfl⟩ | exact rfl | done)); (focus (intro w' hC; first | exact cls_call hC (eq_Ver_c (nth l k) (nth l' k) _ _ _ (HX.out _ hC.1) (HY.out _ hC.1)))); (try simp only [Act.put]); (try simp only [List.setIfInBounds_toArray]); (try simp only [List.set_cons_succ]); (try simp only [List.set_cons_zero]); go_big_quiet_on)))); refine wpQuiet_nil ?_; intro w' hC; simp only [Cls, HoldC] at hC; go_split_ands
          go_wp2
          go_ret
          exact ⟨ret_bool HR.out.symm, by assumption⟩
      · go_wp2
        go_ret
        obtain rfl : k = len := by omega
        exact ⟨ret_bool (eqB_list HL.out HL'.out HV.out).symm, hB⟩
  · have HN := Lib.hid (show eqB l l' = false from eqB_list_len (by rw [← hl.len_eq, ← hl'.len_eq]; exact hne))
    have hne' : ((len : Int) != (len' : Int)) = true := by simp; omega
    go_enter Try.func54, Try.ntmps54
    go_wp2
    go_ret
    exact ⟨ret_bool HN.out.symm, by go_grown⟩
end Go.Proofs.Ythoilclddnjjjaa
