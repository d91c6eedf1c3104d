/- Offers: IsOffer of the program and of the reference. -/
import Derived.Test.YthoilclddnjjjaaVer
import Derived.Test.YthoilclddnjjjaaQuiet
import Derived.Test.YthoilclddnjjjaaTypes
namespace Go.Proofs.Ythoilclddnjjjaa
open Go.RowKit

theorem impl_IsOffer (l : List Ver) (f : Int) (a : Option Addr) (len cap : Nat) (w : World) (hl : Sl w (· < w.heap.size) a len cap l) :
    Calls Try.prog 18 #[.agg #[.slice a len cap, .int .i64 f]] w fun e w' => e = .returned (.bool (offerB l f)) ∧ Below w.heap.size w w' := by
  have HL := Lib.hid hl.len_eq
  by_cases h4 : 4 < len
  · go_enter Try.func18, Try.ntmps18
    go_wp2
    go_ret
    exact ⟨ret_bool (by unfold offerB; rw [← HL.out]; simp; omega), by go_grown⟩
  · have h4' : decide ((4 : Int) < (len : Int)) = false := by simp; omega
    by_cases hf : isFaceB f = true
    · go_enter Try.func18, Try.ntmps18
      go_wp2_with ((go_at_call 25; refine (impl_IsFace _ _).mono ?_; rintro e w' ⟨rfl, rfl⟩))
      go_loopw [18] (fun i wr => Cls w [(⟨w.heap.size, 0, none⟩, .slice a len cap), (⟨w.heap.size, 1, none⟩, .int .i64 f)] wr ∧ ∃ k : Nat, k ≤ len ∧ i = .int .i64 k ∧ versTo l k = true) (fun i _ => len - (intOf i).toNat)
      case atStart => exact ⟨⟨by go_grown, by simp [HoldC]⟩, 0, by omega, rfl, rfl⟩
      case round =>
        obtain ⟨⟨hB, hx0, hx1, _⟩, k, hk, rfl, hv⟩ := hrel
        have HV := Lib.hid hv
        clear hv
        have hBs := hB.size
        by_cases hlt : k < len
        · obtain ⟨b, o, rfl, hb, hbs, hc0, hc1⟩ := hl.ver hlt
          have hd0 := keep_cell hB hc0
          have hd1 := keep_cell hB hc1
          have hi0 : (0 : Int) ≤ (k : Int) := by omega
          have hi1 : (k : Int) < (len : Int) := by omega
          by_cases hok : (nth l k).ok = true
          · have hiv : isVersionB (nth l k).maj (nth l k).min = true := hok
            have HO := Lib.hid hok
            clear hok
            by_cases hk0 : k = 0
            · have HR := Lib.hid (verOk_first hk0 HO.out)
              have hkz : decide (0 < k) = false := by simp; omega
              have hkz' : ¬ 0 < k := by omega
              clear hk0
              go_wp2_with fail
              refine region_quiet (C := Cls w [((⟨wr.heap.size, 0, none⟩ : Addr), .int .i64 (nth l k).maj), (⟨wr.heap.size, 1, none⟩, .int .i64 (nth l k).min), (⟨w.heap.size, 0, none⟩, .slice (some ⟨b, o, none⟩) len cap), (⟨w.heap.size, 1, none⟩, .int .i64 f)]) (by kernel_rfl) (by kernel_rfl) (Cls.start (by go_grown) ⟨new_cell rfl, new_cell rfl, alloc_keep hx0, alloc_keep hx1, trivial⟩) ?_; (repeat (first | go_big_quiet_skip | (go_big_quiet_want; first | (refine BigFrame.quiet_move _ rfl ?_; (try simp only [Act.put]); (try simp only [Act.eval]); (try simp only [Array.getD_eq_getD_getElem?]); (try simp only [List.getElem?_toArray]); (try simp only [List.getElem?_cons_succ]); (try simp only [List.getElem?_cons_zero]); (try simp only [Option.getD_some]); (try simp only [List.setIfInBounds_toArray]); (try simp only [List.set_cons_succ]); (try simp only [List.set_cons_zero]); go_big_quiet_on) | (refine BigFrame.quiet_assign _ rfl ?_; (try simp only [Act.put]); (try simp only [Act.eval]); (try simp only [Array.getD_eq_getD_getElem?]); (try simp only [List.getElem?_toArray]); (try simp only [List.getElem?_cons_succ]); (try simp only [List.getElem?_cons_zero]); (try simp only [Option.getD_some]); (try simp only [List.setIfInBounds_toArray]); (try simp only [List.set_cons_succ]); (try simp only [List.set_cons_zero]); go_big_quiet_on) | (apply quiet_run; (focus (intro w' hC; simp only [Cls, HoldC] at hC; go_split_ands; go_simp; (try exact rfl); done)); (try simp only [Act.put]); (try simp only [List.setIfInBounds_toArray]); (try simp only [List.set_cons_succ]); (try simp only [List.set_cons_zero]); go_big_quiet_on) | (apply quiet_call; (focus (intro w' _; go_simp; first | exact ⟨rfl, rfl⟩ | exact rfl | done)); (focus (intro w' hC; first | exact cls_call hC (impl_IsVersion _ _ _))); (try simp only [Act.put]); (try simp only [List.setIfInBounds_toArray]); (try simp only [List.set_cons_succ]); (try simp only [List.set_cons_zero]); go_big_quiet_on)))); refine wpQuiet_nil ?_; intro w' hC; simp only [Cls, HoldC] at hC; go_split_ands
              go_wp2
              exact ⟨⟨⟨by assumption, by assumption, by assumption, trivial⟩, k + 1, by omega, by go_num, versTo_more HV.out HR.out⟩, by simp [intOf]; omega⟩
            · obtain ⟨m, rfl⟩ : ∃ m, k = m + 1 := ⟨k - 1, by omega⟩
              clear hk0
              obtain ⟨b2, o2, e2, _, _, hp0, hp1⟩ := hl.ver (k := m) (by omega)
              simp only [Option.some.injEq, Addr.mk.injEq, and_true] at e2
              obtain ⟨rfl, rfl⟩ := e2
              have hq0 : wr.cell? ⟨b, o + m * 2, none⟩ = some (.int .i64 (nth l m).maj) := keep_cell hB hp0
              have hq1 : wr.cell? ⟨b, o + m * 2 + 1, none⟩ = some (.int .i64 (nth l m).min) := keep_cell hB hp1
              have hwm : IntKind.i64.wrap (m : Int) = (m : Int) := IntWalk.i64_in _ (by omega)
              have hm0 : (0 : Int) ≤ (m : Int) := by omega
              have hm1 : (m : Int) < (len : Int) := by omega
              by_cases hcm : (nth l m).cmp (nth l (m + 1)) < 0
              · have HR := Lib.hid (verOk_next HO.out (by simpa using hcm))
                have hcm' : decide (0 ≤ cmpV (nth l m).maj (nth l m).min (nth l (m + 1)).maj (nth l (m + 1)).min) = false := by simpa [Ver.cmp] using hcm
                clear hcm
                go_wp2_with fail
                refine region_quiet (C := Cls w [((⟨wr.heap.size, 0, none⟩ : Addr), .int .i64 (nth l (m + 1)).maj), (⟨wr.heap.size, 1, none⟩, .int .i64 (nth l (m + 1)).min), (⟨w.heap.size, 0, none⟩, .slice (some ⟨b, o, none⟩) len cap), (⟨w.heap.size, 1, none⟩, .int .i64 f), (⟨b, o + m * 2, none⟩, .int .i64 (nth l m).maj), (⟨b, o + m * 2 + 1, none⟩, .int .i64 (nth l m).min)]) (by kernel_rfl) (by kernel_rfl) (Cls.start (by go_grown) ⟨new_cell rfl, new_cell rfl, alloc_keep hx0, alloc_keep hx1, alloc_keep hq0, alloc_keep hq1, trivial⟩) ?_; (repeat (first | go_big_quiet_skip | (go_big_quiet_want; first | (refine BigFrame.quiet_move _ rfl ?_; (try simp only [Act.put]); (try simp only [Act.eval]); (try simp only [Array.getD_eq_getD_getElem?]); (try simp only [List.getElem?_toArray]); (try simp only [List.getElem?_cons_succ]); (try simp only [List.getElem?_cons_zero]); (try simp only [Option.getD_some]); (try simp only [List.setIfInBounds_toArray]); (try simp only [List.set_cons_succ]); (try simp only [List.set_cons_zero]); go_big_quiet_on) | (refine BigFrame.quiet_assign _ rfl ?_; (try simp only [Act.put]); (try simp only [Act.eval]); (try simp only [Array.getD_eq_getD_getElem?]); (try simp only [List.getElem?_toArray]); (try simp only [List.getElem?_cons_succ]); (try simp only [List.getElem?_cons_zero]); (try simp only [Option.getD_some]); (try simp only [List.setIfInBounds_toArray]); (try simp only [List.set_cons_succ]); (try simp only [List.set_cons_zero]); go_big_quiet_on) | (apply quiet_run; (focus (intro w' hC; simp only [Cls, HoldC] at hC; go_split_ands; go_simp; (try exact rfl); done)); (try simp only [Act.put]); (try simp only [List.setIfInBounds_toArray]); (try simp only [List.set_cons_succ]); (try simp only [List.set_cons_zero]); go_big_quiet_on) | (apply quiet_call; (focus (intro w' _; go_simp; first | exact ⟨rfl, rfl⟩ | exact rfl | done)); (focus (intro w' hC; first | exact cls_call hC (impl_IsVersion _ _ _) | exact cls_call hC (impl_CompareVersions _ _ _ _ _))); (try simp only [Act.put]); (try simp only [List.setIfInBounds_toArray]); (try simp only [List.set_cons_succ]); (try simp only [List.set_cons_zero]); go_big_quiet_on)))); refine wpQuiet_nil ?_; intro w' hC; simp only [Cls, HoldC] at hC; go_split_ands
                go_wp2
                exact ⟨⟨⟨by assumption, by assumption, by assumption, trivial⟩, m + 1 + 1, by omega, by go_num, versTo_more HV.out HR.out⟩, by simp [intOf]; omega⟩
              · have HR := Lib.hid (show versTo l l.length = false from versTo_bad (verOk_no (k := m + 1) (by omega) (by simpa using hcm)) (by rw [← HL.out]; exact hlt))
                have hcm' : decide (0 ≤ cmpV (nth l m).maj (nth l m).min (nth l (m + 1)).maj (nth l (m + 1)).min) = true := by simpa [Ver.cmp] using hcm
                clear hcm
                go_wp2_with fail
                refine region_quiet (C := Cls w [((⟨wr.heap.size, 0, none⟩ : Addr), .int .i64 (nth l (m + 1)).maj), (⟨wr.heap.size, 1, none⟩, .int .i64 (nth l (m + 1)).min), (⟨w.heap.size, 0, none⟩, .slice (some ⟨b, o, none⟩) len cap), (⟨w.heap.size, 1, none⟩, .int .i64 f), (⟨b, o + m * 2, none⟩, .int .i64 (nth l m).maj), (⟨b, o + m * 2 + 1, none⟩, .int .i64 (nth l m).min)]) (by kernel_rfl) (by kernel_rfl) (Cls.start (by go_grown) ⟨new_cell rfl, new_cell rfl, alloc_keep hx0, alloc_keep hx1, alloc_keep hq0, alloc_keep hq1, trivial⟩) ?_; (repeat (first | go_big_quiet_skip | (go_big_quiet_want; first | (refine BigFrame.quiet_move _ rfl ?_; (try simp only [Act.put]); (try simp only [Act.eval]); (try simp only [Array.getD_eq_getD_getElem?]); (try simp only [List.getElem?_toArray]); (try simp only [List.getElem?_cons_succ]); (try simp only [List.getElem?_cons_zero]); (try simp only [Option.getD_some]); (try simp only [List.setIfInBounds_toArray]); (try simp only [List.set_cons_succ]); (try simp only [List.set_cons_zero]); go_big_quiet_on) | (refine BigFrame.quiet_assign _ rfl ?_; (try simp only [Act.put]); (try simp only [Act.eval]); (try simp only [Array.getD_eq_getD_getElem?]); (try simp only [List.getElem?_toArray]); (try simp only [List.getElem?_cons_succ]); (try simp only [List.getElem?_cons_zero]); (try simp only [Option.getD_some]); (try simp only [List.setIfInBounds_toArray]); (try simp only [List.set_cons_succ]); (try simp only [List.set_cons_zero]); go_big_quiet_on) | (apply quiet_run; (focus (intro w' hC; simp only [Cls, HoldC] at hC; go_split_ands; go_simp; (try exact rfl); done)); (try simp only [Act.put]); (try simp only [List.setIfInBounds_toArray]); (try simp only [List.set_cons_succ]); (try simp only [List.set_cons_zero]); go_big_quiet_on) | (apply quiet_call; (focus (intro w' _; go_simp; first | exact ⟨rfl, rfl⟩ | exact rfl | done)); (focus (intro w' hC; first | exact cls_call hC (impl_IsVersion _ _ _) | exact cls_call hC (impl_CompareVersions _ _ _ _ _))); (try simp only [Act.put]); (try simp only [List.setIfInBounds_toArray]); (try simp only [List.set_cons_succ]); (try simp only [List.set_cons_zero]); go_big_quiet_on)))); refine wpQuiet_nil ?_; intro w' hC; simp only [Cls, HoldC] at hC; go_split_ands
                go_wp2
                go_ret
                exact ⟨ret_bool (by unfold offerB; rw [HR.out]; simp), by assumption⟩
          · have hok' : (nth l k).ok = false := by simpa using hok
            have HR := Lib.hid (show versTo l l.length = false from versTo_bad (k := k) (by simp [verOk, hok']) (by rw [← HL.out]; exact hlt))
            clear hok
            have hiv : isVersionB (nth l k).maj (nth l k).min = false := hok'
            go_wp2_with fail
            refine region_quiet (C := Cls w [((⟨wr.heap.size, 0, none⟩ : Addr), .int .i64 (nth l k).maj), (⟨wr.heap.size, 1, none⟩, .int .i64 (nth l k).min), (⟨w.heap.size, 0, none⟩, .slice (some ⟨b, o, none⟩) len cap), (⟨w.heap.size, 1, none⟩, .int .i64 f)]) (by kernel_rfl) (by kernel_rfl) (Cls.start (by go_grown) ⟨new_cell rfl, new_cell rfl, alloc_keep hx0, alloc_keep hx1, trivial⟩) ?_; (repeat (first | go_big_quiet_skip | (go_big_quiet_want; first | (refine BigFrame.quiet_move _ rfl ?_; (try simp only [Act.put]); (try simp only [Act.eval]); (try simp only [Array.getD_eq_getD_getElem?]); (try simp only [List.getElem?_toArray]); (try simp only [List.getElem?_cons_succ]); (try simp only [List.getElem?_cons_zero]); (try simp only [Option.getD_some]); (try simp only [List.setIfInBounds_toArray]); (try simp only [List.set_cons_succ]); (try simp only [List.set_cons_zero]); go_big_quiet_on) | (refine BigFrame.quiet_assign _ rfl ?_; (try simp only [Act.put]); (try simp only [Act.eval]); (try simp only [Array.getD_eq_getD_getElem?]); (try simp only [List.getElem?_toArray]); (try simp only [List.getElem?_cons_succ]); (try simp only [List.getElem?_cons_zero]); (try simp only [Option.getD_some]); (try simp only [List.setIfInBounds_toArray]); (try simp only [List.set_cons_succ]); (try simp only [List.set_cons_zero]); go_big_quiet_on) | (apply quiet_run; (focus (intro w' hC; simp only [Cls, HoldC] at hC; go_split_ands; go_simp; (try exact rfl); done)); (try simp only [Act.put]); (try simp only [List.setIfInBounds_toArray]); (try simp only [List.set_cons_succ]); (try simp only [List.set_cons_zero]); go_big_quiet_on) | (apply quiet_call; (focus (intro w' _; go_simp; first | exact ⟨rfl, rfl⟩ | exact rfl | done)); (focus (intro w' hC; first | exact cls_call hC (impl_IsVersion _ _ _))); (try simp only [Act.put]); (try simp only [List.setIfInBounds_toArray]); (try simp only [List.set_cons_succ]); (try simp only [List.set_cons_zero]); go_big_quiet_on)))); refine wpQuiet_nil ?_; intro w' hC; simp only [Cls, HoldC] at hC; go_split_ands
            go_wp2
            go_ret
            exact ⟨ret_bool (by unfold offerB; rw [HR.out]; simp), by assumption⟩
        · go_wp2
          go_ret
          obtain rfl : k = len := by omega
          exact ⟨ret_bool (by unfold offerB; rw [← HL.out, HV.out, hf]; simp; omega), hB⟩
    · have hf' : isFaceB f = false := by simpa using hf
      go_enter Try.func18, Try.ntmps18
      go_wp2_with ((go_at_call 25; refine (impl_IsFace _ _).mono ?_; rintro e w' ⟨rfl, rfl⟩))
      go_ret
      exact ⟨ret_bool (by unfold offerB; rw [hf']; simp), by go_grown⟩
theorem spec_IsOffer (l : List Ver) (f : Int) (a : Option Addr) (len cap : Nat) (w : World) (hl : Sl w (· < w.heap.size) a len cap l) :
    Calls Try.prog 16 #[.agg #[.slice a len cap, .int .i64 f]] w fun e w' => e = .returned (.bool (offerB l f)) ∧ Below w.heap.size w w' := by
  have HL := Lib.hid hl.len_eq
  have hm := hl.2.1
  have hm' := hl.2.2.1
  unfold maxLen at hm'
  go_enter Try.func16, Try.ntmps16
  go_wp2
  go_loopw [8] (fun i wr => Cls w [(⟨w.heap.size, 0, none⟩, .slice a len cap), (⟨w.heap.size, 1, none⟩, .int .i64 f)] wr ∧ ∃ k : Nat, k ≤ len ∧ i = .int .i64 k ∧ versTo l k = true) (fun i _ => len - (intOf i).toNat)
  case atStart => exact ⟨⟨by go_grown, by simp [HoldC]⟩, 0, by omega, rfl, rfl⟩
  case round =>
    obtain ⟨⟨hB, hx0, hx1, _⟩, k, hk, rfl, hv⟩ := hrel
    have HV := Lib.hid hv
    clear hv
    have hBs := hB.size
    by_cases hlt : k < len
    · obtain ⟨b, o, rfl, hb, hbs, hc0, hc1⟩ := hl.ver hlt
      have hd0 := keep_cell hB hc0
      have hd1 := keep_cell hB hc1
      have hi0 : (0 : Int) ≤ (k : Int) := by omega
      have hi1 : (k : Int) < (len : Int) := by omega
      by_cases hok : (nth l k).ok = true
      · have hiv : isVersionB (nth l k).maj (nth l k).min = true := hok
        have HO := Lib.hid hok
        clear hok
        by_cases hk0 : k = 0
        · have HR := Lib.hid (verOk_first hk0 HO.out)
          have hkz : decide (0 < k) = false := by simp; omega
          have hkz' : ¬ 0 < k := by omega
          clear hk0
          go_wp2_with fail
          refine region_quiet (C := Cls w [((⟨wr.heap.size, 0, none⟩ : Addr), .int .i64 (nth l k).maj), (⟨wr.heap.size, 1, none⟩, .int .i64 (nth l k).min), (⟨w.heap.size, 0, none⟩, .slice (some ⟨b, o, none⟩) len cap), (⟨w.heap.size, 1, none⟩, .int .i64 f)]) (by kernel_rfl) (by kernel_rfl) (Cls.start (by go_grown) ⟨new_cell rfl, new_cell rfl, alloc_keep hx0, alloc_keep hx1, trivial⟩) ?_; (repeat (first | go_big_quiet_skip | (go_big_quiet_want; first | (refine BigFrame.quiet_move _ rfl ?_; (try simp only [Act.put]); (try simp only [Act.eval]); (try simp only [Array.getD_eq_getD_getElem?]); (try simp only [List.getElem?_toArray]); (try simp only [List.getElem?_cons_succ]); (try simp only [List.getElem?_cons_zero]); (try simp only [Option.getD_some]); (try simp only [List.setIfInBounds_toArray]); (try simp only [List.set_cons_succ]); (try simp only [List.set_cons_zero]); go_big_quiet_on) | (refine BigFrame.quiet_assign _ rfl ?_; (try simp only [Act.put]); (try simp only [Act.eval]); (try simp only [Array.getD_eq_getD_getElem?]); (try simp only [List.getElem?_toArray]); (try simp only [List.getElem?_cons_succ]); (try simp only [List.getElem?_cons_zero]); (try simp only [Option.getD_some]); (try simp only [List.setIfInBounds_toArray]); (try simp only [List.set_cons_succ]); (try simp only [List.set_cons_zero]); go_big_quiet_on) | (apply quiet_run; (focus (intro w' hC; simp only [Cls, HoldC] at hC; go_split_ands; go_simp; (try exact rfl); done)); (try simp only [Act.put]); (try simp only [List.setIfInBounds_toArray]); (try simp only [List.set_cons_succ]); (try simp only [List.set_cons_zero]); go_big_quiet_on) | (apply quiet_call; (focus (intro w' _; go_simp; first | exact ⟨rfl, rfl⟩ | exact rfl | done)); (focus (intro w' hC; first | exact cls_call hC (spec_IsVersion _ _ _))); (try simp only [Act.put]); (try simp only [List.setIfInBounds_toArray]); (try simp only [List.set_cons_succ]); (try simp only [List.set_cons_zero]); go_big_quiet_on)))); refine wpQuiet_nil ?_; intro w' hC; simp only [Cls, HoldC] at hC; go_split_ands
          go_wp2
          exact ⟨⟨⟨by assumption, by assumption, by assumption, trivial⟩, k + 1, by omega, by go_num, versTo_more HV.out HR.out⟩, by simp [intOf]; omega⟩
        · obtain ⟨m, rfl⟩ : ∃ m, k = m + 1 := ⟨k - 1, by omega⟩
          clear hk0
          obtain ⟨b2, o2, e2, _, _, hp0, hp1⟩ := hl.ver (k := m) (by omega)
          simp only [Option.some.injEq, Addr.mk.injEq, and_true] at e2
          obtain ⟨rfl, rfl⟩ := e2
          have hq0 : wr.cell? ⟨b, o + m * 2, none⟩ = some (.int .i64 (nth l m).maj) := keep_cell hB hp0
          have hq1 : wr.cell? ⟨b, o + m * 2 + 1, none⟩ = some (.int .i64 (nth l m).min) := keep_cell hB hp1
          have hwm : IntKind.i64.wrap (m : Int) = (m : Int) := IntWalk.i64_in _ (by omega)
          have hm0 : (0 : Int) ≤ (m : Int) := by omega
          have hm1 : (m : Int) < (len : Int) := by omega
          by_cases hcm : (nth l m).cmp (nth l (m + 1)) < 0
          · have HR := Lib.hid (verOk_next HO.out (by simpa using hcm))
            have hcm' : decide (0 ≤ cmpV (nth l m).maj (nth l m).min (nth l (m + 1)).maj (nth l (m + 1)).min) = false := by simpa [Ver.cmp] using hcm
            clear hcm
            go_wp2_with fail
            refine region_quiet (C := Cls w [((⟨wr.heap.size, 0, none⟩ : Addr), .int .i64 (nth l (m + 1)).maj), (⟨wr.heap.size, 1, none⟩, .int .i64 (nth l (m + 1)).min), (⟨w.heap.size, 0, none⟩, .slice (some ⟨b, o, none⟩) len cap), (⟨w.heap.size, 1, none⟩, .int .i64 f), (⟨b, o + m * 2, none⟩, .int .i64 (nth l m).maj), (⟨b, o + m * 2 + 1, none⟩, .int .i64 (nth l m).min)]) (by kernel_rfl) (by kernel_rfl) (Cls.start (by go_grown) ⟨new_cell rfl, new_cell rfl, alloc_keep hx0, alloc_keep hx1, alloc_keep hq0, alloc_keep hq1, trivial⟩) ?_; (repeat (first | go_big_quiet_skip | (go_big_quiet_want; first | (refine BigFrame.quiet_move _ rfl ?_; (try simp only [Act.put]); (try simp only [Act.eval]); (try simp only [Array.getD_eq_getD_getElem?]); (try simp only [List.getElem?_toArray]); (try simp only [List.getElem?_cons_succ]); (try simp only [List.getElem?_cons_zero]); (try simp only [Option.getD_some]); (try simp only [List.setIfInBounds_toArray]); (try simp only [List.set_cons_succ]); (try simp only [List.set_cons_zero]); go_big_quiet_on) | (refine BigFrame.quiet_assign _ rfl ?_; (try simp only [Act.put]); (try simp only [Act.eval]); (try simp only [Array.getD_eq_getD_getElem?]); (try simp only [List.getElem?_toArray]); (try simp only [List.getElem?_cons_succ]); (try simp only [List.getElem?_cons_zero]); (try simp only [Option.getD_some]); (try simp only [List.setIfInBounds_toArray]); (try simp only [List.set_cons_succ]); (try simp only [List.set_cons_zero]); go_big_quiet_on) | (apply quiet_run; (focus (intro w' hC; simp only [Cls, HoldC] at hC; go_split_ands; go_simp; (try exact rfl); done)); (try simp only [Act.put]); (try simp only [List.setIfInBounds_toArray]); (try simp only [List.set_cons_succ]); (try simp only [List.set_cons_zero]); go_big_quiet_on) | (apply quiet_call; (focus (intro w' _; go_simp; first | exact ⟨rfl, rfl⟩ | exact rfl | done)); (focus (intro w' hC; first | exact cls_call hC (spec_IsVersion _ _ _) | exact cls_call hC (spec_CompareVersions _ _ _ _ _))); (try simp only [Act.put]); (try simp only [List.setIfInBounds_toArray]); (try simp only [List.set_cons_succ]); (try simp only [List.set_cons_zero]); go_big_quiet_on)))); refine wpQuiet_nil ?_; intro w' hC; simp only [Cls, HoldC] at hC; go_split_ands
            go_wp2
            exact ⟨⟨⟨by assumption, by assumption, by assumption, trivial⟩, m + 1 + 1, by omega, by go_num, versTo_more HV.out HR.out⟩, by simp [intOf]; omega⟩
          · have HR := Lib.hid (show versTo l l.length = false from versTo_bad (verOk_no (k := m + 1) (by omega) (by simpa using hcm)) (by rw [← HL.out]; exact hlt))
            have hcm' : decide (0 ≤ cmpV (nth l m).maj (nth l m).min (nth l (m + 1)).maj (nth l (m + 1)).min) = true := by simpa [Ver.cmp] using hcm
            clear hcm
            go_wp2_with fail
            refine region_quiet (C := Cls w [((⟨wr.heap.size, 0, none⟩ : Addr), .int .i64 (nth l (m + 1)).maj), (⟨wr.heap.size, 1, none⟩, .int .i64 (nth l (m + 1)).min), (⟨w.heap.size, 0, none⟩, .slice (some ⟨b, o, none⟩) len cap), (⟨w.heap.size, 1, none⟩, .int .i64 f), (⟨b, o + m * 2, none⟩, .int .i64 (nth l m).maj), (⟨b, o + m * 2 + 1, none⟩, .int .i64 (nth l m).min)]) (by kernel_rfl) (by kernel_rfl) (Cls.start (by go_grown) ⟨new_cell rfl, new_cell rfl, alloc_keep hx0, alloc_keep hx1, alloc_keep hq0, alloc_keep hq1, trivial⟩) ?_; (repeat (first | go_big_quiet_skip | (go_big_quiet_want; first | (refine BigFrame.quiet_move _ rfl ?_; (try simp only [Act.put]); (try simp only [Act.eval]); (try simp only [Array.getD_eq_getD_getElem?]); (try simp only [List.getElem?_toArray]); (try simp only [List.getElem?_cons_succ]); (try simp only [List.getElem?_cons_zero]); (try simp only [Option.getD_some]); (try simp only [List.setIfInBounds_toArray]); (try simp only [List.set_cons_succ]); (try simp only [List.set_cons_zero]); go_big_quiet_on) | (refine BigFrame.quiet_assign _ rfl ?_; (try simp only [Act.put]); (try simp only [Act.eval]); (try simp only [Array.getD_eq_getD_getElem?]); (try simp only [List.getElem?_toArray]); (try simp only [List.getElem?_cons_succ]); (try simp only [List.getElem?_cons_zero]); (try simp only [Option.getD_some]); (try simp only [List.setIfInBounds_toArray]); (try simp only [List.set_cons_succ]); (try simp only [List.set_cons_zero]); go_big_quiet_on) | (apply quiet_run; (focus (intro w' hC; simp only [Cls, HoldC] at hC; go_split_ands; go_simp; (try exact rfl); done)); (try simp only [Act.put]); (try simp only [List.setIfInBounds_toArray]); (try simp only [List.set_cons_succ]); (try simp only [List.set_cons_zero]); go_big_quiet_on) | (apply quiet_call; (focus (intro w' _; go_simp; first | exact ⟨rfl, rfl⟩ | exact rfl | done)); (focus (intro w' hC; first | exact cls_call hC (spec_IsVersion _ _ _) | exact cls_call hC (spec_CompareVersions _ _ _ _ _))); (try simp only [Act.put]); (try simp only [List.setIfInBounds_toArray]); (try simp only [List.set_cons_succ]); (try simp only [List.set_cons_zero]); go_big_quiet_on)))); refine wpQuiet_nil ?_; intro w' hC; simp only [Cls, HoldC] at hC; go_split_ands
            go_wp2
            go_ret
            exact ⟨ret_bool (by unfold offerB; rw [HR.out]; simp), by assumption⟩
      · have hok' : (nth l k).ok = false := by simpa using hok
        have HR := Lib.hid (show versTo l l.length = false from versTo_bad (k := k) (by simp [verOk, hok']) (by rw [← HL.out]; exact hlt))
        clear hok
        have hiv : isVersionB (nth l k).maj (nth l k).min = false := hok'
        go_wp2_with fail
        refine region_quiet (C := Cls w [((⟨wr.heap.size, 0, none⟩ : Addr), .int .i64 (nth l k).maj), (⟨wr.heap.size, 1, none⟩, .int .i64 (nth l k).min), (⟨w.heap.size, 0, none⟩, .slice (some ⟨b, o, none⟩) len cap), (⟨w.heap.size, 1, none⟩, .int .i64 f)]) (by kernel_rfl) (by kernel_rfl) (Cls.start (by go_grown) ⟨new_cell rfl, new_cell rfl, alloc_keep hx0, alloc_keep hx1, trivial⟩) ?_; (repeat (first | go_big_quiet_skip | (go_big_quiet_want; first | (refine BigFrame.quiet_move _ rfl ?_; (try simp only [Act.put]); (try simp only [Act.eval]); (try simp only [Array.getD_eq_getD_getElem?]); (try simp only [List.getElem?_toArray]); (try simp only [List.getElem?_cons_succ]); (try simp only [List.getElem?_cons_zero]); (try simp only [Option.getD_some]); (try simp only [List.setIfInBounds_toArray]); (try simp only [List.set_cons_succ]); (try simp only [List.set_cons_zero]); go_big_quiet_on) | (refine BigFrame.quiet_assign _ rfl ?_; (try simp only [Act.put]); (try simp only [Act.eval]); (try simp only [Array.getD_eq_getD_getElem?]); (try simp only [List.getElem?_toArray]); (try simp only [List.getElem?_cons_succ]); (try simp only [List.getElem?_cons_zero]); (try simp only [Option.getD_some]); (try simp only [List.setIfInBounds_toArray]); (try simp only [List.set_cons_succ]); (try simp only [List.set_cons_zero]); go_big_quiet_on) | (apply quiet_run; (focus (intro w' hC; simp only [Cls, HoldC] at hC; go_split_ands; go_simp; (try exact rfl); done)); (try simp only [Act.put]); (try simp only [List.setIfInBounds_toArray]); (try simp only [List.set_cons_succ]); (try simp only [List.set_cons_zero]); go_big_quiet_on) | (apply quiet_call; (focus (intro w' _; go_simp; first | exact ⟨rfl, rfl⟩ | exact rfl | done)); (focus (intro w' hC; first | exact cls_call hC (spec_IsVersion _ _ _))); (try simp only [Act.put]); (try simp only [List.setIfInBounds_toArray]); (try simp only [List.set_cons_succ]); (try simp only [List.set_cons_zero]); go_big_quiet_on)))); refine wpQuiet_nil ?_; intro w' hC; simp only [Cls, HoldC] at hC; go_split_ands
        go_wp2
        go_ret
        exact ⟨ret_bool (by unfold offerB; rw [HR.out]; simp), by assumption⟩
    · by_cases h4 : 4 < len
      · have h4' : decide ((len : Int) ≤ 4) = false := by simp; omega
        go_wp2
        go_ret
        exact ⟨ret_bool (by unfold offerB; rw [← HL.out]; simp; omega), hB⟩
      · have h4' : decide ((len : Int) ≤ 4) = true := by simp; omega
        go_wp2_with ((go_at_call 52; refine (spec_IsFace _ _).mono ?_; rintro e w' ⟨rfl, rfl⟩))
        go_ret
        obtain rfl : k = len := by omega
        exact ⟨ret_bool (by unfold offerB; rw [← HL.out, HV.out]; simp; omega), hB⟩
end Go.Proofs.Ythoilclddnjjjaa
