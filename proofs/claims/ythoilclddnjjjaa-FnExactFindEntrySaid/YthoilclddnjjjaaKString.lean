/- The laws' own sizes, copies, comparisons of one type. Written by gen.py. -/
import Derived.Test.YthoilclddnjjjaaData
import Derived.Test.YthoilclddnjjjaaQuiet
import Derived.Test.YthoilclddnjjjaaRow
import Derived.OwnWalk
namespace Go.Proofs.Ythoilclddnjjjaa
open Go.RowKit
set_option maxRecDepth 100000
set_option linter.unusedVariables false
set_option linter.unusedSimpArgs false

theorem sz_StringS_c (a : Option Addr) (len cap : Nat) (l : List ByteArray) (n : Int) (h0 : 0 ≤ n) (hn : n ≤ 1048576) (w : World) (hl : Sl w (· < w.heap.size) a len cap l) :
    Calls Try.prog 76 #[.slice a len cap, .int .i64 n] w fun e w' => e = .returned (.int .i64 (szF n (sz l))) ∧ Below w.heap.size w w' := by
  have HL := Lib.hid hl.len_eq
  have hm := hl.2.1
  have hm' := hl.2.2.1
  unfold maxLen at hm'
  have hzl : sz l = len + szTo l len := by rw [HL.out]; rfl
  by_cases h : n - (len : Int) < 0
  · rw [szF_neg (by rw [hzl]; push_cast; omega)]
    clear hzl
    go_enter Try.func76, Try.ntmps76
    go_wp2
    go_ret
    exact ⟨rfl, by go_grown⟩
  · have HZ := Lib.hid hzl
    clear hzl
    go_enter Try.func76, Try.ntmps76
    go_wp2
    go_loopw [1, 5] (fun v i wr => Below w.heap.size w wr ∧ ∃ k : Nat, k ≤ len ∧ i = .int .i64 k ∧ v = .int .i64 (n - (len : Int) - ((szTo l k : Nat) : Int)) ∧ 0 ≤ n - (len : Int) - ((szTo l k : Nat) : Int)) (fun v i _ => len - (intOf i).toNat)
    case atStart => exact ⟨Below.refl _ _, 0, by omega, rfl, val_int (by simp [szTo]), by simp [szTo]; omega⟩
    case round =>
      obtain ⟨hB, k, hk, rfl, rfl, hv⟩ := hrel
      have hBs := hB.size
      by_cases hlt : k < len
      · obtain ⟨b, o, rfl, hb, hbs, hc0, hsz⟩ := hl.str hlt
        have he0 := keep_cell hB hc0
        have hi0 : (0 : Int) ≤ (k : Int) := by omega
        have hi1 : (k : Int) < (len : Int) := by omega
        have hS := Lib.hid (show szTo l (k + 1) = szTo l k + sz (nth l k) from rfl)
        by_cases hq : n - (len : Int) - ((szTo l k : Nat) : Int) - (((nth l k).size : Nat) : Int) < 0
        · have HN := Lib.hid (show szF n (sz l) = -1 from szF_neg (by have := szTo_mono l (show k + 1 ≤ len by omega); have h1 := hS.out; have h2 := HZ.out; (try simp only [sz_bytes] at h1); omega))
          unfold maxLen at hsz
          go_wp2
          go_ret
          exact ⟨ret_int HN.out.symm, hB⟩
        · have HP := Lib.hid (show n - (len : Int) - ((szTo l k : Nat) : Int) - (((nth l k).size : Nat) : Int) = n - (len : Int) - ((szTo l (k + 1) : Nat) : Int) from (by have h1 := hS.out; (try simp only [sz_bytes] at h1); omega))
          unfold maxLen at hsz
          have hq2 : 0 ≤ n - (len : Int) - ((szTo l (k + 1) : Nat) : Int) := by rw [← HP.out]; omega
          clear hS
          go_wp2
          exact ⟨⟨hB, k + 1, by omega, by go_num, val_int HP.out, hq2⟩, by simp [intOf]; omega⟩
      · go_wp2
        go_ret
        obtain rfl : k = len := by omega
        exact ⟨ret_int (by rw [szF_pos (by rw [HZ.out]; push_cast; omega), HZ.out]; push_cast; omega), hB⟩
theorem to_StringS_c (a : Option Addr) (len cap : Nat) (l : List ByteArray) (w : World) (hl : Sl w (· < w.heap.size) a len cap l) (hsm : sz l ≤ 1048576) :
    Calls Try.prog 78 #[.slice a len cap] w fun e w' => ∃ g, e = .returned (.slice (some ⟨g, 0, none⟩) len len) ∧ Sl w' (Fr w.heap.size w') (some ⟨g, 0, none⟩) len len l ∧ Below w.heap.size w w' := by
  have HL := Lib.hid hl.len_eq
  have hlen : len ≤ 1048576 := by rw [hl.len_eq]; exact sz_len hsm
  have HSM := Lib.hid (fun k (hk : k < len) => sz_at hsm (show k < l.length by rw [← HL.out]; exact hk))
  clear hsm
  have hmk := fun W => run_make_at (P := Try.prog) 82 9 (z := .string ⟨#[]⟩) (size := 1) (bytes := 16) Try.underlying82 (by kernel_rfl) .i64 .i64 len (by omega) (by omega) W
  go_enter Try.func78, Try.ntmps78
  go_wp2
  go_loopw [4] (fun i wr => Below w.heap.size w wr ∧ ∃ k : Nat, k ≤ len ∧ i = .int .i64 k ∧ RowTo wr w.heap.size 9 len k l (w.heap.size + 1)) (fun i _ => len - (intOf i).toNat)
  case atStart => exact ⟨by go_grown, 0, by omega, rfl, RowTo.new (Blk.new _ _ _) (by rw [size_madeCells]; first | rfl | exact (Nat.mul_one _).symm)⟩
  case round =>
    obtain ⟨hB, k, hk, rfl, hR⟩ := hrel
    have hBs := hB.size
    have hgl := hR.lt
    by_cases hlt : k < len
    · obtain ⟨b, o, rfl, hb, hbs, hc0, hsz⟩ := hl.str hlt
      have he0 := keep_cell hB hc0
      have hi0 : (0 : Int) ≤ (k : Int) := by omega
      have hi1 : (k : Int) < (len : Int) := by omega
      obtain ⟨y0, hy0⟩ := hR.there (i := k) (j := 0) hlt (by decide); have hy0' : wr.cell? ⟨w.heap.size, k, none⟩ = some y0 := (by have h := hy0; rwa [show k * Rep.n ByteArray + 0 = k from Nat.mul_one k] at h); have hfr0 := hR.free (k)
      go_wp2
      have hx : RowTo (setN wr w.heap.size (k * 1) [.string (nth l k)]) w.heap.size 9 len (k + 1) l (w.heap.size + 1) := hR.step hlt ⟨rfl, hsz⟩
      rw [Nat.mul_one] at hx
      exact ⟨⟨by go_grown, k + 1, by omega, by go_num, hx⟩, by simp [intOf]; omega⟩
    · go_wp2
      go_ret
      obtain rfl : k = len := by omega
      exact ⟨_, rfl, hR.done HL.out (by omega) (by unfold maxLen; omega), hB⟩
theorem eq_StringS_c (a a' : Option Addr) (len cap len' cap' : Nat) (l l' : List ByteArray) (w : World) (hl : Sl w (· < w.heap.size) a len cap l) (hl' : Sl w (· < w.heap.size) a' len' cap' l') :
    Calls Try.prog 80 #[.slice a len cap, .slice a' len' cap'] w fun e w' => e = .returned (.bool (eqB l l')) ∧ Below w.heap.size w w' := by
  by_cases hne : len = len'
  · subst hne
    have HL := Lib.hid hl.len_eq
    have HL' := Lib.hid hl'.len_eq
    have hm := hl.2.1
    have hm' := hl.2.2.1
    unfold maxLen at hm'
    go_enter Try.func80, Try.ntmps80
    go_wp2
    go_loopw [5] (fun i wr => Below w.heap.size w wr ∧ ∃ k : Nat, k ≤ len ∧ i = .int .i64 k ∧ ∀ i, i < k → nth l i = nth l' i) (fun i _ => len - (intOf i).toNat)
    case atStart => exact ⟨Below.refl _ _, 0, by omega, rfl, fun i h => absurd h (by omega)⟩
    case round =>
      obtain ⟨hB, k, hk, rfl, hv⟩ := hrel
      have HV := Lib.hid hv
      clear hv
      have hBs := hB.size
      by_cases hlt : k < len
      · obtain ⟨b, o, rfl, hb, hbs, hc0, hsz⟩ := hl.str hlt
        obtain ⟨b', o', rfl, hb', hbs', hd0, hsz2⟩ := hl'.str hlt
        have hi0 : (0 : Int) ≤ (k : Int) := by omega
        have hi1 : (k : Int) < (len : Int) := by omega
        by_cases hq : eqB (nth l k) (nth l' k) = true
        · have HR := Lib.hid (show ∀ i, i < k + 1 → nth l i = nth l' i from fun i hi => by
            by_cases e : i = k
            · subst e; exact eqB_true hq
            · exact HV.out i (by omega))
          have z1 : ((nth l k).toList == (nth l' k).toList) = true := by rw [str_eqB]; exact hq
          go_wp2_with fail
          refine region_quiet (C := Cls w [((⟨b, o + k, none⟩ : Addr), .string (nth l k)), (⟨b', o' + k, none⟩, .string (nth l' k))]) (by kernel_rfl) (by kernel_rfl) (Cls.start hB ⟨keep_cell hB hc0, keep_cell hB hd0, trivial⟩) ?_; (repeat (first | go_big_quiet_skip | (go_big_quiet_want; first | (refine BigFrame.quiet_move _ rfl ?_; (try simp only [Act.put]); (try simp only [Act.eval]); (try simp only [Array.getD_eq_getD_getElem?]); (try simp only [List.getElem?_toArray]); (try simp only [List.getElem?_cons_succ]); (try simp only [List.getElem?_cons_zero]); (try simp only [Option.getD_some]); (try simp only [List.setIfInBounds_toArray]); (try simp only [List.set_cons_succ]); (try simp only [List.set_cons_zero]); go_big_quiet_on) | (refine BigFrame.quiet_assign _ rfl ?_; (try simp only [Act.put]); (try simp only [Act.eval]); (try simp only [Array.getD_eq_getD_getElem?]); (try simp only [List.getElem?_toArray]); (try simp only [List.getElem?_cons_succ]); (try simp only [List.getElem?_cons_zero]); (try simp only [Option.getD_some]); (try simp only [List.setIfInBounds_toArray]); (try simp only [List.set_cons_succ]); (try simp only [List.set_cons_zero]); go_big_quiet_on) | (apply quiet_run; (focus (intro w' hC; simp only [Cls, HoldC] at hC; go_split_ands; go_simp; (try exact rfl); done)); (try simp only [Act.put]); (try simp only [List.setIfInBounds_toArray]); (try simp only [List.set_cons_succ]); (try simp only [List.set_cons_zero]); go_big_quiet_on)))); refine wpQuiet_nil ?_; intro w' hC; simp only [Cls, HoldC] at hC; go_split_ands
          go_wp2
          exact ⟨⟨by assumption, k + 1, by omega, by go_num, HR.out⟩, by simp [intOf]; omega⟩
        · have hq' : eqB (nth l k) (nth l' k) = false := by simpa using hq
          have HR := Lib.hid (eqB_list_no (eqB_false hq'))
          clear hq
          have z1 : ((nth l k).toList == (nth l' k).toList) = false := by rw [str_eqB]; exact hq'
          go_wp2_with fail
          refine region_quiet (C := Cls w [((⟨b, o + k, none⟩ : Addr), .string (nth l k)), (⟨b', o' + k, none⟩, .string (nth l' k))]) (by kernel_rfl) (by kernel_rfl) (Cls.start hB ⟨keep_cell hB hc0, keep_cell hB hd0, trivial⟩) ?_; (repeat (first | go_big_quiet_skip | (go_big_quiet_want; first | (refine BigFrame.quiet_move _ rfl ?_; (try simp only [Act.put]); (try simp only [Act.eval]); (try simp only [Array.getD_eq_getD_getElem?]); (try simp only [List.getElem?_toArray]); (try simp only [List.getElem?_cons_succ]); (try simp only [List.getElem?_cons_zero]); (try simp only [Option.getD_some]); (try simp only [List.setIfInBounds_toArray]); (try simp only [List.set_cons_succ]); (try simp only [List.set_cons_zero]); go_big_quiet_on) | (refine BigFrame.quiet_assign _ rfl ?_; (try simp only [Act.put]); (try simp only [Act.eval]); (try simp only [Array.getD_eq_getD_getElem?]); (try simp only [List.getElem?_toArray]); (try simp only [List.getElem?_cons_succ]); (try simp only [List.getElem?_cons_zero]); (try simp only [Option.getD_some]); (try simp only [List.setIfInBounds_toArray]); (try simp only [List.set_cons_succ]); (try simp only [List.set_cons_zero]); go_big_quiet_on) | (apply quiet_run; (focus (intro w' hC; simp only [Cls, HoldC] at hC; go_split_ands; go_simp; (try exact rfl); done)); (try simp only [Act.put]); (try simp only [List.setIfInBounds_toArray]); (try simp only [List.set_cons_succ]); (try simp only [List.set_cons_zero]); go_big_quiet_on)))); refine wpQuiet_nil ?_; intro w' hC; simp only [Cls, HoldC] at hC; go_split_ands
          go_wp2
          go_ret
          exact ⟨ret_bool HR.out.symm, by assumption⟩
      · go_wp2
        go_ret
        obtain rfl : k = len := by omega
        exact ⟨ret_bool (eqB_list HL.out HL'.out HV.out).symm, hB⟩
  · have HN := Lib.hid (show eqB l l' = false from eqB_list_len (by rw [← hl.len_eq, ← hl'.len_eq]; exact hne))
    have hne' : ((len : Int) != (len' : Int)) = true := by simp; omega
    go_enter Try.func80, Try.ntmps80
    go_wp2
    go_ret
    exact ⟨ret_bool HN.out.symm, by go_grown⟩
end Go.Proofs.Ythoilclddnjjjaa
