/- The law's own helpers on versions in slices and on offers: sizes, copies, comparisons. -/
import Derived.Test.YthoilclddnjjjaaVer
import Derived.Test.YthoilclddnjjjaaQuiet
import Derived.Test.YthoilclddnjjjaaTypes
import Derived.Test.YthoilclddnjjjaaRow
import Derived.OwnWalk
namespace Go.Proofs.Ythoilclddnjjjaa
open Go.RowKit
set_option maxRecDepth 100000

def szN (n : Int) (k : Nat) : Int := if n - (k : Int) < 0 then -1 else n - (k : Int)
theorem laws_szVersionS (a : Option Addr) (len cap : Nat) (n : Int) (hl : len ≤ maxLen) (h0 : 0 ≤ n) (hn : n ≤ 1048576) (w : World) :
    Calls Try.prog 49 #[.slice a len cap, .int .i64 n] w fun e w' => e = .returned (.int .i64 (szN n len)) ∧ w = w' := by
  unfold maxLen at hl
  by_cases h : n - (len : Int) < 0
  · go_enter Try.func49, Try.ntmps49
    go_wp2
    go_ret
    exact ⟨ret_int (by unfold szN; split <;> omega), rfl⟩
  · go_enter Try.func49, Try.ntmps49
    go_wp2
    go_ret
    exact ⟨ret_int (by unfold szN; split <;> omega), rfl⟩
theorem laws_szOffer (a : Option Addr) (len cap : Nat) (f n : Int) (hl : len ≤ maxLen) (h0 : 0 ≤ n) (hn : n ≤ 1048576) (w : World) :
    Calls Try.prog 15 #[.agg #[.slice a len cap, .int .i64 f], .int .i64 n] w fun e w' => e = .returned (.int .i64 (szN n len)) ∧ Below w.heap.size w w' := by
  by_cases h : n - (len : Int) < 0
  · have hs : szN n len = -1 := by simp [szN, h]
    go_enter Try.func15, Try.ntmps15
    go_wp2_with (go_at_call 49; refine (laws_szVersionS _ _ _ _ hl h0 hn _).mono ?_; rintro e w' ⟨rfl, rfl⟩)
    go_ret
    exact ⟨ret_int (by simp [hs]), by go_grown⟩
  · have hs : szN n len = n - (len : Int) := by simp only [szN, if_neg h]
    go_enter Try.func15, Try.ntmps15
    go_wp2_with (go_at_call 49; refine (laws_szVersionS _ _ _ _ hl h0 hn _).mono ?_; rintro e w' ⟨rfl, rfl⟩)
    go_ret
    exact ⟨ret_int (by simp [hs]), by go_grown⟩
theorem laws_eqVer (x y : Ver) (w : World) :
    Calls Try.prog 69 #[.agg #[.int .i64 x.maj, .int .i64 x.min], .agg #[.int .i64 y.maj, .int .i64 y.min]] w fun e w' => e = .returned (.bool (eqB x y)) ∧ Below w.heap.size w w' := by
  have h := laws_eqVersion x.maj x.min y.maj y.min w
  rwa [show decide (x.maj = y.maj ∧ x.min = y.min) = eqB x y by cases x; cases y; simp [eqB]] at h
theorem laws_eqVersionS (a a' : Option Addr) (len cap len' cap' : Nat) (l l' : List Ver) (w : World) (hl : Sl w (· < w.heap.size) a len cap l) (hl' : Sl w (· < w.heap.size) a' len' cap' l') :
    Calls Try.prog 54 #[.slice a len cap, .slice a' len' cap'] w fun e w' => e = .returned (.bool (eqB l l')) ∧ Below w.heap.size w w' := by
  by_cases hne : len = len'
  · subst hne
    have HL := Lib.hid hl.len_eq
    have HL' := Lib.hid hl'.len_eq
    have hm := hl.2.1
    have hm' := hl.2.2.1
    unfold maxLen at hm'
    go_enter Try.func54, Try.ntmps54
    go_wp2
    go_loopw [5] (fun i wr => Below w.heap.size w wr ∧ ∃ k : Nat, k ≤ len ∧ i = .int .i64 k ∧ ∀ i, i < k → nth l i = nth l' i) (fun i _ => len - (intOf i).toNat)
    case atStart => exact ⟨Below.refl _ _, 0, by omega, rfl, fun i h => absurd h (by omega)⟩
    case round =>
      obtain ⟨hB, k, hk, rfl, hv⟩ := hrel
      have HV := Lib.hid hv
      clear hv
      have hBs := hB.size
      by_cases hlt : k < len
      · obtain ⟨b, o, rfl, hb, hbs, hc0, hc1⟩ := hl.ver hlt
        obtain ⟨b', o', rfl, hb', hbs', hd0, hd1⟩ := hl'.ver hlt
        have hi0 : (0 : Int) ≤ (k : Int) := by omega
        have hi1 : (k : Int) < (len : Int) := by omega
        by_cases hq : eqB (nth l k) (nth l' k) = true
        · have HR := Lib.hid (show ∀ i, i < k + 1 → nth l i = nth l' i from fun i hi => by
            by_cases e : i = k
            · subst e; exact eqB_true hq
            · exact HV.out i (by omega))
          go_wp2_with fail
          refine region_quiet (C := Cls w [((⟨b, o + k * 2, none⟩ : Addr), .int .i64 (nth l k).maj), ((⟨b, o + k * 2 + 1, none⟩ : Addr), .int .i64 (nth l k).min), (⟨b', o' + k * 2, none⟩, .int .i64 (nth l' k).maj), (⟨b', o' + k * 2 + 1, none⟩, .int .i64 (nth l' k).min)]) (by kernel_rfl) (by kernel_rfl) (Cls.start hB ⟨keep_cell hB hc0, keep_cell hB hc1, keep_cell hB hd0, keep_cell hB hd1, trivial⟩) ?_; (repeat (first | go_big_quiet_skip | (go_big_quiet_want; first | (refine BigFrame.quiet_move _ rfl ?_; (try simp only [Act.put]); (try simp only [Act.eval]); (try simp only [Array.getD_eq_getD_getElem?]); (try simp only [List.getElem?_toArray]); (try simp only [List.getElem?_cons_succ]); (try simp only [List.getElem?_cons_zero]); (try simp only [Option.getD_some]); (try simp only [List.setIfInBounds_toArray]); (try simp only [List.set_cons_succ]); (try simp only [List.set_cons_zero]); go_big_quiet_on) | (refine BigFrame.quiet_assign _ rfl ?_; (try simp only [Act.put]); (try simp only [Act.eval]); (try simp only [Array.getD_eq_getD_getElem?]); (try simp only [List.getElem?_toArray]); (try simp only [List.getElem?_cons_succ]); (try simp only [List.getElem?_cons_zero]); (try simp only [Option.getD_some]); (try simp only [List.setIfInBounds_toArray]); (try simp only [List.set_cons_succ]); (try simp only [List.set_cons_zero]); go_big_quiet_on) | (apply quiet_run; (focus (intro w' hC; simp only [Cls, HoldC] at hC; go_split_ands; go_simp; (try exact rfl); done)); (try simp only [Act.put]); (try simp only [List.setIfInBounds_toArray]); (try simp only [List.set_cons_succ]); (try simp only [List.set_cons_zero]); go_big_quiet_on) | (apply quiet_call; (focus (intro w' _; go_simp; first | exact ⟨rfl, rfl⟩ | exact rfl | done)); (focus (intro w' hC; first | exact cls_call hC (laws_eqVer (nth l k) (nth l' k) _))); (try simp only [Act.put]); (try simp only [List.setIfInBounds_toArray]); (try simp only [List.set_cons_succ]); (try simp only [List.set_cons_zero]); go_big_quiet_on)))); refine wpQuiet_nil ?_; intro w' hC; simp only [Cls, HoldC] at hC; go_split_ands
          go_wp2
          exact ⟨⟨by assumption, k + 1, by omega, by go_num, HR.out⟩, by simp [intOf]; omega⟩
        · have hq' : eqB (nth l k) (nth l' k) = false := by simpa using hq
          have HR := Lib.hid (eqB_list_no (eqB_false hq'))
          clear hq
          go_wp2_with fail
          refine region_quiet (C := Cls w [((⟨b, o + k * 2, none⟩ : Addr), .int .i64 (nth l k).maj), ((⟨b, o + k * 2 + 1, none⟩ : Addr), .int .i64 (nth l k).min), (⟨b', o' + k * 2, none⟩, .int .i64 (nth l' k).maj), (⟨b', o' + k * 2 + 1, none⟩, .int .i64 (nth l' k).min)]) (by kernel_rfl) (by kernel_rfl) (Cls.start hB ⟨keep_cell hB hc0, keep_cell hB hc1, keep_cell hB hd0, keep_cell hB hd1, trivial⟩) ?_; (repeat (first | go_big_quiet_skip | (go_big_quiet_want; first | (refine BigFrame.quiet_move _ rfl ?_; (try simp only [Act.put]); (try simp only [Act.eval]); (try simp only [Array.getD_eq_getD_getElem?]); (try simp only [List.getElem?_toArray]); (try simp only [List.getElem?_cons_succ]); (try simp only [List.getElem?_cons_zero]); (try simp only [Option.getD_some]); (try simp only [List.setIfInBounds_toArray]); (try simp only [List.set_cons_succ]); (try simp only [List.set_cons_zero]); go_big_quiet_on) | (refine BigFrame.quiet_assign _ rfl ?_; (try simp only [Act.put]); (try simp only [Act.eval]); (try simp only [Array.getD_eq_getD_getElem?]); (try simp only [List.getElem?_toArray]); (try simp only [List.getElem?_cons_succ]); (try simp only [List.getElem?_cons_zero]); (try simp only [Option.getD_some]); (try simp only [List.setIfInBounds_toArray]); (try simp only [List.set_cons_succ]); (try simp only [List.set_cons_zero]); go_big_quiet_on) | (apply quiet_run; (focus (intro w' hC; simp only [Cls, HoldC] at hC; go_split_ands; go_simp; (try exact rfl); done)); (try simp only [Act.put]); (try simp only [List.setIfInBounds_toArray]); (try simp only [List.set_cons_succ]); (try simp only [List.set_cons_zero]); go_big_quiet_on) | (apply quiet_call; (focus (intro w' _; go_simp; first | exact ⟨rfl, rfl⟩ | exact rfl | done)); (focus (intro w' hC; first | exact cls_call hC (laws_eqVer (nth l k) (nth l' k) _))); (try simp only [Act.put]); (try simp only [List.setIfInBounds_toArray]); (try simp only [List.set_cons_succ]); (try simp only [List.set_cons_zero]); go_big_quiet_on)))); refine wpQuiet_nil ?_; intro w' hC; simp only [Cls, HoldC] at hC; go_split_ands
          go_wp2
          go_ret
          exact ⟨ret_bool HR.out.symm, by assumption⟩
      · go_wp2
        go_ret
        obtain rfl : k = len := by omega
        exact ⟨ret_bool (eqB_list HL.out HL'.out HV.out).symm, hB⟩
  · have HN := Lib.hid (show eqB l l' = false from eqB_list_len (by rw [← hl.len_eq, ← hl'.len_eq]; exact hne))
    have hne' : ((len : Int) != (len' : Int)) = true := by simp; omega
    go_enter Try.func54, Try.ntmps54
    go_wp2
    go_ret
    exact ⟨ret_bool HN.out.symm, by go_grown⟩

theorem laws_toVer (x : Ver) (w : World) : Calls Try.prog 13 #[.agg #[.int .i64 x.maj, .int .i64 x.min]] w fun e w' => e = .returned (.agg #[.int .i64 x.maj, .int .i64 x.min]) ∧ Below w.heap.size w w' := laws_toVersion _ _ w
theorem laws_toVersionS (a : Option Addr) (len cap : Nat) (l : List Ver) (w : World) (hl : Sl w (· < w.heap.size) a len cap l) (hsm : len ≤ 1048576) :
    Calls Try.prog 53 #[.slice a len cap] w fun e w' => e = .returned (.slice (some ⟨w.heap.size, 0, none⟩) len len) ∧ Sl w' (fun b => w.heap.size ≤ b ∧ b < w'.heap.size) (some ⟨w.heap.size, 0, none⟩) len len l ∧ Below w.heap.size w w' := by
  have HL := Lib.hid hl.len_eq
  have hmk := fun W => run_make_at (P := Try.prog) 33 25 (z := .agg #[.int .i64 0, .int .i64 0]) (size := 2) (bytes := 16) Try.underlying33 (by kernel_rfl) .i64 .i64 len (by omega) (by omega) W
  go_enter Try.func53, Try.ntmps53
  go_wp2
  go_loopw [4] (fun i wr => Below w.heap.size w wr ∧ ∃ k : Nat, k ≤ len ∧ i = .int .i64 k ∧ RowTo wr w.heap.size 25 len k l (w.heap.size + 1)) (fun i _ => len - (intOf i).toNat)
  case atStart => exact ⟨by go_grown, 0, by omega, rfl, RowTo.new (Blk.new _ _ _) (by rw [size_madeCells]; rfl)⟩
  case round =>
    obtain ⟨hB, k, hk, rfl, hR⟩ := hrel
    have hBs := hB.size
    have hgl := hR.lt
    by_cases hlt : k < len
    · obtain ⟨b, o, rfl, hb, hbs, hc0, hc1⟩ := hl.ver hlt
      have he0 := keep_cell hB hc0
      have he1 := keep_cell hB hc1
      have hi0 : (0 : Int) ≤ (k : Int) := by omega
      have hi1 : (k : Int) < (len : Int) := by omega
      go_wp2_with (go_at_call 13; refine (laws_toVer (nth l k) _).mono ?_; rintro e w1 ⟨rfl, hb1⟩; have hR1 := hR.keep hb1; obtain ⟨y0, hy0⟩ := hR1.there (i := k) (j := 0) hlt (by decide); obtain ⟨y1, hy1⟩ := hR1.there (i := k) (j := 1) hlt (by decide); have hy0' : w1.cell? ⟨w.heap.size, k * 2, none⟩ = some y0 := hy0; have hf0 := hR1.free (k * 2); have hy1' : w1.cell? ⟨w.heap.size, k * 2 + 1, none⟩ = some y1 := hy1; have hf1 := hR1.free (k * 2 + 1))
      have hx : RowTo (setN w1 w.heap.size (k * 2) [.int .i64 (nth l k).maj, .int .i64 (nth l k).min]) w.heap.size 25 len (k + 1) l (w.heap.size + 1) := hR1.step hlt ⟨rfl, hl.ver_ok hlt⟩
      exact ⟨⟨by have h2 := bt hB hb1; go_grown, k + 1, by omega, by go_num, hx⟩, by simp [intOf]; omega⟩
    · go_wp2
      go_ret
      obtain rfl : k = len := by omega
      exact ⟨rfl, hR.done HL.out (by omega) (by unfold maxLen; omega), hB⟩

theorem laws_toOffer (a : Option Addr) (len cap : Nat) (l : List Ver) (f : Int) (w : World) (hl : Sl w (· < w.heap.size) a len cap l) (hsm : len ≤ 1048576) :
    Calls Try.prog 17 #[.agg #[.slice a len cap, .int .i64 f]] w fun e w' => ∃ g, e = .returned (.agg #[.slice (some ⟨g, 0, none⟩) len len, .int .i64 f]) ∧ Sl w' (fun b => w.heap.size ≤ b ∧ b < w'.heap.size) (some ⟨g, 0, none⟩) len len l ∧ Below w.heap.size w w' := by
  have HL0 := Lib.hid (fun (w0 : World) (h : Below w.heap.size w w0) => hl.up h)
  go_enter Try.func17, Try.ntmps17
  go_wp2_with fail
  refine (laws_toVersionS _ _ _ _ _ (HL0.out _ (by go_grown)) hsm).mono ?_; rintro e w1 ⟨rfl, hs1, hb1⟩
  obtain ⟨hc1, hf1⟩ := bcell hb1
  simp only [World.size_alloc] at hc1 hf1
  have HS := Lib.hid hs1
  clear hs1
  go_wp2_with fail
  have hB : Below w.heap.size w w1 := bt (by go_grown) hb1
  have hr : Blk w1 (w.heap.size + 1) 35 #[.slice none 0 0, .int .i64 0] := by
    have h := ((Blk.new (w.alloc _) 35 #[.slice none 0 0, .int .i64 0]).alloc _).below hb1 (by simp)
    simpa using h
  have hs := HS.out
  simp only [World.size_alloc] at hs
  refine bodyPost_ret (results_blk rfl _ _ _ rfl ((((hr.far (p := ⟨w.heap.size + 1 + 1, 0, none⟩) (by simp) (.slice (some ⟨w.heap.size + 1 + 1 + 1, 0, none⟩) len len)).far (p := ⟨w.heap.size + 1 + 1, 1, none⟩) (by simp) (.int .i64 f)).set_ 0 (.slice (some ⟨w.heap.size + 1 + 1 + 1, 0, none⟩) len len)).set_ 1 (.int .i64 f)) Try.underlying35 rfl (by kernel_rfl)) rfl ?_
  refine ⟨w.heap.size + 1 + 1 + 1, rfl, ((((hs.set (p := ⟨w.heap.size + 1 + 1, 0, none⟩) (by rintro ⟨h, _⟩; dsimp only at h; omega) _).set (p := ⟨w.heap.size + 1 + 1, 1, none⟩) (by rintro ⟨h, _⟩; dsimp only at h; omega) _).set (p := ⟨w.heap.size + 1, 0, none⟩) (by rintro ⟨h, _⟩; dsimp only at h; omega) _).set (p := ⟨w.heap.size + 1, 1, none⟩) (by rintro ⟨h, _⟩; dsimp only at h; omega) _).wide (fun b hb => ⟨by omega, by simpa using hb.2⟩), by go_grown⟩
theorem laws_eqOffer (a a' : Option Addr) (len cap len' cap' : Nat) (l l' : List Ver) (f f' : Int) (w : World) (hl : Sl w (· < w.heap.size) a len cap l) (hl' : Sl w (· < w.heap.size) a' len' cap' l') :
    Calls Try.prog 19 #[.agg #[.slice a len cap, .int .i64 f], .agg #[.slice a' len' cap', .int .i64 f']] w fun e w' => e = .returned (.bool (eqB l l' && eqB f f')) ∧ Below w.heap.size w w' := by
  have HL := Lib.hid (fun (w0 : World) (h : Below w.heap.size w w0) => hl.up h)
  have HL' := Lib.hid (fun (w0 : World) (h : Below w.heap.size w w0) => hl'.up h)
  by_cases h1 : eqB l l' = true
  · go_enter Try.func19, Try.ntmps19
    go_wp2_with (go_at_call 54; refine (laws_eqVersionS _ _ _ _ _ _ _ _ _ (HL.out _ (by go_grown)) (HL'.out _ (by go_grown))).mono ?_; rintro e w1 ⟨rfl, hb1⟩; obtain ⟨hc1, hf1⟩ := bcell hb1; (try simp only [World.size_alloc] at hc1 hf1); (try simp only [World.size_setCell] at hc1 hf1))
    all_goals (go_ret; exact ⟨ret_bool (by simp_all [eqB]), below_two (by simpa using hb1)⟩)
  · have h2 : eqB l l' = false := by simpa using h1
    clear h1
    go_enter Try.func19, Try.ntmps19
    go_wp2_with (go_at_call 54; refine (laws_eqVersionS _ _ _ _ _ _ _ _ _ (HL.out _ (by go_grown)) (HL'.out _ (by go_grown))).mono ?_; rintro e w1 ⟨rfl, hb1⟩; obtain ⟨hc1, hf1⟩ := bcell hb1; (try simp only [World.size_alloc] at hc1 hf1); (try simp only [World.size_setCell] at hc1 hf1))
    go_ret
    exact ⟨ret_bool (by simp [h2]), below_two (by simpa using hb1)⟩
end Go.Proofs.Ythoilclddnjjjaa
