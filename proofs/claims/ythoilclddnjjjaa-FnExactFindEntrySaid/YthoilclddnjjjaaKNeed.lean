/- The laws' own sizes, copies, comparisons of one type. Written by gen.py. -/
import Derived.Test.YthoilclddnjjjaaData
import Derived.Test.YthoilclddnjjjaaQuiet
import Derived.Test.YthoilclddnjjjaaRow
import Derived.OwnWalk
import Derived.Test.YthoilclddnjjjaaKVer
namespace Go.Proofs.Ythoilclddnjjjaa
open Go.RowKit
set_option maxRecDepth 100000
set_option linter.unusedVariables false
set_option linter.unusedSimpArgs false

theorem sz_Need_c (x : Need) (cs : List Value) (n : Int) (h0 : 0 ≤ n) (hn : n ≤ 1048576) (w : World) (h : Rep.rd w (· < w.heap.size) cs x) :
    Calls Try.prog 83 #[.agg cs.toArray, .int .i64 n] w fun e w' => e = .returned (.int .i64 (szF n (sz x))) ∧ Below w.heap.size w w' := by
  obtain ⟨rfl, f0, f1, f2, f3, _⟩ := h
  have hT : sz x = x.prov.size := by simp only [sz_Need, sz_Ver, sz_int, sz_bool, sz_bytes]; try omega
  rw [hT]
  clear hT
  try unfold maxLen at *
  have H_least := Lib.hid (fun (w0 : World) (hb : Below w.heap.size w w0) => show Rep.rd w0 (· < w0.heap.size) [.int .i64 x.least.maj, .int .i64 x.least.min] x.least from ⟨rfl, f2, f3⟩)
  by_cases h0 : n - (x.prov.size : Int) < 0
  · rw [szF_neg (by push_cast; omega)]
    go_enter Try.func83, Try.ntmps83
    go_wp2_with fail
    go_ret
    exact ⟨rfl, by go_grown⟩
  · rw [szF_pos (by push_cast; omega)]
    go_enter Try.func83, Try.ntmps83
    go_wp2_with fail
    go_ret
    exact ⟨ret_int (by push_cast; omega), by go_grown⟩
theorem sz_NeedS_c (a : Option Addr) (len cap : Nat) (l : List Need) (n : Int) (h0 : 0 ≤ n) (hn : n ≤ 1048576) (w : World) (hl : Sl w (· < w.heap.size) a len cap l) :
    Calls Try.prog 77 #[.slice a len cap, .int .i64 n] w fun e w' => e = .returned (.int .i64 (szF n (sz l))) ∧ Below w.heap.size w w' := by
  have HL := Lib.hid hl.len_eq
  have hm := hl.2.1
  have hm' := hl.2.2.1
  unfold maxLen at hm'
  have hzl : sz l = len + szTo l len := by rw [HL.out]; rfl
  by_cases h : n - (len : Int) < 0
  · rw [szF_neg (by rw [hzl]; push_cast; omega)]
    clear hzl
    go_enter Try.func77, Try.ntmps77
    go_wp2
    go_ret
    exact ⟨rfl, by go_grown⟩
  · have HZ := Lib.hid hzl
    clear hzl
    go_enter Try.func77, Try.ntmps77
    go_wp2
    go_loopw [1, 5] (fun v i wr => Below w.heap.size w wr ∧ ∃ k : Nat, k ≤ len ∧ i = .int .i64 k ∧ v = .int .i64 (n - (len : Int) - ((szTo l k : Nat) : Int)) ∧ 0 ≤ n - (len : Int) - ((szTo l k : Nat) : Int)) (fun v i _ => len - (intOf i).toNat)
    case atStart => exact ⟨Below.refl _ _, 0, by omega, rfl, val_int (by simp [szTo]), by simp [szTo]; omega⟩
    case round =>
      obtain ⟨hB, k, hk, rfl, rfl, hv⟩ := hrel
      have hBs := hB.size
      by_cases hlt : k < len
      · obtain ⟨b, o, rfl, hb, hbs, hc0, hc1, hc2, hc3, hr⟩ := hl.rNeed hlt
        have he0 := keep_cell hB hc0; have he1 := keep_cell hB hc1; have he2 := keep_cell hB hc2; have he3 := keep_cell hB hc3
        have hi0 : (0 : Int) ≤ (k : Int) := by omega
        have hi1 : (k : Int) < (len : Int) := by omega
        have hS := Lib.hid (show szTo l (k + 1) = szTo l k + sz (nth l k) from rfl)
        by_cases hq : n - (len : Int) - ((szTo l k : Nat) : Int) - ((sz (nth l k) : Nat) : Int) < 0
        · have HN := Lib.hid (show szF n (sz l) = -1 from szF_neg (by have := szTo_mono l (show k + 1 ≤ len by omega); have h1 := hS.out; have h2 := HZ.out; (try simp only [sz_bytes] at h1); omega))
          have hx := sz_Need_c (nth l k) _ (n - (len : Int) - ((szTo l k : Nat) : Int)) (by omega) (by omega) wr (rd_up hr hB)
          rw [szF_neg hq] at hx
          have HX := Lib.hid hx
          clear hx
          go_wp2_with (go_at_call 83; refine HX.out.mono ?_; rintro e w1 ⟨rfl, hb1⟩)
          go_ret
          exact ⟨ret_int HN.out.symm, bt hB hb1⟩
        · have HP := Lib.hid (show n - (len : Int) - ((szTo l k : Nat) : Int) - ((sz (nth l k) : Nat) : Int) = n - (len : Int) - ((szTo l (k + 1) : Nat) : Int) from (by have h1 := hS.out; (try simp only [sz_bytes] at h1); omega))
          have hx := sz_Need_c (nth l k) _ (n - (len : Int) - ((szTo l k : Nat) : Int)) (by omega) (by omega) wr (rd_up hr hB)
          rw [szF_pos hq] at hx
          have HX := Lib.hid hx
          clear hx
          have hq2 : 0 ≤ n - (len : Int) - ((szTo l (k + 1) : Nat) : Int) := by rw [← HP.out]; omega
          clear hS
          go_wp2_with (go_at_call 83; refine HX.out.mono ?_; rintro e w1 ⟨rfl, hb1⟩)
          exact ⟨⟨bt hB hb1, k + 1, by omega, by go_num, val_int HP.out, hq2⟩, by simp [intOf]; omega⟩
      · go_wp2
        go_ret
        obtain rfl : k = len := by omega
        exact ⟨ret_int (by rw [szF_pos (by rw [HZ.out]; push_cast; omega), HZ.out]; push_cast; omega), hB⟩
theorem to_Need_c (x : Need) (cs : List Value) (w : World) (h : Rep.rd w (· < w.heap.size) cs x) (hsm : sz x ≤ 1048576) :
    Calls Try.prog 84 #[.agg cs.toArray] w fun e w' => ∃ cs', e = .returned (.agg cs'.toArray) ∧ Rep.rd w' (Fr w.heap.size w') cs' x ∧ Below w.heap.size w w' := by
  obtain ⟨rfl, f0, f1, f2, f3, _⟩ := h
  rw [sz_Need] at hsm
  have H_least := Lib.hid (fun (w0 : World) (hb : Below w.heap.size w w0) => show Rep.rd w0 (· < w0.heap.size) [.int .i64 x.least.maj, .int .i64 x.least.min] x.least from ⟨rfl, f2, f3⟩)
  have hsm_least : sz x.least ≤ 1048576 := by omega
  clear hsm
  go_enter Try.func84, Try.ntmps84
  go_wp2_with fail
  refine (to_Ver_c x.least _ _ (H_least.out _ (by go_grown)) hsm_least).mono ?_; rintro e w1 ⟨cs1, rfl, hr1, hb1⟩
  obtain ⟨rfl, u0_1, u1_1⟩ := hr1
  obtain ⟨hc1, hf1⟩ := bcell hb1; (try simp only [World.size_alloc] at hc1 hf1); (try simp only [World.size_setCell] at hc1 hf1)
  have hB1 : Below w.heap.size w w1 := bt (by go_grown) hb1
  have hz1 : w.heap.size + 3 ≤ w1.heap.size := (by have := hb1.size; (try simp only [World.size_alloc] at this); (try simp only [World.size_setCell] at this); omega)
  have hy1 : w.heap.size < w1.heap.size := by omega
  have hy1a : w.heap.size + 1 < w1.heap.size := by omega
  have hy1b : w.heap.size + 1 + 1 < w1.heap.size := by omega
  have hR1 : Blk w1 (w.heap.size + 1) 112 #[.int .i64 0, .string ⟨#[]⟩, .int .i64 0, .int .i64 0] := by have h := ((Blk.new (w.alloc _) 112 #[.int .i64 0, .string ⟨#[]⟩, .int .i64 0, .int .i64 0]).alloc _).below hb1 (by simp); simpa using h
  go_wp2_with fail
  refine bodyPost_ret (results_blk rfl _ _ _ rfl ((((((hR1.far (p := ⟨w.heap.size + 1 + 1, 2, none⟩) (by simp) (.int .i64 x.least.maj)).far (p := ⟨w.heap.size + 1 + 1, 3, none⟩) (by simp) (.int .i64 x.least.min)).set_ 0 (.int .i64 x.face)).set_ 1 (.string x.prov)).set_ 2 (.int .i64 x.least.maj)).set_ 3 (.int .i64 x.least.min)) Try.underlying112 rfl (by kernel_rfl)) rfl ?_
  exact ⟨[.int .i64 x.face, .string x.prov, .int .i64 x.least.maj, .int .i64 x.least.min], rfl, ⟨rfl, f0, f1, f2, f3, trivial⟩, by go_grown⟩
theorem to_NeedS_c (a : Option Addr) (len cap : Nat) (l : List Need) (w : World) (hl : Sl w (· < w.heap.size) a len cap l) (hsm : sz l ≤ 1048576) :
    Calls Try.prog 79 #[.slice a len cap] w fun e w' => ∃ g, e = .returned (.slice (some ⟨g, 0, none⟩) len len) ∧ Sl w' (Fr w.heap.size w') (some ⟨g, 0, none⟩) len len l ∧ Below w.heap.size w w' := by
  have HL := Lib.hid hl.len_eq
  have hlen : len ≤ 1048576 := by rw [hl.len_eq]; exact sz_len hsm
  have HSM := Lib.hid (fun k (hk : k < len) => sz_at hsm (show k < l.length by rw [← HL.out]; exact hk))
  clear hsm
  have hmk := fun W => run_make_at (P := Try.prog) 86 112 (z := .agg #[.int .i64 0, .string ⟨#[]⟩, .int .i64 0, .int .i64 0]) (size := 4) (bytes := 40) Try.underlying86 (by kernel_rfl) .i64 .i64 len (by omega) (by omega) W
  go_enter Try.func79, Try.ntmps79
  go_wp2
  go_loopw [4] (fun i wr => Below w.heap.size w wr ∧ ∃ k : Nat, k ≤ len ∧ i = .int .i64 k ∧ RowTo wr w.heap.size 112 len k l (w.heap.size + 1)) (fun i _ => len - (intOf i).toNat)
  case atStart => exact ⟨by go_grown, 0, by omega, rfl, RowTo.new (Blk.new _ _ _) (by rw [size_madeCells]; first | rfl | exact (Nat.mul_one _).symm)⟩
  case round =>
    obtain ⟨hB, k, hk, rfl, hR⟩ := hrel
    have hBs := hB.size
    have hgl := hR.lt
    by_cases hlt : k < len
    · obtain ⟨b, o, rfl, hb, hbs, hc0, hc1, hc2, hc3, hr⟩ := hl.rNeed hlt
      have he0 := keep_cell hB hc0; have he1 := keep_cell hB hc1; have he2 := keep_cell hB hc2; have he3 := keep_cell hB hc3
      have hi0 : (0 : Int) ≤ (k : Int) := by omega
      have hi1 : (k : Int) < (len : Int) := by omega
      have HX := Lib.hid (fun (w0 : World) (hb : Below wr.heap.size wr w0) => rd_up (rd_up hr hB) hb)
      have hsk := HSM.out k hlt
      go_wp2_with (go_at_call 84; refine (to_Need_c (nth l k) _ _ (HX.out _ (by go_grown)) hsk).mono ?_; rintro e w1 ⟨cs1, rfl, hr1, hb1⟩; have hr2 := hr1; obtain ⟨rfl, v0_1, v1_1, v2_1, v3_1, _⟩ := hr1; have hR1 := hR.keep hb1; obtain ⟨y0, hy0⟩ := hR1.there (i := k) (j := 0) hlt (by decide); obtain ⟨y1, hy1⟩ := hR1.there (i := k) (j := 1) hlt (by decide); obtain ⟨y2, hy2⟩ := hR1.there (i := k) (j := 2) hlt (by decide); obtain ⟨y3, hy3⟩ := hR1.there (i := k) (j := 3) hlt (by decide); have hy0' : w1.cell? ⟨w.heap.size, k * 4, none⟩ = some y0 := hy0; have hfr0 := hR1.free (k * 4); have hy1' : w1.cell? ⟨w.heap.size, k * 4 + 1, none⟩ = some y1 := hy1; have hfr1 := hR1.free (k * 4 + 1); have hy2' : w1.cell? ⟨w.heap.size, k * 4 + 2, none⟩ = some y2 := hy2; have hfr2 := hR1.free (k * 4 + 2); have hy3' : w1.cell? ⟨w.heap.size, k * 4 + 3, none⟩ = some y3 := hy3; have hfr3 := hR1.free (k * 4 + 3))
      have hx : RowTo (setN w1 w.heap.size (k * 4) [.int .i64 (nth l k).face, .string (nth l k).prov, .int .i64 (nth l k).least.maj, .int .i64 (nth l k).least.min]) w.heap.size 112 len (k + 1) l (w.heap.size + 1) := hR1.step hlt (Rep.wide hr2 fun b hb => ⟨(by have := hb.1; omega), (by have := hb.1; omega), hb.2⟩)
      exact ⟨⟨by have h2 := bt hB hb1; go_grown, k + 1, by omega, by go_num, hx⟩, by simp [intOf]; omega⟩
    · go_wp2
      go_ret
      obtain rfl : k = len := by omega
      exact ⟨_, rfl, hR.done HL.out (by omega) (by unfold maxLen; omega), hB⟩
theorem eq_Need_c (x y : Need) (cs cs' : List Value) (w : World) (h : Rep.rd w (· < w.heap.size) cs x) (h' : Rep.rd w (· < w.heap.size) cs' y) :
    Calls Try.prog 85 #[.agg cs.toArray, .agg cs'.toArray] w fun e w' => e = .returned (.bool (eqB x y)) ∧ Below w.heap.size w w' := by
  obtain ⟨rfl, f0, f1, f2, f3, _⟩ := h
  obtain ⟨rfl, f0', f1', f2', f3', _⟩ := h'
  have H_least := Lib.hid (fun (w0 : World) (hb : Below w.heap.size w w0) => show Rep.rd w0 (· < w0.heap.size) [.int .i64 x.least.maj, .int .i64 x.least.min] x.least from ⟨rfl, f2, f3⟩)
  have G_least := Lib.hid (fun (w0 : World) (hb : Below w.heap.size w w0) => show Rep.rd w0 (· < w0.heap.size) [.int .i64 y.least.maj, .int .i64 y.least.min] y.least from ⟨rfl, f2', f3'⟩)
  have HE := Lib.hid (eqB_Need x y)
  by_cases p0 : eqB x.face y.face = true
  case' neg =>
    have q0 : eqB x.face y.face = false := by simpa using p0
    have z0 : (x.face != y.face) = true := by simpa [eqB] using q0
    clear p0
    go_enter Try.func85, Try.ntmps85
    go_wp2_with fail
    go_ret
    exact ⟨ret_bool (by rw [HE.out]; simp only [q0]; rfl), by go_grown⟩
  have q0 := p0
  have z0 : (x.face != y.face) = false := by simpa [eqB] using q0
  clear p0
  by_cases p1 : eqB x.prov y.prov = true
  case' neg =>
    have q1 : eqB x.prov y.prov = false := by simpa using p1
    have z1 : (x.prov.toList == y.prov.toList) = false := by rw [str_eqB]; exact q1
    clear p1
    go_enter Try.func85, Try.ntmps85
    go_wp2_with fail
    go_ret
    exact ⟨ret_bool (by rw [HE.out]; simp only [q0, q1]; rfl), by go_grown⟩
  have q1 := p1
  have z1 : (x.prov.toList == y.prov.toList) = true := by rw [str_eqB]; exact q1
  clear p1
  by_cases p2 : eqB x.least y.least = true
  case' neg =>
    have q2 : eqB x.least y.least = false := by simpa using p2
    clear p2
    go_enter Try.func85, Try.ntmps85
    go_wp2_with fail
    refine (eq_Ver_c x.least y.least _ _ _ (H_least.out _ (by go_grown)) (G_least.out _ (by go_grown))).mono ?_; rintro e w1 ⟨rfl, hb1⟩
    obtain ⟨hc1, hf1⟩ := bcell hb1; (try simp only [World.size_alloc] at hc1 hf1)
    have hB1 : Below w.heap.size w w1 := bt (by go_grown) hb1
    have hz1 : w.heap.size + 2 ≤ w1.heap.size := (by have := hb1.size; (try simp only [World.size_alloc] at this); omega)
    have hy1 : w.heap.size < w1.heap.size := by omega
    have hy1a : w.heap.size + 1 < w1.heap.size := by omega
    go_wp2_with fail
    go_ret
    exact ⟨ret_bool (by rw [HE.out]; simp only [q0, q1, q2]; rfl), by go_grown⟩
  have q2 := p2
  clear p2
  go_enter Try.func85, Try.ntmps85
  go_wp2_with fail
  refine (eq_Ver_c x.least y.least _ _ _ (H_least.out _ (by go_grown)) (G_least.out _ (by go_grown))).mono ?_; rintro e w1 ⟨rfl, hb1⟩
  obtain ⟨hc1, hf1⟩ := bcell hb1; (try simp only [World.size_alloc] at hc1 hf1)
  have hB1 : Below w.heap.size w w1 := bt (by go_grown) hb1
  have hz1 : w.heap.size + 2 ≤ w1.heap.size := (by have := hb1.size; (try simp only [World.size_alloc] at this); omega)
  have hy1 : w.heap.size < w1.heap.size := by omega
  have hy1a : w.heap.size + 1 < w1.heap.size := by omega
  go_wp2_with fail
  go_ret
  exact ⟨ret_bool (by rw [HE.out]; simp only [q0, q1, q2]; rfl), by go_grown⟩
theorem eq_NeedS_c (a a' : Option Addr) (len cap len' cap' : Nat) (l l' : List Need) (w : World) (hl : Sl w (· < w.heap.size) a len cap l) (hl' : Sl w (· < w.heap.size) a' len' cap' l') :
    Calls Try.prog 81 #[.slice a len cap, .slice a' len' cap'] w fun e w' => e = .returned (.bool (eqB l l')) ∧ Below w.heap.size w w' := by
  by_cases hne : len = len'
  · subst hne
    have HL := Lib.hid hl.len_eq
    have HL' := Lib.hid hl'.len_eq
    have hm := hl.2.1
    have hm' := hl.2.2.1
    unfold maxLen at hm'
    go_enter Try.func81, Try.ntmps81
    go_wp2
    go_loopw [5] (fun i wr => Below w.heap.size w wr ∧ ∃ k : Nat, k ≤ len ∧ i = .int .i64 k ∧ ∀ i, i < k → nth l i = nth l' i) (fun i _ => len - (intOf i).toNat)
    case atStart => exact ⟨Below.refl _ _, 0, by omega, rfl, fun i h => absurd h (by omega)⟩
    case round =>
      obtain ⟨hB, k, hk, rfl, hv⟩ := hrel
      have HV := Lib.hid hv
      clear hv
      have hBs := hB.size
      by_cases hlt : k < len
      · obtain ⟨b, o, rfl, hb, hbs, hc0, hc1, hc2, hc3, hr⟩ := hl.rNeed hlt
        obtain ⟨b', o', rfl, hb', hbs', hd0, hd1, hd2, hd3, hr2⟩ := hl'.rNeed hlt
        have hi0 : (0 : Int) ≤ (k : Int) := by omega
        have hi1 : (k : Int) < (len : Int) := by omega
        have HX := Lib.hid (fun (w0 : World) (hb : Below w.heap.size w w0) => rd_up hr hb)
        have HY := Lib.hid (fun (w0 : World) (hb : Below w.heap.size w w0) => rd_up hr2 hb)
        by_cases hq : eqB (nth l k) (nth l' k) = true
        · have HR := Lib.hid (show ∀ i, i < k + 1 → nth l i = nth l' i from fun i hi => by
            by_cases e : i = k
            · subst e; exact eqB_true hq
            · exact HV.out i (by omega))
          go_wp2_with fail
          refine region_quiet (C := Cls w [((⟨b, o + k * 4, none⟩ : Addr), .int .i64 (nth l k).face), ((⟨b, o + k * 4 + 1, none⟩ : Addr), .string (nth l k).prov), ((⟨b, o + k * 4 + 2, none⟩ : Addr), .int .i64 (nth l k).least.maj), ((⟨b, o + k * 4 + 3, none⟩ : Addr), .int .i64 (nth l k).least.min), (⟨b', o' + k * 4, none⟩, .int .i64 (nth l' k).face), (⟨b', o' + k * 4 + 1, none⟩, .string (nth l' k).prov), (⟨b', o' + k * 4 + 2, none⟩, .int .i64 (nth l' k).least.maj), (⟨b', o' + k * 4 + 3, none⟩, .int .i64 (nth l' k).least.min)]) (by kernel_rfl) (by kernel_rfl) (Cls.start hB ⟨keep_cell hB hc0, keep_cell hB hc1, keep_cell hB hc2, keep_cell hB hc3, keep_cell hB hd0, keep_cell hB hd1, keep_cell hB hd2, keep_cell hB hd3, trivial⟩) ?_; (repeat (first | go_big_quiet_skip | (go_big_quiet_want; first | (refine BigFrame.quiet_move _ rfl ?_; (try simp only [Act.put]); (try simp only [Act.eval]); (try simp only [Array.getD_eq_getD_getElem?]); (try simp only [List.getElem?_toArray]); (try simp only [List.getElem?_cons_succ]); (try simp only [List.getElem?_cons_zero]); (try simp only [Option.getD_some]); (try simp only [List.setIfInBounds_toArray]); (try simp only [List.set_cons_succ]); (try simp only [List.set_cons_zero]); go_big_quiet_on) | (refine BigFrame.quiet_assign _ rfl ?_; (try simp only [Act.put]); (try simp only [Act.eval]); (try simp only [Array.getD_eq_getD_getElem?]); (try simp only [List.getElem?_toArray]); (try simp only [List.getElem?_cons_succ]); (try simp only [List.getElem?_cons_zero]); (try simp only [Option.getD_some]); (try simp only [List.setIfInBounds_toArray]); (try simp only [List.set_cons_succ]); (try simp only [List.set_cons_zero]); go_big_quiet_on) | (apply quiet_run; (focus (intro w' hC; simp only [Cls, HoldC] at hC; go_split_ands; go_simp; (try exact rfl); done)); (try simp only [Act.put]); (try simp only [List.setIfInBounds_toArray]); (try simp only [List.set_cons_succ]); (try simp only [List.set_cons_zero]); go_big_quiet_on) | (apply quiet_call; (focus (intro w' _; go_simp; first | exact ⟨rfl, rfl⟩ | exact rfl | done)); (focus (intro w' hC; first | exact cls_call hC (eq_Need_c (nth l k) (nth l' k) _ _ _ (HX.out _ hC.1) (HY.out _ hC.1)))); (try simp only [Act.put]); (try simp only [List.setIfInBounds_toArray]); (try simp only [List.set_cons_succ]); (try simp only [List.set_cons_zero]); go_big_quiet_on)))); refine wpQuiet_nil ?_; intro w' hC; simp only [Cls, HoldC] at hC; go_split_ands
          go_wp2
          exact ⟨⟨by assumption, k + 1, by omega, by go_num, HR.out⟩, by simp [intOf]; omega⟩
        · have hq' : eqB (nth l k) (nth l' k) = false := by simpa using hq
          have HR := Lib.hid (eqB_list_no (eqB_false hq'))
          clear hq
          go_wp2_with fail
          refine region_quiet (C := Cls w [((⟨b, o + k * 4, none⟩ : Addr), .int .i64 (nth l k).face), ((⟨b, o + k * 4 + 1, none⟩ : Addr), .string (nth l k).prov), ((⟨b, o + k * 4 + 2, none⟩ : Addr), .int .i64 (nth l k).least.maj), ((⟨b, o + k * 4 + 3, none⟩ : Addr), .int .i64 (nth l k).least.min), (⟨b', o' + k * 4, none⟩, .int .i64 (nth l' k).face), (⟨b', o' + k * 4 + 1, none⟩, .string (nth l' k).prov), (⟨b', o' + k * 4 + 2, none⟩, .int .i64 (nth l' k).least.maj), (⟨b', o' + k * 4 + 3, none⟩, .int .i64 (nth l' k).least.min)]) (by kernel_rfl) (by kernel_rfl) (Cls.start hB ⟨keep_cell hB hc0, keep_cell hB hc1, keep_cell hB hc2, keep_cell hB hc3, keep_cell hB hd0, keep_cell hB hd1, keep_cell hB hd2, keep_cell hB hd3, trivial⟩) ?_; (repeat (first | go_big_quiet_skip | (go_big_quiet_want; first | (refine BigFrame.quiet_move _ rfl ?_; (try simp only [Act.put]); (try simp only [Act.eval]); (try simp only [Array.getD_eq_getD_getElem?]); (try simp only [List.getElem?_toArray]); (try simp only [List.getElem?_cons_succ]); (try simp only [List.getElem?_cons_zero]); (try simp only [Option.getD_some]); (try simp only [List.setIfInBounds_toArray]); (try simp only [List.set_cons_succ]); (try simp only [List.set_cons_zero]); go_big_quiet_on) | (refine BigFrame.quiet_assign _ rfl ?_; (try simp only [Act.put]); (try simp only [Act.eval]); (try simp only [Array.getD_eq_getD_getElem?]); (try simp only [List.getElem?_toArray]); (try simp only [List.getElem?_cons_succ]); (try simp only [List.getElem?_cons_zero]); (try simp only [Option.getD_some]); (try simp only [List.setIfInBounds_toArray]); (try simp only [List.set_cons_succ]); (try simp only [List.set_cons_zero]); go_big_quiet_on) | (apply quiet_run; (focus (intro w' hC; simp only [Cls, HoldC] at hC; go_split_ands; go_simp; (try exact rfl); done)); (try simp only [Act.put]); (try simp only [List.setIfInBounds_toArray]); (try simp only [List.set_cons_succ]); (try simp only [List.set_cons_zero]); go_big_quiet_on) | (apply quiet_call; (focus (intro w' _; go_simp; first | exact ⟨rfl, rfl⟩ | exact rfl | done)); (focus (intro w' hC; first | exact cls_call hC (eq_Need_c (nth l k) (nth l' k) _ _ _ (HX.out _ hC.1) (HY.out _ hC.1)))); (try simp only [Act.put]); (try simp only [List.setIfInBounds_toArray]); (try simp only [List.set_cons_succ]); (try simp only [List.set_cons_zero]); go_big_quiet_on)))); refine wpQuiet_nil ?_; intro w' hC; simp only [Cls, HoldC] at hC; go_split_ands
          go_wp2
          go_ret
          exact ⟨ret_bool HR.out.symm, by assumption⟩
      · go_wp2
        go_ret
        obtain rfl : k = len := by omega
        exact ⟨ret_bool (eqB_list HL.out HL'.out HV.out).symm, hB⟩
  · have HN := Lib.hid (show eqB l l' = false from eqB_list_len (by rw [← hl.len_eq, ← hl'.len_eq]; exact hne))
    have hne' : ((len : Int) != (len' : Int)) = true := by simp; omega
    go_enter Try.func81, Try.ntmps81
    go_wp2
    go_ret
    exact ⟨ret_bool HN.out.symm, by go_grown⟩
end Go.Proofs.Ythoilclddnjjjaa
