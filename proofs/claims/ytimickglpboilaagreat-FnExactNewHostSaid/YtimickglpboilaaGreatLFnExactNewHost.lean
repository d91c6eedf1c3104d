/- FnExactNewHost holds for every input: the law walked over the contracts of what it calls, with marks written into the argument's copy and into the answer, and the row. No condition. -/
import Derived.Test.YtimickglpboilaaGreatN18
import Derived.Test.YtimickglpboilaaGreatN19
import Derived.Test.YtimickglpboilaaGreatN12
namespace Go.Proofs.YtimickglpboilaaGreat.lawFnExactNewHost
open Go.ChangeShapes Go.WideShapes Go.ChangeAt Go.RowKit Go
set_option linter.unusedVariables false
set_option linter.unusedSimpArgs false
set_option maxRecDepth 100000
abbrev zHost : Array Value := hostA (.slice none 0 0) (.slice none 0 0)
set_option maxHeartbeats 8000000 in
theorem walk (l : List Entry) (w : World) (v : Value) (hv : R w (fun _ => False) (encS l) v) :
  Calls Tryz.prog 3 #[v] w fun e w' => e = .returned (.bool true) ∧ Below w.heap.size w w' := by
 obtain ⟨_, ⟨m0, rfl, _, p0, q0⟩, hz⟩ := z_EntryS l 1048576 (by omega) (by omega)
 have hb0 : m0 < 0 ∨ 0 ≤ m0 := by omega
 have HZ1 : ∀ (w0 : World), R w0 (fun _ => False) (encS l) v → _ := fun w0 h => Fun.calls hz (rdy0 w0) (vs := [v, .int .i64 1048576]) ⟨_, _, rfl, h, _, [], rfl, int_ok (by omega) (by omega), rfl⟩
 have HV := R.over hv
 have HB : Below w.heap.size w w := Below.refl _ _
 refine calls_CW (E := [(0, v)]) Tryz.func3 rfl Tryz.ntmps3 (by simp) (by simp) ?_
 refine CW.seq (CW.region ?_)
 refine WL.vv rfl rfl (r_assign rfl rfl) (by decide) ?_
 refine WL.nil (NX.next ?_)
 refine CW.sub (E' := [(0, v)]) ⟨rfl, trivial⟩ ?_
 refine CW.seq (CW.region ?_)
 refine WL.vv rfl rfl (r_assign rfl rfl) (by decide) ?_
 refine WL.nil (NX.next ?_)
 refine CW.sub (E' := [(0, v), (3, .int .i64 1048576)]) ⟨rfl, rfl, trivial⟩ ?_
 refine CW.seq (CW.region ?_)
 refine WL.vv rfl rfl (r_move rfl rfl) (by decide) ?_
 refine WL.vv rfl rfl (r_move rfl rfl) (by decide) ?_
 refine WL.c rfl rfl (r_call (args := #[v, .int .i64 1048576]) (by kernel_rfl) rfl rfl rfl) (by decide) (HZ1 w HV.zero) ?_
 rintro _ w1 ⟨_, rfl, ⟨rfl, -⟩, hb1⟩
 have le_w1 := hb1.size
 replace HV := up_keep HV hb1
 replace HB := bt HB hb1
 refine ⟨_, rfl, ?_⟩
 refine WL.vv rfl rfl (r_assign rfl rfl) (by decide) ?_
 refine WL.nil (NX.next ?_)
 refine CW.sub (E' := [(0, v), (3, .int .i64 m0)]) ⟨rfl, rfl, trivial⟩ ?_
 rcases hb0 with hneg | hpos
 ·refine CW.seq (CW.seq (CW.region ?_))
  refine WL.vv rfl rfl (r_move rfl rfl) (by decide) ?_
  refine WL.vv rfl rfl (r_cmpB (b := true) rfl rfl rfl rfl (by simp [cmpI] <;> omega)) (by decide) ?_
  refine WL.nil (NX.next (CW.yes rfl (CW.seq (CW.region ?_))))
  refine WL.vv rfl rfl (r_assign rfl rfl) (by decide) ?_
  exact WL.nil (NX.next (CW.ret (NX.ret (NX.bodyT rfl rfl ⟨rfl, HB⟩))))
 have s0 := q0 (by omega)
 have hl : l.length ≤ 1048576 := (sm_list.1 s0).1
 have hfit := fit_of s0
 have hcnt := cnt_fit hfit (Nat.le_refl _)
 have hcn2 := cnt_fit (l := newE l) (fun e he => hfit e (newE_mem he)) (Nat.le_refl _)
 have hcn3 := cntPs_fit (l := newP l) (fun p hp => newP_at hp) (Nat.le_refl _)
 have hle1 := newE_len l
 have hle2 := newP_len l
 obtain ⟨K1, hK1⟩ : ∃ K1, 1 + cntTo l l.length = K1 := ⟨_, rfl⟩
 obtain ⟨K3, hK3⟩ : ∃ K3, 1 + cntTo (newE l) (newE l).length + cntPs (newP l) (newP l).length = K3 := ⟨_, rfl⟩
 have HHe : ∀ (w : World) (x : Value), R w (fun _ => False) (enc (mkHost 1 (newE l) (newP l))) x → Calls Tryz.prog 12 #[x, .int .i64 1] w fun e w' => e = .returned (.int .i64 (K3 : Int)) ∧ Below w.heap.size w w' := fun w x h => by rw [← hK3]; exact w_heldH 1 (by omega) (by omega) (by omega) h
 clear hz q0
 refine CW.seq (CW.seq (CW.region ?_))
 refine WL.vv rfl rfl (r_move rfl rfl) (by decide) ?_
 refine WL.vv rfl rfl (r_cmpB (b := false) rfl rfl rfl rfl (by simp [cmpI] <;> omega)) (by decide) ?_
 refine WL.nil (NX.next (CW.no rfl (CW.skip (NX.next ?_))))
 refine CW.sub (E' := [(0, v)]) ⟨rfl, trivial⟩ ?_
 refine CW.seq (CW.region ?_)
 refine WL.vv rfl rfl (r_move rfl rfl) (by decide) ?_
 refine WL.c rfl rfl (r_call (args := #[v]) (by kernel_rfl) rfl rfl rfl) (by decide) (f_toEntryS l (sm_list.1 s0).1 (sm_list.1 s0).2 w1 v HV.zero) ?_
 rintro _ w2 ⟨xw2, rfl, hxw2, hb2⟩
 have le_w2 := hb2.size
 replace HV := up_keep HV hb2
 replace HB := bt HB hb2
 have HT1 := hxw2.zero
 clear hxw2
 refine ⟨_, rfl, ?_⟩
 refine WL.c rfl rfl (r_call (args := #[xw2]) (by kernel_rfl) rfl rfl rfl) (by decide) (w_specH hl hfit HT1) ?_
 rintro _ w3 ⟨y0, y1, y2, y3, y4, rfl, hk1, ho1, hb3⟩
 have le_w3 := hb3.size
 replace HV := up_keep HV hb3
 replace HB := bt HB hb3
 replace HT1 := R.keep (Keeps.below hb3 fun _ _ h => h) _ _ HT1
 have HS := R.over hk1
 clear hk1 HT1
 refine ⟨_, rfl, ?_⟩
 refine WL.vv rfl rfl (r_move rfl rfl) (by decide) ?_
 refine WL.vv rfl rfl (r_extract rfl rfl rfl) (by decide) ?_
 refine WL.vv rfl rfl (r_extract rfl rfl rfl) (by decide) ?_
 refine WL.vv rfl rfl (r_alloc rfl iz_H) (by decide) ?_
 refine WL.st rfl rfl rfl rfl (cs := #[y0, y1, y2, y3, y4]) rfl (show RBlk (w3.alloc (.cells zHost 29)) w3.heap.size 29 zHost from RBlk.new w3 _ _) rfl ho1 is_H fun w4 Rw4 Ow4 => ?_
 have hb4 : Below w3.heap.size w3 w4 := below_alloc_one Ow4
 have hsz4 : w3.heap.size < w4.heap.size := Rw4.lt
 replace HV := up_keep HV hb4
 replace HB := bt HB hb4
 replace HS := up_keep HS hb4
 refine WL.vv rfl rfl (r_assign rfl rfl) (by decide) ?_
 refine WL.nil (NX.next ?_)
 refine CW.sub (E' := [(0, v), (4, .pointer (some ⟨w3.heap.size, 0, none⟩)), (5, .bool (newOk l))]) ⟨rfl, rfl, rfl, trivial⟩ ?_
 refine CW.seq (CW.region ?_)
 refine WL.vv rfl rfl (r_move rfl rfl) (by decide) ?_
 refine WL.c rfl rfl (r_call (args := #[v]) (by kernel_rfl) rfl rfl rfl) (by decide) (f_toEntryS l (sm_list.1 s0).1 (sm_list.1 s0).2 w4 v HV.zero) ?_
 rintro _ w5 ⟨xw5, rfl, hxw5, hb5⟩
 have le_w5 := hb5.size
 replace HV := up_keep HV hb5
 replace HB := bt HB hb5
 replace HS := up_keep HS hb5
 replace Rw4 := Rw4.below hb5 Rw4.lt
 have HX0 := nu_of hxw5
 clear hxw5
 refine ⟨_, rfl, ?_⟩
 refine WL.vv rfl rfl (r_assign rfl rfl) (by decide) ?_
 refine WL.nil (NX.next ?_)
 refine CW.sub (E' := [(0, v), (4, .pointer (some ⟨w3.heap.size, 0, none⟩)), (5, .bool (newOk l)), (6, xw5)]) ⟨rfl, rfl, rfl, rfl, trivial⟩ ?_
 refine CW.seq (CW.region ?_)
 refine WL.vv rfl rfl (r_move rfl rfl) (by decide) ?_
 refine WL.c rfl rfl (r_call (args := #[xw5]) (by kernel_rfl) rfl rfl rfl) (by decide) (w_NewHost l hl hfit w5 _ (R.zero HX0)) ?_
 rintro _ w6 ⟨g1, g2, mid, rfl, hk1, hb6⟩
 have le_w6 := hb6.size
 replace HV := up_keep HV hb6
 replace HB := bt HB hb6
 replace HS := up_keep HS hb6
 replace Rw4 := Rw4.below hb6 Rw4.lt
 replace HX0 := nu_keep HX0 hb6
 have HA := hk1
 have hha := HA.le
 have hhl := HA.lm
 have hhm := HA.mh
 clear hk1
 refine ⟨_, rfl, ?_⟩
 refine WL.vv rfl rfl (r_move rfl rfl) (by decide) ?_
 refine WL.vv rfl rfl (r_extract rfl rfl rfl) (by decide) ?_
 refine WL.vv rfl rfl (r_extract rfl rfl rfl) (by decide) ?_
 refine WL.vv rfl rfl (r_alloc rfl iz_H) (by decide) ?_
 refine WL.st rfl rfl rfl rfl (cs := (hostA g1 g2)) rfl (show RBlk (w6.alloc (.cells zHost 29)) w6.heap.size 29 zHost from RBlk.new w6 _ _) rfl HA.one is_H fun w7 Rw7 Ow7 => ?_
 have hb7 : Below w6.heap.size w6 w7 := below_alloc_one Ow7
 have hsz7 : w6.heap.size < w7.heap.size := Rw7.lt
 replace HV := up_keep HV hb7
 replace HB := bt HB hb7
 replace HS := up_keep HS hb7
 replace Rw4 := Rw4.below hb7 Rw4.lt
 replace HX0 := nu_keep HX0 hb7
 replace HA := HA.below hb7
 refine WL.vv rfl rfl (r_assign rfl rfl) (by decide) ?_
 refine WL.nil (NX.next ?_)
 refine CW.sub (E' := [(0, v), (4, .pointer (some ⟨w3.heap.size, 0, none⟩)), (5, .bool (newOk l)), (6, xw5), (7, .pointer (some ⟨w6.heap.size, 0, none⟩)), (8, .bool (newOk l))]) ⟨rfl, rfl, rfl, rfl, rfl, rfl, trivial⟩ ?_
 refine CW.seq (CW.seq (CW.region ?_))
 refine WL.vv rfl rfl (r_loadS rfl rfl Tryz.underlying29 rfl Rw7 is_H) (by decide) ?_
 refine WL.vv rfl rfl (r_loadS rfl rfl Tryz.underlying29 rfl Rw4 is_H) (by decide) ?_
 refine WL.c rfl rfl (r_call (args := #[.agg (hostA g1 g2), .agg #[y0, y1, y2, y3, y4]]) (by kernel_rfl) rfl rfl rfl) (by decide) (w_eqHost HA.data HS) ?_
 rintro _ w8 ⟨rfl, hb8⟩
 have le_w8 := hb8.size
 replace HV := up_keep HV hb8
 replace HB := bt HB hb8
 replace HS := up_keep HS hb8
 replace Rw4 := Rw4.below hb8 Rw4.lt
 replace HX0 := nu_keep HX0 hb8
 replace HA := HA.below hb8
 replace Rw7 := Rw7.below hb8 Rw7.lt
 refine ⟨_, rfl, ?_⟩
 refine WL.vv rfl rfl (r_notB rfl rfl rfl) (by decide) ?_
 refine WL.vv rfl rfl (r_move rfl rfl) (by decide) ?_
 refine WL.vg (b := false) rfl rfl rfl rfl (r_move rfl rfl) (by decide) ?_
 refine WL.vg (b := false) rfl rfl rfl rfl (r_move rfl rfl) (by decide) ?_
 refine WL.vg (b := false) rfl rfl rfl rfl (r_neBB rfl rfl rfl Tryz.underlying4) (by decide) ?_
 refine WL.vv rfl rfl (r_pickF rfl rfl rfl) (by decide) ?_
 refine WL.nil (NX.next (CW.no rfl (CW.skip (NX.next ?_))))
 refine CW.sub (E' := [(0, v), (4, .pointer (some ⟨w3.heap.size, 0, none⟩)), (5, .bool (newOk l)), (6, xw5), (7, .pointer (some ⟨w6.heap.size, 0, none⟩)), (8, .bool (newOk l))]) ⟨rfl, rfl, rfl, rfl, rfl, rfl, trivial⟩ ?_
 refine CW.seq (CW.seq (CW.region ?_))
 refine WL.vv rfl rfl (r_move rfl rfl) (by decide) ?_
 refine WL.vv rfl rfl (r_move rfl rfl) (by decide) ?_
 refine WL.c rfl rfl (r_call (args := #[v]) (by kernel_rfl) rfl rfl rfl) (by decide) (f_toEntryS l (sm_list.1 s0).1 (sm_list.1 s0).2 w8 v HV.zero) ?_
 rintro _ w9 ⟨xw9, rfl, hxw9, hb9⟩
 have le_w9 := hb9.size
 replace HV := up_keep HV hb9
 replace HB := bt HB hb9
 replace HS := up_keep HS hb9
 replace Rw4 := Rw4.below hb9 Rw4.lt
 replace HX0 := nu_keep HX0 hb9
 replace HA := HA.below hb9
 replace Rw7 := Rw7.below hb9 Rw7.lt
 have HY := hxw9.zero
 clear hxw9
 refine ⟨_, rfl, ?_⟩
 refine WL.c rfl rfl (r_call (args := #[xw5, xw9]) (by kernel_rfl) rfl rfl rfl) (by decide) (w_eqEntS HX0 HY) ?_
 rintro _ w10 ⟨rfl, hb10⟩
 have le_w10 := hb10.size
 replace HV := up_keep HV hb10
 replace HB := bt HB hb10
 replace HS := up_keep HS hb10
 replace Rw4 := Rw4.below hb10 Rw4.lt
 replace HX0 := nu_keep HX0 hb10
 replace HA := HA.below hb10
 replace Rw7 := Rw7.below hb10 Rw7.lt
 replace HY := R.keep (Keeps.below hb10 fun _ _ h => h) _ _ HY
 clear HY
 refine ⟨_, rfl, ?_⟩
 refine WL.vv rfl rfl (r_notB rfl rfl rfl) (by decide) ?_
 refine WL.nil (NX.next (CW.no rfl (CW.skip (NX.next ?_))))
 refine CW.sub (E' := [(0, v), (4, .pointer (some ⟨w3.heap.size, 0, none⟩)), (5, .bool (newOk l)), (6, xw5), (7, .pointer (some ⟨w6.heap.size, 0, none⟩)), (8, .bool (newOk l))]) ⟨rfl, rfl, rfl, rfl, rfl, rfl, trivial⟩ ?_
 refine CW.seq (CW.region ?_)
 refine WL.vv rfl rfl (r_assign rfl rfl) (by decide) ?_
 refine WL.nil (NX.next ?_)
 refine CW.sub (E' := [(0, v), (4, .pointer (some ⟨w3.heap.size, 0, none⟩)), (5, .bool (newOk l)), (6, xw5), (7, .pointer (some ⟨w6.heap.size, 0, none⟩)), (8, .bool (newOk l)), (9, .int .i64 1)]) ⟨rfl, rfl, rfl, rfl, rfl, rfl, rfl, trivial⟩ ?_
 refine CW.seq (CW.region ?_)
 refine WL.vv rfl rfl (r_move rfl rfl) (by decide) ?_
 refine WL.vv rfl rfl (r_move rfl rfl) (by decide) ?_
 have hm := m_EntryS l 1 w10 (NU w10 w4.heap.size w5.heap.size) _ HX0 (fun p hp => .inl (.inr hp)) (by omega) (by omega)
 rw [hK1] at hm
 clear HX0
 refine WL.c rfl rfl (r_call (args := #[xw5, .int .i64 1]) (by kernel_rfl) rfl rfl rfl) (by decide) (hm) ?_
 rintro _ w11 ⟨rfl, ha⟩
 have hA : ∀ p : Addr, ¬ NU w10 w4.heap.size w5.heap.size p → w4.heap.size ≤ p.block ∧ p.block < w5.heap.size := fun p hp => nu_blk hp
 have le_w11 := ha.size
 replace HV := up_alt HV ha fun p hp => by have := hA p hp; omega
 replace HB := below_on HB (ha.to_below (by omega) fun p hp => by have := hA p hp; omega)
 replace HS := up_alt HS ha fun p hp => by have := hA p hp; omega
 replace Rw4 := Rw4.alt ha fun p hp e => by have := hA p hp; omega
 replace HA := HA.alt ha fun p hp => by have := hA p hp; omega
 replace Rw7 := Rw7.alt ha fun p hp e => by have := hA p hp; omega
 clear ha hA hm
 refine ⟨_, rfl, ?_⟩
 refine WL.vv rfl rfl (r_assign rfl rfl) (by decide) ?_
 refine WL.nil (NX.next ?_)
 refine CW.sub (E' := [(0, v), (4, .pointer (some ⟨w3.heap.size, 0, none⟩)), (5, .bool (newOk l)), (7, .pointer (some ⟨w6.heap.size, 0, none⟩)), (8, .bool (newOk l)), (9, .int .i64 (K1 : Nat))]) ⟨rfl, rfl, rfl, rfl, rfl, rfl, trivial⟩ ?_
 refine CW.seq (CW.seq (CW.region ?_))
 refine WL.vv rfl rfl (r_move rfl rfl) (by decide) ?_
 refine WL.vv rfl rfl (r_cmpB (b := false) rfl rfl rfl rfl (by simp [cmpI] <;> omega)) (by decide) ?_
 refine WL.vv rfl rfl (r_move rfl rfl) (by decide) ?_
 refine WL.vg (b := false) rfl rfl rfl rfl (r_loadS rfl rfl Tryz.underlying29 rfl Rw7 is_H) (by decide) ?_
 refine WL.vg (b := false) rfl rfl rfl rfl (r_loadS rfl rfl Tryz.underlying29 rfl Rw4 is_H) (by decide) ?_
 refine WL.cg (b := false) rfl rfl rfl rfl (r_call (args := #[.agg (hostA g1 g2), .agg #[y0, y1, y2, y3, y4]]) (by kernel_rfl) rfl rfl rfl) (by decide) (w_eqHost HA.data HS) ?_
 rintro _ w12 ⟨rfl, hb12⟩
 have le_w12 := hb12.size
 replace HV := up_keep HV hb12
 replace HB := bt HB hb12
 replace HS := up_keep HS hb12
 replace Rw4 := Rw4.below hb12 Rw4.lt
 replace HA := HA.below hb12
 replace Rw7 := Rw7.below hb12 Rw7.lt
 refine ⟨_, rfl, ?_⟩
 refine WL.vg (b := false) rfl rfl rfl rfl (r_notB rfl rfl rfl) (by decide) ?_
 refine WL.vv rfl rfl (r_pickF rfl rfl rfl) (by decide) ?_
 refine WL.vv rfl rfl (r_move rfl rfl) (by decide) ?_
 refine WL.vg (b := false) rfl rfl rfl rfl (r_move rfl rfl) (by decide) ?_
 refine WL.vg (b := false) rfl rfl rfl rfl (r_move rfl rfl) (by decide) ?_
 refine WL.vg (b := false) rfl rfl rfl rfl (r_neBB rfl rfl rfl Tryz.underlying4) (by decide) ?_
 refine WL.vv rfl rfl (r_pickF rfl rfl rfl) (by decide) ?_
 refine WL.nil (NX.next (CW.no rfl (CW.skip (NX.next ?_))))
 refine CW.sub (E' := [(0, v), (4, .pointer (some ⟨w3.heap.size, 0, none⟩)), (5, .bool (newOk l)), (7, .pointer (some ⟨w6.heap.size, 0, none⟩))]) ⟨rfl, rfl, rfl, rfl, trivial⟩ ?_
 refine CW.seq (CW.region ?_)
 refine WL.vv rfl rfl (r_assign rfl rfl) (by decide) ?_
 refine WL.nil (NX.next ?_)
 refine CW.sub (E' := [(0, v), (4, .pointer (some ⟨w3.heap.size, 0, none⟩)), (5, .bool (newOk l)), (7, .pointer (some ⟨w6.heap.size, 0, none⟩)), (10, .int .i64 1)]) ⟨rfl, rfl, rfl, rfl, rfl, trivial⟩ ?_
 refine CW.seq (CW.region ?_)
 refine WL.vv rfl rfl (r_loadS rfl rfl Tryz.underlying29 rfl Rw7 is_H) (by decide) ?_
 refine WL.vv rfl rfl (r_move rfl rfl) (by decide) ?_
 have hm := HA.mark 1 (by omega) (by omega) (by omega)
 rw [hK3] at hm
 clear HA
 refine WL.c rfl rfl (r_call (args := #[.agg (hostA g1 g2), .int .i64 1]) (by kernel_rfl) rfl rfl rfl) (by decide) (hm) ?_
 rintro _ w13 ⟨rfl, ha, hr⟩
 have hA : ∀ p : Addr, w5.heap.size ≤ p.block ∧ p.block < w6.heap.size → w5.heap.size ≤ p.block ∧ p.block < w6.heap.size := fun p hp => hp
 have le_w13 := ha.size
 replace HV := up_alt HV ha fun p hp => by have := hA p hp; omega
 replace HB := below_on HB (ha.to_below (by omega) fun p hp => by have := hA p hp; omega)
 replace HS := up_alt HS ha fun p hp => by have := hA p hp; omega
 replace Rw4 := Rw4.alt ha fun p hp e => by have := hA p hp; omega
 replace Rw7 := Rw7.alt ha fun p hp e => by have := hA p hp; omega
 have HM := hr
 clear ha hA hm hr
 refine ⟨_, rfl, ?_⟩
 refine WL.vv rfl rfl (r_assign rfl rfl) (by decide) ?_
 refine WL.nil (NX.next ?_)
 refine CW.sub (E' := [(0, v), (4, .pointer (some ⟨w3.heap.size, 0, none⟩)), (5, .bool (newOk l)), (7, .pointer (some ⟨w6.heap.size, 0, none⟩)), (10, .int .i64 (K3 : Nat))]) ⟨rfl, rfl, rfl, rfl, rfl, trivial⟩ ?_
 refine CW.seq (CW.region ?_)
 refine WL.vv rfl rfl (r_assign rfl rfl) (by decide) ?_
 refine WL.nil (NX.next ?_)
 refine CW.sub (E' := [(0, v), (4, .pointer (some ⟨w3.heap.size, 0, none⟩)), (5, .bool (newOk l)), (7, .pointer (some ⟨w6.heap.size, 0, none⟩)), (10, .int .i64 (K3 : Nat)), (11, .int .i64 1)]) ⟨rfl, rfl, rfl, rfl, rfl, rfl, trivial⟩ ?_
 refine CW.seq (CW.region ?_)
 refine WL.vv rfl rfl (r_loadS rfl rfl Tryz.underlying29 rfl Rw7 is_H) (by decide) ?_
 refine WL.vv rfl rfl (r_move rfl rfl) (by decide) ?_
 refine WL.c rfl rfl (r_call (args := #[.agg (hostA g1 g2), .int .i64 1]) (by kernel_rfl) rfl rfl rfl) (by decide) (HHe w13 _ HM) ?_
 rintro _ w14 ⟨rfl, hb14⟩
 have le_w14 := hb14.size
 replace HV := up_keep HV hb14
 replace HB := bt HB hb14
 replace HS := up_keep HS hb14
 replace Rw4 := Rw4.below hb14 Rw4.lt
 replace Rw7 := Rw7.below hb14 Rw7.lt
 replace HM := R.keep (Keeps.below hb14 fun _ _ h => h) _ _ HM
 refine ⟨_, rfl, ?_⟩
 refine WL.vv rfl rfl (r_assign rfl rfl) (by decide) ?_
 refine WL.nil (NX.next ?_)
 refine CW.sub (E' := [(0, v), (4, .pointer (some ⟨w3.heap.size, 0, none⟩)), (5, .bool (newOk l)), (7, .pointer (some ⟨w6.heap.size, 0, none⟩)), (10, .int .i64 (K3 : Nat)), (11, .int .i64 (K3 : Nat))]) ⟨rfl, rfl, rfl, rfl, rfl, rfl, trivial⟩ ?_
 refine CW.seq (CW.seq (CW.region ?_))
 refine WL.vv rfl rfl (r_move rfl rfl) (by decide) ?_
 refine WL.vv rfl rfl (r_cmpB (b := false) rfl rfl rfl rfl (by simp [cmpI] <;> omega)) (by decide) ?_
 refine WL.nil (NX.next (CW.no rfl (CW.skip (NX.next ?_))))
 refine CW.sub (E' := [(0, v), (4, .pointer (some ⟨w3.heap.size, 0, none⟩)), (5, .bool (newOk l)), (7, .pointer (some ⟨w6.heap.size, 0, none⟩)), (10, .int .i64 (K3 : Nat)), (11, .int .i64 (K3 : Nat))]) ⟨rfl, rfl, rfl, rfl, rfl, rfl, trivial⟩ ?_
 refine CW.seq (CW.seq (CW.region ?_))
 refine WL.vv rfl rfl (r_move rfl rfl) (by decide) ?_
 refine WL.vv rfl rfl (r_move rfl rfl) (by decide) ?_
 refine WL.vv rfl rfl (r_cmpB (b := false) rfl rfl rfl rfl (by simp [cmpI])) (by decide) ?_
 refine WL.nil (NX.next (CW.no rfl (CW.skip (NX.next ?_))))
 refine CW.sub (E' := [(0, v), (4, .pointer (some ⟨w3.heap.size, 0, none⟩)), (5, .bool (newOk l)), (7, .pointer (some ⟨w6.heap.size, 0, none⟩)), (10, .int .i64 (K3 : Nat)), (11, .int .i64 (K3 : Nat))]) ⟨rfl, rfl, rfl, rfl, rfl, rfl, trivial⟩ ?_
 refine CW.seq (CW.region ?_)
 refine WL.vv rfl rfl (r_move rfl rfl) (by decide) ?_
 refine WL.c rfl rfl (r_call (args := #[v]) (by kernel_rfl) rfl rfl rfl) (by decide) (f_toEntryS l (sm_list.1 s0).1 (sm_list.1 s0).2 w14 v HV.zero) ?_
 rintro _ w15 ⟨xw15, rfl, hxw15, hb15⟩
 have le_w15 := hb15.size
 replace HV := up_keep HV hb15
 replace HB := bt HB hb15
 replace HS := up_keep HS hb15
 replace Rw4 := Rw4.below hb15 Rw4.lt
 replace Rw7 := Rw7.below hb15 Rw7.lt
 replace HM := R.keep (Keeps.below hb15 fun _ _ h => h) _ _ HM
 have HT2 := hxw15.zero
 clear hxw15
 refine ⟨_, rfl, ?_⟩
 refine WL.c rfl rfl (r_call (args := #[xw15]) (by kernel_rfl) rfl rfl rfl) (by decide) (w_NewHost l hl hfit w15 _ HT2) ?_
 rintro _ w16 ⟨j1, j2, mid2, rfl, hk1, hb16⟩
 have le_w16 := hb16.size
 replace HV := up_keep HV hb16
 replace HB := bt HB hb16
 replace HS := up_keep HS hb16
 replace Rw4 := Rw4.below hb16 Rw4.lt
 replace Rw7 := Rw7.below hb16 Rw7.lt
 replace HM := R.keep (Keeps.below hb16 fun _ _ h => h) _ _ HM
 replace HT2 := R.keep (Keeps.below hb16 fun _ _ h => h) _ _ HT2
 have HH := hk1
 clear hk1 HT2
 refine ⟨_, rfl, ?_⟩
 refine WL.vv rfl rfl (r_move rfl rfl) (by decide) ?_
 refine WL.vv rfl rfl (r_extract rfl rfl rfl) (by decide) ?_
 refine WL.vv rfl rfl (r_extract rfl rfl rfl) (by decide) ?_
 refine WL.vv rfl rfl (r_alloc rfl iz_H) (by decide) ?_
 refine WL.st rfl rfl rfl rfl (cs := (hostA j1 j2)) rfl (show RBlk (w16.alloc (.cells zHost 29)) w16.heap.size 29 zHost from RBlk.new w16 _ _) rfl HH.one is_H fun w17 Rw17 Ow17 => ?_
 have hb17 : Below w16.heap.size w16 w17 := below_alloc_one Ow17
 have hsz17 : w16.heap.size < w17.heap.size := Rw17.lt
 replace HV := up_keep HV hb17
 replace HB := bt HB hb17
 replace HS := up_keep HS hb17
 replace Rw4 := Rw4.below hb17 Rw4.lt
 replace Rw7 := Rw7.below hb17 Rw7.lt
 replace HM := R.keep (Keeps.below hb17 fun _ _ h => h) _ _ HM
 replace HH := HH.below hb17
 refine WL.vv rfl rfl (r_assign rfl rfl) (by decide) ?_
 refine WL.nil (NX.next ?_)
 refine CW.sub (E' := [(4, .pointer (some ⟨w3.heap.size, 0, none⟩)), (5, .bool (newOk l)), (7, .pointer (some ⟨w6.heap.size, 0, none⟩)), (10, .int .i64 (K3 : Nat)), (11, .int .i64 (K3 : Nat)), (12, .pointer (some ⟨w16.heap.size, 0, none⟩)), (13, .bool (newOk l))]) ⟨rfl, rfl, rfl, rfl, rfl, rfl, rfl, trivial⟩ ?_
 refine CW.seq (CW.seq (CW.region ?_))
 refine WL.vv rfl rfl (r_loadS rfl rfl Tryz.underlying29 rfl Rw17 is_H) (by decide) ?_
 refine WL.vv rfl rfl (r_loadS rfl rfl Tryz.underlying29 rfl Rw4 is_H) (by decide) ?_
 refine WL.c rfl rfl (r_call (args := #[.agg (hostA j1 j2), .agg #[y0, y1, y2, y3, y4]]) (by kernel_rfl) rfl rfl rfl) (by decide) (w_eqHost HH.data HS) ?_
 rintro _ w18 ⟨rfl, hb18⟩
 have le_w18 := hb18.size
 replace HV := up_keep HV hb18
 replace HB := bt HB hb18
 replace HS := up_keep HS hb18
 replace Rw4 := Rw4.below hb18 Rw4.lt
 replace Rw7 := Rw7.below hb18 Rw7.lt
 replace HM := R.keep (Keeps.below hb18 fun _ _ h => h) _ _ HM
 replace HH := HH.below hb18
 replace Rw17 := Rw17.below hb18 Rw17.lt
 refine ⟨_, rfl, ?_⟩
 refine WL.vv rfl rfl (r_notB rfl rfl rfl) (by decide) ?_
 refine WL.vv rfl rfl (r_move rfl rfl) (by decide) ?_
 refine WL.vg (b := false) rfl rfl rfl rfl (r_move rfl rfl) (by decide) ?_
 refine WL.vg (b := false) rfl rfl rfl rfl (r_move rfl rfl) (by decide) ?_
 refine WL.vg (b := false) rfl rfl rfl rfl (r_neBB rfl rfl rfl Tryz.underlying4) (by decide) ?_
 refine WL.vv rfl rfl (r_pickF rfl rfl rfl) (by decide) ?_
 refine WL.nil (NX.next (CW.no rfl (CW.skip (NX.next ?_))))
 refine CW.sub (E' := [(7, .pointer (some ⟨w6.heap.size, 0, none⟩)), (10, .int .i64 (K3 : Nat)), (11, .int .i64 (K3 : Nat))]) ⟨rfl, rfl, rfl, trivial⟩ ?_
 refine CW.seq (CW.region ?_)
 refine WL.vv rfl rfl (r_assign rfl rfl) (by decide) ?_
 refine WL.nil (NX.next ?_)
 refine CW.sub (E' := [(7, .pointer (some ⟨w6.heap.size, 0, none⟩)), (10, .int .i64 (K3 : Nat)), (11, .int .i64 1)]) ⟨rfl, rfl, rfl, trivial⟩ ?_
 refine CW.seq (CW.region ?_)
 refine WL.vv rfl rfl (r_loadS rfl rfl Tryz.underlying29 rfl Rw7 is_H) (by decide) ?_
 refine WL.vv rfl rfl (r_move rfl rfl) (by decide) ?_
 refine WL.c rfl rfl (r_call (args := #[.agg (hostA g1 g2), .int .i64 1]) (by kernel_rfl) rfl rfl rfl) (by decide) (HHe w18 _ HM) ?_
 rintro _ w19 ⟨rfl, hb19⟩
 have le_w19 := hb19.size
 replace HV := up_keep HV hb19
 replace HB := bt HB hb19
 replace HS := up_keep HS hb19
 replace Rw4 := Rw4.below hb19 Rw4.lt
 replace Rw7 := Rw7.below hb19 Rw7.lt
 replace HM := R.keep (Keeps.below hb19 fun _ _ h => h) _ _ HM
 replace HH := HH.below hb19
 replace Rw17 := Rw17.below hb19 Rw17.lt
 refine ⟨_, rfl, ?_⟩
 refine WL.vv rfl rfl (r_assign rfl rfl) (by decide) ?_
 refine WL.nil (NX.next ?_)
 refine CW.sub (E' := [(10, .int .i64 (K3 : Nat)), (11, .int .i64 (K3 : Nat))]) ⟨rfl, rfl, trivial⟩ ?_
 refine CW.seq (CW.seq (CW.region ?_))
 refine WL.vv rfl rfl (r_move rfl rfl) (by decide) ?_
 refine WL.vv rfl rfl (r_cmpB (b := false) rfl rfl rfl rfl (by simp [cmpI] <;> omega)) (by decide) ?_
 refine WL.nil (NX.next (CW.no rfl (CW.skip (NX.next ?_))))
 refine CW.sub (E' := [(10, .int .i64 (K3 : Nat)), (11, .int .i64 (K3 : Nat))]) ⟨rfl, rfl, trivial⟩ ?_
 refine CW.seq (CW.seq (CW.region ?_))
 refine WL.vv rfl rfl (r_move rfl rfl) (by decide) ?_
 refine WL.vv rfl rfl (r_move rfl rfl) (by decide) ?_
 refine WL.vv rfl rfl (r_cmpB (b := false) rfl rfl rfl rfl (by simp [cmpI])) (by decide) ?_
 refine WL.nil (NX.next (CW.no rfl (CW.skip (NX.next ?_))))
 refine CW.sub (E' := []) trivial ?_
 refine CW.seq (CW.region ?_)
 refine WL.vv rfl rfl (r_assign rfl rfl) (by decide) ?_
 refine WL.nil (NX.next (CW.ret ?_))
 exact NX.bodyT rfl rfl ⟨rfl, HB⟩
theorem main (ds : List D) (h : HasTys tbl.tab ty_laws_FnExactNewHost ds) : Fun Tryz.prog 3 none ds (.bool true) [] := by
 obtain ⟨l, rfl⟩ : ∃ (l : List Entry), ds = [encS l] := by
  match ds, h with
  | [d0], h =>
   obtain ⟨l, rfl⟩ := decS_laws_Entry (h.1)
   exact ⟨l, rfl⟩
 refine Fun.of_callsG (by kernel_rfl) fun w M vs hG hr => ?_
 obtain ⟨v, q, rfl, hv, rfl⟩ := hr
 refine (walk l w v hv.zero).mono ?_
 rintro e w' ⟨rfl, hb⟩
 exact ⟨_, rfl, rfl, hb⟩

set_option maxRecDepth 100000
theorem jf_wf : (Rows.fnExactNewHostRow.wf (OpenSpec.ofChange Rows.fnExactNewHostSpec)) = true := by kernel_rfl
theorem jf_reads : (Tryz.f3.params.all (Tryz.prog.readableRec ·)) = true := by kernel_rfl
theorem jf_tie : (namedTie Tryz.prog Rows.fnExactNewHostRow.named Rows.fnExactNewHostSpec.vars) = true := by kernel_rfl
theorem jf_inPl : ((Rows.fnExactNewHostRow.inPlace == Tryz.prog.inPlace 3)) = true := by kernel_rfl
theorem jf_unfol : ((Rows.fnExactNewHostRow.unfollowed == Tryz.prog.unfollowed 3)) = true := by kernel_rfl
theorem jf_recur : ((Rows.fnExactNewHostRow.recurses == Tryz.prog.recurses 3)) = true := by kernel_rfl
theorem jf_varsN : ((Rows.fnExactNewHostRow.named == Tryz.prog.varsNamed 3)) = true := by kernel_rfl
theorem jf_maps : ((Rows.fnExactNewHostRow.maps == (Tryz.f3.params.toList ++ Rows.fnExactNewHostSpec.plain.varTypes Tryz.prog).any (Tryz.prog.mapsRec ·))) = true := by kernel_rfl
theorem jf_ifaces : ((Rows.fnExactNewHostRow.ifaces == (Tryz.f3.params.toList ++ Rows.fnExactNewHostSpec.plain.varTypes Tryz.prog).any (Tryz.prog.ifacesRec ·))) = true := by kernel_rfl
theorem jf_mapsO : ((Rows.fnExactNewHostRow.mapsOut == Tryz.prog.mapsAmong Tryz.f3.resultTypes.toList)) = true := by kernel_rfl
theorem jf_loops : ((Rows.fnExactNewHostRow.loops == (Tryz.f3.params.toList ++ Rows.fnExactNewHostSpec.plain.varTypes Tryz.prog).any (Tryz.prog.loopsFrom ·))) = true := by kernel_rfl
theorem jf_wide : ((Rows.fnExactNewHostRow.wideKeys == (Tryz.f3.params.toList ++ Rows.fnExactNewHostSpec.plain.varTypes Tryz.prog ++ Tryz.f3.resultTypes.toList).any (Tryz.prog.wideKeysFrom ·))) = true := by kernel_rfl
theorem jf_varR : (Rows.fnExactNewHostSpec.vars.all (Tryz.prog.varReadable ·)) = true := by kernel_rfl
theorem jf_resT : (Tryz.f3.resultTypes.all (fun t => Tryz.prog.readableRec t && decide (t < Tryz.prog.types.size))) = true := by kernel_rfl
theorem jf_ifO : ((Rows.fnExactNewHostRow.ifacesOut == Tryz.f3.resultTypes.toList.any (Tryz.prog.ifacesRec ·))) = true := by kernel_rfl
theorem jf_loO : ((Rows.fnExactNewHostRow.loopsOut == Tryz.f3.resultTypes.toList.any (Tryz.prog.loopsFrom ·))) = true := by kernel_rfl
theorem jf_kinds : ((Rows.fnExactNewHostRow.kinds == (if Rows.fnExactNewHostRow.domain.isEmpty then [] else Tryz.f3.params.toList.map fun t => match Tryz.prog.underlying t with | some (.int k) => some k | _ => none))) = true := by kernel_rfl
theorem jf_veil : ((Rows.fnExactNewHostRow.veiled == (Tryz.f3.params.toList ++ Rows.fnExactNewHostSpec.plain.varTypes Tryz.prog ++ Tryz.f3.resultTypes.toList).any (Tryz.prog.veiledRec ·))) = true := by kernel_rfl
theorem jf_veilF : (Rows.fnExactNewHostRow.veiledFits Tryz.prog Tryz.f3.params.toList (Tryz.f3.params.toList ++ Rows.fnExactNewHostSpec.plain.varTypes Tryz.prog ++ Tryz.f3.resultTypes.toList)) = true := by kernel_rfl
theorem closed : joinedFacts Tryz.prog 3 Tryz.f3 Rows.fnExactNewHostSpec Rows.fnExactNewHostRow = true :=
 (and_tt (and_tt (and_tt (and_tt (and_tt (and_tt (and_tt (and_tt (and_tt (and_tt (and_tt (and_tt (and_tt (and_tt (and_tt (and_tt (and_tt (and_tt (and_tt (and_tt (and_tt (and_tt (and_tt (and_tt (and_tt (and_tt (and_tt (and_tt (and_tt (and_tt (and_tt jf_wf jfLaid) jfRowed) jf_reads) jf_tie) rfl) jfStops) rfl) jfKnobs) jf_inPl) jf_unfol) jf_recur) jf_varsN) jf_maps) jf_ifaces) jf_mapsO) jf_loops) jf_wide) jf_varR) jf_resT) jf_ifO) jf_loO) jfKeys) rfl) jfHeard) jfEnter) jfLifted) jfMake) jf_kinds) rfl) jf_veil) jf_veilF)
set_option maxRecDepth 100000 in
theorem lifted (os : Os) (started : os.Started) (H : Type) (enc : TypeId × Value → H) :
  ReturnsInHanded {} Tryz.checked os 3 .any (Rows.fnExactNewHostSpec.pre6 enc Tryz.prog Tryz.f3 Rows.fnExactNewHostRow.domain false) (Rows.fnExactNewHostSpec.post enc Tryz.prog Tryz.f3 false true false false) := by
 refine returnsInHanded_of_change (C := Tryz.checked) jfOwn started (by kernel_rfl) Tryz.func3
  (ChangeSpec.witness6 (enc := enc) (C := Tryz.checked) false ⟨#[], #[.slice none 0 0], []⟩ 8 (by kernel_rfl) (by kernel_rfl) (by kernel_rfl) (by kernel_rfl)) ?_
 intro W base args ds gs before hval0 hW hcnd _
 have hval : ∀ (j : Nat) t v, Tryz.f3.params[j]? = some t → args[j]? = some v → Value.okWide Tryz.prog W .any base t v := hval0
 have hW' := hW
 obtain ⟨p, q, hA0, hV, rfl, hfz, hnd⟩ := hW
 have hA : DataW.TrodAll enc Tryz.prog W 0 (fun _ => true) true Tryz.f3.params.toList args.toList ds p := hA0
 rw [Tryz.params3] at hA hval
 obtain ⟨v0, vs0, d0, ds0, p0, q0, hargs, rfl, rfl, h0, r0⟩ := trodAll_cons hA
 obtain ⟨rfl, rfl, rfl⟩ := trodAll_nil r0
 obtain rfl : args = #[v0] := by cases args; simp_all
 obtain ⟨rfl, rfl⟩ := trodVars_none hV
 have k0 := h0
 have lt0 : ∀ x ∈ p0, x.block < W.heap.size := by obtain ⟨m, hm⟩ := k0; exact DataW.trod_lt m _ _ _ hm
 obtain ⟨x0, y0, z0⟩ := open_arg tbl_ok (by kernel_rfl) (hval 0 22 v0 rfl rfl) h0
 clear hA0 hval0
 refine ((law_run (main [x0] ⟨y0, trivial⟩) ⟨fun p hp => hp.elim, trivial, Nat.zero_le _⟩ (show Rs W M0 [x0] [v0] from ⟨_, _, rfl, z0, rfl⟩))).mono fun e W' ⟨he, bel⟩ => ?_
 subst he
 exact ⟨_, rfl, _, _, _, [], _, [], hW', trodAll_mk1 (shut_bool Tryz.underlying4 _), (trodAll_cons_mk (Below.trod jfLaid (by kernel_rfl) (of_decide_eq_true (by kernel_rfl)) k0 bel lt0) trodAll_mk0), rfl, bel.frame _, fun h => by cases h⟩
theorem over : Rows.fnExactNewHostRow.holds Tryz.pinned (OpenSpec.ofChange Rows.fnExactNewHostSpec) :=
 OpenClaim.holds_of_wide 3 Tryz.f3 rfl rfl rfl rfl rfl rfl rfl ⟨rfl, rfl, rfl, rfl, rfl⟩ rfl rfl rfl rfl rfl (by kernel_rfl) Tryz.func3 closed
  (of_decide_eq_true (by kernel_rfl)) (by unfold Func.isWrapper; first | (rw [if_pos (by decide +kernel)]; kernel_rfl) | (rw [if_neg (by decide +kernel)]; exact ⟨rfl, rfl⟩))
  (fun os started H enc _ => lifted os started H enc)
theorem proved : Rows.FnExactNewHostSaid := over
#print axioms proved
end Go.Proofs.YtimickglpboilaaGreat.lawFnExactNewHost
