/- FnExactStuckOf holds for every input: the law walked over the contracts of what it calls, with marks written into the argument's copy and into the answer, and the row. No condition. -/
import Derived.Test.YthoafgehfgblaaaBFresh
import Derived.Test.YthoafgehfgblaaaBSpecN
import Derived.Test.YthoafgehfgblaaaAOpen
namespace Go.Proofs.Ythoafgehfgblaaa.lawFnExactStuckOf
open Go.ChangeShapes Go.WideShapes Go.ChangeAt Go.RowKit Go
set_option linter.unusedVariables false
set_option linter.unusedSimpArgs false
set_option maxRecDepth 100000
theorem cnt_le {l : List Entry} (h : Sm.sm l) : ∀ {i : Nat}, i ≤ l.length → cntTo l i ≤ i * 8388608
  | 0, _ => by simp [cntTo]
  | i + 1, hi => by
    have h1 := cnt_le h (i := i) (by omega)
    have h2 := (sm_list.1 h).2 i (by omega)
    have h3 : (nth l i).recipe.length ≤ 1048576 := (sm_list.1 (h2.2.1)).1
    have h4 : (nth l i).needs.length ≤ 1048576 := (sm_list.1 (h2.2.2)).1
    simp only [cntTo, cntE]
    rw [Nat.add_mul]
    omega
theorem walk (l : List Entry) (w : World) (v : Value) (hv : R w (fun _ => False) (encS l) v) :
    Calls Try.prog 14 #[v] w fun e w' => e = .returned (.bool true) ∧ Below w.heap.size w w' := by
  obtain ⟨_, ⟨m0, rfl, _, p0, q0⟩, hz⟩ := z_EntryS l 1048576 (by omega) (by omega)
  have hb0 : m0 < 0 ∨ 0 ≤ m0 := by omega
  have HV := Lib.hid (R.over hv)
  have HZ := Lib.hid (Fun.calls hz (rdy0 w) (vs := [v, .int .i64 1048576]) ⟨_, _, rfl, hv, _, [], rfl, int_ok (by omega) (by omega), rfl⟩)
  rcases hb0 with hneg | hpos
  · go_enter Try.func14, Try.ntmps14
    go_wp2_with fail
    refine HZ.out.mono ?_
    rintro e w1 ⟨v1, rfl, ⟨rfl, -⟩, hb1⟩
    go_wp2
    go_ret
    exact ⟨rfl, hb1⟩
  have s0 := q0 (by simpa using hpos)
  have hl20 : l.length ≤ 1048576 := (sm_list.1 s0).1
  have hcnt := cnt_le s0 (Nat.le_refl _)
  have hal : (stuckN l).length ≤ 1048576 := by
    unfold stuckN
    split
    · exact Nat.le_trans (names_len l _) hl20
    · simp
  have hmpos : ¬ m0 < 0 := by omega
  generalize hans : stuckN l = ans at hal
  have cTo : ∀ (w0 : World), R w0 (fun _ => False) (encS l) v → Calls Try.prog 38 #[v] w0 fun e w' => ∃ v', e = .returned v' ∧ R w' (NF w' w0.heap.size) (encS l) v' ∧ Below w0.heap.size w0 w' := fun w0 h => f_toEntryS l (sm_list.1 s0).1 (sm_list.1 s0).2 w0 v h
  have cSp : ∀ (w0 : World) (x : Value), R w0 (fun _ => False) (encS l) x → Calls Try.prog 35 #[x] w0 fun e w' => ∃ v', e = .returned v' ∧ R w' (fun _ => False) (encS ans) v' ∧ Below w0.heap.size w0 w' := fun w0 x h => by
    rw [← hans]
    exact Fun.calls (.ofR (c_spec_StuckOf l)) (rdy0 w0) (vs := [x]) ⟨_, [], rfl, h, rfl⟩
  have cIm : ∀ (w0 : World) (x : Value), R w0 (fun _ => False) (encS l) x → Calls Try.prog 32 #[x] w0 fun e w' => ∃ v', e = .returned v' ∧ R w' (NF w' w0.heap.size) (encS ans) v' ∧ Below w0.heap.size w0 w' := fun w0 x h => by
    rw [← hans]
    exact fresh_calls (c_impl_StuckOf l hl20) (str_flat _).1 (str_flat _).2 (vs := [x]) ⟨_, [], rfl, h, rfl⟩
  have cEq : ∀ (w0 : World) (x y : Value), R w0 (fun _ => False) (encS ans) x → R w0 (fun _ => False) (encS ans) y → Calls Try.prog 39 #[x, y] w0 fun e w' => e = .returned (.bool true) ∧ Below w0.heap.size w0 w' := fun w0 x y h h' => by
    refine (Fun.calls (c_laws_eqStringS ans ans) (rdy0 w0) (vs := [x, y]) ⟨_, _, rfl, h, _, [], rfl, h', rfl⟩).mono ?_
    rintro e w' ⟨u, rfl, hu, hb⟩
    have hu : u = .bool (decide (ans = ans)) := hu
    rw [hu]
    exact ⟨by simp, hb⟩
  have cEe : ∀ (w0 : World) (x y : Value), R w0 (fun _ => False) (encS l) x → R w0 (fun _ => False) (encS l) y → Calls Try.prog 40 #[x, y] w0 fun e w' => e = .returned (.bool true) ∧ Below w0.heap.size w0 w' := fun w0 x y h h' => by
    refine (Fun.calls (c_laws_eqEntryS l l) (rdy0 w0) (vs := [x, y]) ⟨_, _, rfl, h, _, [], rfl, h', rfl⟩).mono ?_
    rintro e w' ⟨u, rfl, hu, hb⟩
    have hu : u = .bool (decide (l = l)) := hu
    rw [hu]
    exact ⟨by simp, hb⟩
  have HTo := Lib.hid cTo
  have HSp := Lib.hid cSp
  have HIm := Lib.hid cIm
  have HEq := Lib.hid cEq
  have HEe := Lib.hid cEe
  have HC := Lib.hid hcnt
  have HL := Lib.hid hal
  clear cTo cSp cIm cEq cEe hcnt hal hv
  obtain ⟨K1, hK1⟩ : ∃ K1, 1 + cntTo l l.length = K1 := ⟨_, rfl⟩
  obtain ⟨K2, hK2⟩ : ∃ K2, 1 + ans.length = K2 := ⟨_, rfl⟩
  have hK2p : 0 ≤ (K2 : Int) := by omega
  have hK2n : ¬ ((K2 : Int) < 0) := by omega
  have hK1p : 0 ≤ (K1 : Int) := by omega
  have hK1n : ¬ ((K1 : Int) < 0) := by omega
  have HK1 := Lib.hid hK1
  have HK2 := Lib.hid hK2
  clear hK1 hK2
  go_enter Try.func14, Try.ntmps14
  go_wp2_with fail
  refine HZ.out.mono ?_
  rintro e w1 ⟨v1, rfl, ⟨rfl, -⟩, hb1⟩
  have HV1 := Lib.hid (up_keep HV.out hb1)
  have HB1 := Lib.hid hb1
  clear hb1
  -- the reference's answer
  go_wp2_with fail
  refine (HTo.out _ HV1.out.zero).mono ?_
  rintro e w2 ⟨x2, rfl, hx2, hb2⟩
  have HX2 := Lib.hid hx2.zero
  have HV2 := Lib.hid (up_keep HV1.out hb2)
  have HB2 := Lib.hid (bt HB1.out hb2)
  clear hx2 hb2
  go_wp2_with fail
  refine (HSp.out _ _ HX2.out).mono ?_
  rintro e w3 ⟨g3, rfl, hg3, hb3⟩
  have HG3 := Lib.hid hg3.over
  have HV3 := Lib.hid (up_keep HV2.out hb3)
  have HB3 := Lib.hid (bt HB2.out hb3)
  clear hg3 hb3
  -- the copy and the program's answer
  go_wp2_with fail
  refine (HTo.out _ HV3.out.zero).mono ?_
  rintro e w4 ⟨x4, rfl, hx4, hb4⟩
  have HX4 := Lib.hid (R.up hx4)
  have HG4 := Lib.hid (up_keep HG3.out hb4)
  have HV4 := Lib.hid (up_keep HV3.out hb4)
  have HB4 := Lib.hid (bt HB3.out hb4)
  have h34 := hb4.size
  clear hx4 hb4
  go_wp2_with fail
  refine (HIm.out _ _ HX4.out.zero).mono ?_
  rintro e w5 ⟨g5, rfl, hg5, hb5⟩
  have HA5 := Lib.hid hg5
  have HG5 := Lib.hid (up_keep HG4.out hb5)
  have HV5 := Lib.hid (up_keep HV4.out hb5)
  have HB5 := Lib.hid (bt HB4.out hb5)
  have HW5 := Lib.hid hb5
  clear hg5 hb5
  go_wp2_with fail
  refine (HEq.out _ _ _ HA5.out.zero HG5.out.zero).mono ?_
  rintro e w6 ⟨rfl, hb6⟩
  have HA6 := Lib.hid (nf_keep HA5.out hb6)
  have HG6 := Lib.hid (up_keep HG5.out hb6)
  have HV6 := Lib.hid (up_keep HV5.out hb6)
  have HB6 := Lib.hid (bt HB5.out hb6)
  have HW6 := Lib.hid (bt HW5.out hb6)
  clear hb6
  go_wp2_with fail
  refine (HTo.out _ HV6.out.zero).mono ?_
  rintro e w7 ⟨x7, rfl, hx7, hb7⟩
  have HX7 := Lib.hid hx7.zero
  have HA7 := Lib.hid (nf_keep HA6.out hb7)
  have HG7 := Lib.hid (up_keep HG6.out hb7)
  have HV7 := Lib.hid (up_keep HV6.out hb7)
  have HB7 := Lib.hid (bt HB6.out hb7)
  have HW7 := Lib.hid (bt HW6.out hb7)
  clear hx7 hb7
  have HX47 := Lib.hid (R.keep (Keeps.below HW7.out fun _ _ h => h) _ _ HX4.out.zero)
  go_wp2_with fail
  refine (HEe.out _ _ _ HX47.out HX7.out).mono ?_
  rintro e w8 ⟨rfl, hb8⟩
  have HA8 := Lib.hid (nf_keep HA7.out hb8)
  have HG8 := Lib.hid (up_keep HG7.out hb8)
  have HV8 := Lib.hid (up_keep HV7.out hb8)
  have HB8 := Lib.hid (bt HB7.out hb8)
  have hw8 := bt HW7.out hb8
  have h48 := hw8.size
  have HX8 := Lib.hid (show R w8 (fun p => NF w8 w3.heap.size p ∨ w4.heap.size ≤ p.block) (encS l) x4 from R.keep (Keeps.below hw8 fun p hp hm => by
    rcases hm with (hm | hm) | hm
    · exact .inl (.inl hm)
    · exact .inl (.inr (by rw [← fro_of_block (w' := w8) (hw8.block p.block hp)]; exact hm))
    · exact .inr hm) _ _ HX4.out)
  clear hb8 hw8
  -- the copy is marked
  have hm8 := m_EntryS l 1 w8 _ x4 HX8.out (fun p hp => .inl (.inr hp)) (by have := HC.out; omega) (by omega)
  rw [HK1.out] at hm8
  have HM8 := Lib.hid hm8
  clear hm8
  go_wp2_with fail
  refine HM8.out.mono ?_
  rintro e w9 ⟨rfl, ha9⟩
  have hA1 : ∀ p : Addr, ¬ (NF w8 w3.heap.size p ∨ w4.heap.size ≤ p.block) → w3.heap.size ≤ p.block ∧ p.block < w4.heap.size := fun p hp => by
    refine ⟨Classical.byContradiction fun h => hp (.inl (.inl (by omega))), Classical.byContradiction fun h => hp (.inr (by omega))⟩
  have HA9 := Lib.hid (nf_alt HA8.out ha9 fun p hp => .inl (hA1 p hp).2)
  have HG9 := Lib.hid (up_alt HG8.out ha9 fun p hp => (hA1 p hp).1)
  have hB3 := HB3.out.size
  have HV9 := Lib.hid (up_alt HV8.out ha9 fun p hp => Nat.le_trans hB3 (hA1 p hp).1)
  have HB9 := Lib.hid (show Below w.heap.size w w9 from by
    have h1 := HB8.out
    have h2 : Below w.heap.size w8 w9 := ha9.to_below h1.size fun p hp => Nat.le_trans hB3 (hA1 p hp).1
    exact ⟨h2.os.trans h1.os, h2.tape.trans h1.tape, h2.output.trans h1.output, Nat.le_trans h1.size h2.size, fun k hk => (h2.block k hk).trans (h1.block k hk)⟩)
  have h89 := ha9.size
  clear ha9 hA1
  go_wp2_with fail
  refine (HEq.out _ _ _ HA9.out.zero HG9.out.zero).mono ?_
  rintro e w10 ⟨rfl, hb10⟩
  have HA10 := Lib.hid (nf_keep HA9.out hb10)
  have HG10 := Lib.hid (up_keep HG9.out hb10)
  have HV10 := Lib.hid (up_keep HV9.out hb10)
  have HB10 := Lib.hid (bt HB9.out hb10)
  clear hb10
  -- the answer is marked
  have hm10 := m_StringS ans 1 w10 _ g5 HA10.out (fun p hp => .inr hp) (by have := HL.out; omega)
  rw [HK2.out] at hm10
  have HM10 := Lib.hid hm10
  clear hm10
  go_wp2_with fail
  refine HM10.out.mono ?_
  rintro e w11 ⟨rfl, ha11, hr11⟩
  have hA2 : ∀ p : Addr, ¬ NF w10 w4.heap.size p → w4.heap.size ≤ p.block := fun p hp => Classical.byContradiction fun h => hp (.inl (by omega))
  have HA11 := Lib.hid hr11.zero
  have HG11 := Lib.hid (up_alt HG10.out ha11 fun p hp => Nat.le_trans h34 (hA2 p hp))
  have HV11 := Lib.hid (up_alt HV10.out ha11 fun p hp => Nat.le_trans (Nat.le_trans hB3 h34) (hA2 p hp))
  have HB11 := Lib.hid (show Below w.heap.size w w11 from by
    have h1 := HB10.out
    have h2 : Below w.heap.size w10 w11 := ha11.to_below h1.size fun p hp => Nat.le_trans (Nat.le_trans hB3 h34) (hA2 p hp)
    exact ⟨h2.os.trans h1.os, h2.tape.trans h1.tape, h2.output.trans h1.output, Nat.le_trans h1.size h2.size, fun k hk => (h2.block k hk).trans (h1.block k hk)⟩)
  clear ha11 hr11 hA2
  have cHe : ∀ (w0 : World), R w0 (fun _ => False) (.sl (mS 1 ans ans.length)) g5 → Calls Try.prog 43 #[g5, .int .i64 1] w0 fun e w' => e = .returned (.int .i64 (K2 : Int)) ∧ Below w0.heap.size w0 w' := fun w0 h => by
    refine (Fun.calls (c_heldStringS ans 1 (by have := HL.out; omega)) (rdy0 w0) (vs := [g5, .int .i64 1]) ⟨_, _, rfl, h, _, [], rfl, int_ok (by omega) (by omega), rfl⟩).mono ?_
    rintro e w' ⟨u, rfl, hu, hb⟩
    rw [HK2.out] at hu
    exact ⟨by rw [hu.1], hb⟩
  have HHe := Lib.hid cHe
  clear cHe
  go_wp2_with fail
  refine (HHe.out _ HA11.out).mono ?_
  rintro e w12 ⟨rfl, hb12⟩
  have HA12 := Lib.hid (R.keep (Keeps.below hb12 fun _ _ h => h) _ _ HA11.out)
  have HG12 := Lib.hid (up_keep HG11.out hb12)
  have HV12 := Lib.hid (up_keep HV11.out hb12)
  have HB12 := Lib.hid (bt HB11.out hb12)
  clear hb12
  -- called again
  go_wp2_with fail
  refine (HTo.out _ HV12.out.zero).mono ?_
  rintro e w13 ⟨x13, rfl, hx13, hb13⟩
  have HX13 := Lib.hid hx13.zero
  have HA13 := Lib.hid (R.keep (Keeps.below hb13 fun _ _ h => h) _ _ HA12.out)
  have HG13 := Lib.hid (up_keep HG12.out hb13)
  have HB13 := Lib.hid (bt HB12.out hb13)
  clear hx13 hb13
  go_wp2_with fail
  refine (HIm.out _ _ HX13.out).mono ?_
  rintro e w14 ⟨g14, rfl, hg14, hb14⟩
  have HH14 := Lib.hid hg14.zero
  have HA14 := Lib.hid (R.keep (Keeps.below hb14 fun _ _ h => h) _ _ HA13.out)
  have HG14 := Lib.hid (up_keep HG13.out hb14)
  have HB14 := Lib.hid (bt HB13.out hb14)
  clear hg14 hb14
  go_wp2_with fail
  refine (HEq.out _ _ _ HH14.out HG14.out.zero).mono ?_
  rintro e w15 ⟨rfl, hb15⟩
  have HA15 := Lib.hid (R.keep (Keeps.below hb15 fun _ _ h => h) _ _ HA14.out)
  have HB15 := Lib.hid (bt HB14.out hb15)
  clear hb15
  go_wp2_with fail
  refine (HHe.out _ HA15.out).mono ?_
  rintro e w16 ⟨rfl, hb16⟩
  have HB16 := Lib.hid (bt HB15.out hb16)
  clear hb16
  go_wp2
  go_ret
  exact ⟨rfl, HB16.out⟩
theorem main (ds : List D) (h : HasTys tbl.tab ty_laws_FnExactStuckOf ds) : Fun Try.prog 14 none ds (.bool true) [] := by
  obtain ⟨l, rfl⟩ : ∃ l : List Entry, ds = [encS l] := by
    match ds, h with
    | [d0], h =>
      obtain ⟨l, rfl⟩ := decS_laws_Entry (h.1)
      exact ⟨l, rfl⟩
  refine Fun.of_callsG (by kernel_rfl) fun w M vs hG hr => ?_
  obtain ⟨v, q, rfl, hv, rfl⟩ := hr
  refine (walk l w v hv.zero).mono ?_
  rintro e w' ⟨rfl, hb⟩
  exact ⟨_, rfl, rfl, hb⟩

set_option maxRecDepth 100000
theorem jf_wf : (Rows.fnExactStuckOfRow.wf (OpenSpec.ofChange Rows.fnExactStuckOfSpec)) = true := by kernel_rfl
theorem jf_reads : (Try.f14.params.all (Try.prog.readableRec ·)) = true := by kernel_rfl
theorem jf_tie : (namedTie Try.prog Rows.fnExactStuckOfRow.named Rows.fnExactStuckOfSpec.vars) = true := by kernel_rfl
theorem jf_inPl : ((Rows.fnExactStuckOfRow.inPlace == Try.prog.inPlace 14)) = true := by kernel_rfl
theorem jf_unfol : ((Rows.fnExactStuckOfRow.unfollowed == Try.prog.unfollowed 14)) = true := by kernel_rfl
theorem jf_recur : ((Rows.fnExactStuckOfRow.recurses == Try.prog.recurses 14)) = true := by kernel_rfl
theorem jf_varsN : ((Rows.fnExactStuckOfRow.named == Try.prog.varsNamed 14)) = true := by kernel_rfl
theorem jf_maps : ((Rows.fnExactStuckOfRow.maps == (Try.f14.params.toList ++ Rows.fnExactStuckOfSpec.plain.varTypes Try.prog).any (Try.prog.mapsRec ·))) = true := by kernel_rfl
theorem jf_ifaces : ((Rows.fnExactStuckOfRow.ifaces == (Try.f14.params.toList ++ Rows.fnExactStuckOfSpec.plain.varTypes Try.prog).any (Try.prog.ifacesRec ·))) = true := by kernel_rfl
theorem jf_mapsO : ((Rows.fnExactStuckOfRow.mapsOut == Try.prog.mapsAmong Try.f14.resultTypes.toList)) = true := by kernel_rfl
theorem jf_loops : ((Rows.fnExactStuckOfRow.loops == (Try.f14.params.toList ++ Rows.fnExactStuckOfSpec.plain.varTypes Try.prog).any (Try.prog.loopsFrom ·))) = true := by kernel_rfl
theorem jf_wide : ((Rows.fnExactStuckOfRow.wideKeys == (Try.f14.params.toList ++ Rows.fnExactStuckOfSpec.plain.varTypes Try.prog ++ Try.f14.resultTypes.toList).any (Try.prog.wideKeysFrom ·))) = true := by kernel_rfl
theorem jf_varR : (Rows.fnExactStuckOfSpec.vars.all (Try.prog.varReadable ·)) = true := by kernel_rfl
theorem jf_resT : (Try.f14.resultTypes.all (fun t => Try.prog.readableRec t && decide (t < Try.prog.types.size))) = true := by kernel_rfl
theorem jf_ifO : ((Rows.fnExactStuckOfRow.ifacesOut == Try.f14.resultTypes.toList.any (Try.prog.ifacesRec ·))) = true := by kernel_rfl
theorem jf_loO : ((Rows.fnExactStuckOfRow.loopsOut == Try.f14.resultTypes.toList.any (Try.prog.loopsFrom ·))) = true := by kernel_rfl
theorem jf_kinds : ((Rows.fnExactStuckOfRow.kinds == (if Rows.fnExactStuckOfRow.domain.isEmpty then [] else Try.f14.params.toList.map fun t => match Try.prog.underlying t with | some (.int k) => some k | _ => none))) = true := by kernel_rfl
theorem jf_veil : ((Rows.fnExactStuckOfRow.veiled == (Try.f14.params.toList ++ Rows.fnExactStuckOfSpec.plain.varTypes Try.prog ++ Try.f14.resultTypes.toList).any (Try.prog.veiledRec ·))) = true := by kernel_rfl
theorem jf_veilF : (Rows.fnExactStuckOfRow.veiledFits Try.prog Try.f14.params.toList (Try.f14.params.toList ++ Rows.fnExactStuckOfSpec.plain.varTypes Try.prog ++ Try.f14.resultTypes.toList)) = true := by kernel_rfl
theorem closed : joinedFacts Try.prog 14 Try.f14 Rows.fnExactStuckOfSpec Rows.fnExactStuckOfRow = true :=
  (and_tt (and_tt (and_tt (and_tt (and_tt (and_tt (and_tt (and_tt (and_tt (and_tt (and_tt (and_tt (and_tt (and_tt (and_tt (and_tt (and_tt (and_tt (and_tt (and_tt (and_tt (and_tt (and_tt (and_tt (and_tt (and_tt (and_tt (and_tt (and_tt (and_tt (and_tt jf_wf jfLaid) jfRowed) jf_reads) jf_tie) rfl) jfStops) rfl) jfKnobs) jf_inPl) jf_unfol) jf_recur) jf_varsN) jf_maps) jf_ifaces) jf_mapsO) jf_loops) jf_wide) jf_varR) jf_resT) jf_ifO) jf_loO) jfKeys) rfl) jfHeard) jfEnter) jfLifted) jfMake) jf_kinds) rfl) jf_veil) jf_veilF)
set_option maxRecDepth 100000 in
theorem lifted (os : Os) (started : os.Started) (H : Type) (enc : TypeId × Value → H) :
    ReturnsInHanded {} Try.checked os 14 .any (Rows.fnExactStuckOfSpec.pre6 enc Try.prog Try.f14 Rows.fnExactStuckOfRow.domain false) (Rows.fnExactStuckOfSpec.post enc Try.prog Try.f14 false true false false) := by
  refine returnsInHanded_of_change (C := Try.checked) jfOwn started (by kernel_rfl) Try.func14
    (ChangeSpec.witness6 (enc := enc) (C := Try.checked) false ⟨#[], #[.slice none 0 0], []⟩ 8 (by kernel_rfl) (by kernel_rfl) (by kernel_rfl) (by kernel_rfl)) ?_
  intro W base args ds gs before hval0 hW hcnd _
  have hval : ∀ (j : Nat) t v, Try.f14.params[j]? = some t → args[j]? = some v → Value.okWide Try.prog W .any base t v := hval0
  have hW' := hW
  obtain ⟨p, q, hA0, hV, rfl, hfz, hnd⟩ := hW
  have hA : DataW.TrodAll enc Try.prog W 0 (fun _ => true) true Try.f14.params.toList args.toList ds p := hA0
  rw [Try.params14] at hA hval
  obtain ⟨v0, vs0, d0, ds0, p0, q0, hargs, rfl, rfl, h0, r0⟩ := trodAll_cons hA
  obtain ⟨rfl, rfl, rfl⟩ := trodAll_nil r0
  obtain rfl : args = #[v0] := by cases args; simp_all
  obtain ⟨rfl, rfl⟩ := trodVars_none hV
  have k0 := h0
  have lt0 : ∀ x ∈ p0, x.block < W.heap.size := by obtain ⟨m, hm⟩ := k0; exact DataW.trod_lt m _ _ _ hm
  obtain ⟨x0, y0, z0⟩ := open_arg tbl_ok (by kernel_rfl) (hval 0 52 v0 rfl rfl) h0
  clear hA0 hval0
  refine ((law_run (main [x0] ⟨y0, trivial⟩) ⟨fun p hp => hp.elim, trivial, Nat.zero_le _⟩ (show Rs W M0 [x0] [v0] from ⟨_, _, rfl, z0, rfl⟩))).mono fun e W' ⟨he, bel⟩ => ?_
  subst he
  exact ⟨_, rfl, _, _, _, [], _, [], hW', trodAll_mk1 (shut_bool Try.underlying4 _), (trodAll_cons_mk (Below.trod jfLaid (by kernel_rfl) (of_decide_eq_true (by kernel_rfl)) k0 bel lt0) trodAll_mk0), rfl, bel.frame _, fun h => by cases h⟩
theorem over : Rows.fnExactStuckOfRow.holds Try.pinned (OpenSpec.ofChange Rows.fnExactStuckOfSpec) :=
  OpenClaim.holds_of_wide 14 Try.f14 rfl rfl rfl rfl rfl rfl rfl ⟨rfl, rfl, rfl, rfl, rfl⟩ rfl rfl rfl rfl rfl (by kernel_rfl) Try.func14 closed
    (of_decide_eq_true (by kernel_rfl)) (by unfold Func.isWrapper; first | (rw [if_pos (by decide +kernel)]; kernel_rfl) | (rw [if_neg (by decide +kernel)]; exact ⟨rfl, rfl⟩))
    (fun os started H enc _ => lifted os started H enc)
/-- THE STATEMENT -/
theorem proved : Rows.FnExactStuckOfSaid := over
#print axioms proved
end Go.Proofs.Ythoafgehfgblaaa.lawFnExactStuckOf
