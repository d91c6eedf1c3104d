/- FnExactRemoveEntry holds for every input: the law walked over the contracts of what it calls, with marks written into the argument's copy and into the answer, and the row. No condition. -/
import Derived.Test.YtjmakbnblpjkhaaC14
import Derived.Test.YtjmakbnblpjkhaaC11
namespace Go.Proofs.Ytjmakbnblpjkhaa.lawFnExactRemoveEntry
open Go.ChangeShapes Go.WideShapes Go.ChangeAt Go.RowKit Go
set_option linter.unusedVariables false
set_option linter.unusedSimpArgs false
set_option maxRecDepth 100000
theorem walk (l : List Entry) (s : ByteArray) (w : World) (v : Value) (hv : R w (fun _ => False) (encS l) v) (hml : s.size ≤ maxLen) :
  Calls Try.prog 3 #[v, .string s] w fun e w' => e = .returned (.bool true) ∧ Below w.heap.size w w' := by
 by_cases hbig : 1048576 < s.size
 ·have hb1 : (1048576 : Int) < (s.size : Int) := by omega
  go_enter Try.func3, Try.ntmps3
  go_wp2
  go_ret
  exact ⟨rfl, by go_grown⟩
 have hbs : ¬ ((1048576 : Int) < (s.size : Int)) := by omega
 obtain ⟨_, ⟨m0, rfl, _, p0, q0⟩, hz⟩ := z_EntryS l 1048576 (by omega) (by omega)
 have hb0 : m0 < 0 ∨ 0 ≤ m0 := by omega
 have HV := Lib.hid (R.over hv)
 have HZ := Lib.hid (fun (w0 : World) (h : R w0 (fun _ => False) (encS l) v) => Fun.calls hz (rdy0 w0) (vs := [v, .int .i64 1048576]) ⟨_, _, rfl, h, _, [], rfl, int_ok (by omega) (by omega), rfl⟩)
 rcases hb0 with hneg | hpos
 ·go_enter Try.func3, Try.ntmps3
  go_wp2_with fail
  refine (HZ.out _ HV.out.zero).mono ?_
  rintro e w1 ⟨v1, rfl, ⟨rfl, -⟩, hb1⟩
  go_wp2
  go_ret
  exact ⟨rfl, bt (by go_grown) hb1⟩
 have s0 := q0 (by simpa using hpos)
 have hl20 : l.length ≤ 1048576 := (sm_list.1 s0).1
 have hfit := fit_of s0
 have hcnt := cnt_fit hfit (Nat.le_refl _)
 have hac := cnt_fit (l := remL l s) (fun e he => hfit e (remL_mem he)) (Nat.le_refl _)
 have hal : (remL l s).length ≤ 1048576 := Nat.le_trans remL_len hl20
 have hmpos : ¬ m0 < 0 := by omega
 generalize hans : remL l s = ans at hac hal
 obtain ⟨ok, hok⟩ : ∃ ok, remOk l s = ok := ⟨_, rfl⟩
 have cTo : ∀ (w0 : World), R w0 (fun _ => False) (encS l) v → Calls Try.prog 7 #[v] w0 fun e w' => ∃ v', e = .returned v' ∧ R w' (NF w' w0.heap.size) (encS l) v' ∧ Below w0.heap.size w0 w' := fun w0 h => f_toEntryS l (sm_list.1 s0).1 (sm_list.1 s0).2 w0 v h
 have cSp : ∀ (w0 : World) (x : Value), R w0 (fun _ => False) (encS l) x → Calls Try.prog 6 #[x, .string s] w0 fun e w' => ∃ u, e = .returned (.tuple #[u, .bool ok]) ∧ R w' (fun _ => False) (encS ans) u ∧ Below w0.heap.size w0 w' := fun w0 x h => by
  refine (Fun.calls (.ofR (c_spec_RemoveEntry l s hl20 hfit)) (rdy0 w0) (vs := [x, .string s]) ⟨_, _, rfl, h, _, [], rfl, ⟨rfl, hml⟩, rfl⟩).mono ?_
  rintro e w' ⟨v, rfl, ⟨cs, rfl, x0, _, hc, h0, x1, _, rfl, h1, hx⟩, hb⟩
  have hx : _ = [] := hx
  subst hx
  have hcs : cs = #[x0, x1] := by rw [← Array.toList_inj, hc]
  subst hcs
  have h1 : x1 = .bool (remOk l s) := h1
  subst h1
  rw [hok]
  rw [hans] at h0
  exact ⟨x0, rfl, h0, hb⟩
 have cIm : ∀ (w0 : World) (x : Value), R w0 (fun _ => False) (encS l) x → Calls Try.prog 8 #[x, .string s] w0 fun e w' => ∃ v', e = .returned (.tuple #[v', .bool ok]) ∧ Own w0.heap.size 42 w' ans v' ∧ Below w0.heap.size w0 w' := fun w0 x h => by
  have := w_RemoveEntry l s hl20 hfit w0 x h hml
  rw [hok, hans] at this
  exact this
 have cEq : ∀ (w0 : World) (x y : Value), R w0 (fun _ => False) (encS ans) x → R w0 (fun _ => False) (encS ans) y → Calls Try.prog 9 #[x, y] w0 fun e w' => e = .returned (.bool true) ∧ Below w0.heap.size w0 w' := fun w0 x y h h' => by
  refine (Fun.calls (c_laws_eqEntryS ans ans) (rdy0 w0) (vs := [x, y]) ⟨_, _, rfl, h, _, [], rfl, h', rfl⟩).mono ?_
  rintro e w' ⟨u, rfl, hu, hb⟩
  have hu : u = .bool (decide (ans = ans)) := hu
  rw [hu]
  exact ⟨by simp, hb⟩
 have cEe : ∀ (w0 : World) (x y : Value), R w0 (fun _ => False) (encS l) x → R w0 (fun _ => False) (encS l) y → Calls Try.prog 9 #[x, y] w0 fun e w' => e = .returned (.bool true) ∧ Below w0.heap.size w0 w' := fun w0 x y h h' => by
  refine (Fun.calls (c_laws_eqEntryS l l) (rdy0 w0) (vs := [x, y]) ⟨_, _, rfl, h, _, [], rfl, h', rfl⟩).mono ?_
  rintro e w' ⟨u, rfl, hu, hb⟩
  have hu : u = .bool (decide (l = l)) := hu
  rw [hu]
  exact ⟨by simp, hb⟩
 obtain ⟨K1, hK1⟩ : ∃ K1, 1 + cntTo l l.length = K1 := ⟨_, rfl⟩
 obtain ⟨K2, hK2⟩ : ∃ K2, 1 + cntTo ans ans.length = K2 := ⟨_, rfl⟩
 have cMa : ∀ (w0 : World) (B : Nat) (x : Value), Own B 42 w0 ans x → Calls Try.prog 10 #[x, .int .i64 1] w0 fun e w' => e = .returned (.int .i64 (K2 : Int)) ∧ Alt (fun p => B ≤ p.block) w0 w' ∧ R w' (fun _ => False) (encS (mixL 1 ans ans.length)) x := fun w0 B x h => by
  have := m_Own ans 1 w0 h (by omega) (by omega)
  rw [hK2] at this
  exact this
 have cHe : ∀ (w0 : World) (x : Value), R w0 (fun _ => False) (encS (mixL 1 ans ans.length)) x → Calls Try.prog 11 #[x, .int .i64 1] w0 fun e w' => e = .returned (.int .i64 (K2 : Int)) ∧ Below w0.heap.size w0 w' := fun w0 x h => by
  refine (Fun.calls (c_heldEntryS ans 1 (by omega) (by omega)) (rdy0 w0) (vs := [x, .int .i64 1]) ⟨_, _, rfl, h, _, [], rfl, int_ok (by omega) (by omega), rfl⟩).mono ?_
  rintro e w' ⟨u, rfl, hu, hb⟩
  have hu := hu.1
  rw [hK2] at hu
  rw [hu]
  exact ⟨rfl, hb⟩
 have hbb : (ok != ok) = false := by simp
 have hK2p : 0 ≤ (K2 : Int) := by omega
 have hK2n : ¬ ((K2 : Int) < 0) := by omega
 have hK1p : 0 ≤ (K1 : Int) := by omega
 have hK1n : ¬ ((K1 : Int) < 0) := by omega
 have HTo := Lib.hid cTo
 have HSp := Lib.hid cSp
 have HIm := Lib.hid cIm
 have HEq := Lib.hid cEq
 have HEe := Lib.hid cEe
 have HMa := Lib.hid cMa
 have HHe := Lib.hid cHe
 have HC := Lib.hid hcnt
 have HK1 := Lib.hid hK1
 have HL0 := Lib.hid hl20
 clear cTo cSp cIm cEq cEe cMa cHe hcnt hv hK1 hK2 hans hok hac hal hl20 hfit hbig s0
 go_enter Try.func3, Try.ntmps3
 go_wp2_with fail
 refine (HZ.out _ HV.out.zero).mono ?_
 rintro e w1 ⟨v1, rfl, ⟨rfl, -⟩, hb1⟩
 have HV1 := Lib.hid (up_keep HV.out hb1)
 have HB1 := Lib.hid hb1
 clear hb1
 go_wp2_with fail
 refine (HTo.out _ HV1.out.zero).mono ?_
 rintro e w2 ⟨x2, rfl, hx2, hb2⟩
 have HX2 := Lib.hid hx2.zero
 have HV2 := Lib.hid (up_keep HV1.out hb2)
 have HB2 := Lib.hid (bt HB1.out hb2)
 clear hx2 hb2
 go_wp2_with fail
 refine (HSp.out _ _ HX2.out).mono ?_
 rintro e w3 ⟨g3, rfl, hg3, hb3⟩
 have HG3 := Lib.hid hg3.over
 have HV3 := Lib.hid (up_keep HV2.out hb3)
 have HB3 := Lib.hid (bt HB2.out hb3)
 clear hg3 hb3
 go_wp2_with fail
 refine (HTo.out _ HV3.out.zero).mono ?_
 rintro e w4 ⟨x4, rfl, hx4, hb4⟩
 have HX4 := Lib.hid (R.up hx4)
 have HG4 := Lib.hid (up_keep HG3.out hb4)
 have HV4 := Lib.hid (up_keep HV3.out hb4)
 have HB4 := Lib.hid (bt HB3.out hb4)
 have h34 := hb4.size
 clear hx4 hb4
 go_wp2_with fail
 refine (HIm.out _ _ HX4.out.zero).mono ?_
 rintro e w5 ⟨g5, rfl, hg5, hb5⟩
 have HA5 := Lib.hid hg5
 have HG5 := Lib.hid (up_keep HG4.out hb5)
 have HV5 := Lib.hid (up_keep HV4.out hb5)
 have HB5 := Lib.hid (bt HB4.out hb5)
 have HW5 := Lib.hid hb5
 clear hg5 hb5
 go_wp2_with fail
 refine (HEq.out _ _ _ HA5.out.read HG5.out.zero).mono ?_
 rintro e w6 ⟨rfl, hb6⟩
 have HA6 := Lib.hid (HA5.out.below hb6)
 have HG6 := Lib.hid (up_keep HG5.out hb6)
 have HV6 := Lib.hid (up_keep HV5.out hb6)
 have HB6 := Lib.hid (bt HB5.out hb6)
 have HW6 := Lib.hid (bt HW5.out hb6)
 clear hb6
 go_wp2_with fail
 refine (HTo.out _ HV6.out.zero).mono ?_
 rintro e w7 ⟨x7, rfl, hx7, hb7⟩
 have HX7 := Lib.hid hx7.zero
 have HA7 := Lib.hid (HA6.out.below hb7)
 have HG7 := Lib.hid (up_keep HG6.out hb7)
 have HV7 := Lib.hid (up_keep HV6.out hb7)
 have HB7 := Lib.hid (bt HB6.out hb7)
 have HW7 := Lib.hid (bt HW6.out hb7)
 clear hx7 hb7
 have HX47 := Lib.hid (R.keep (Keeps.below HW7.out fun _ _ h => h) _ _ HX4.out.zero)
 go_wp2_with fail
 refine (HEe.out _ _ _ HX47.out HX7.out).mono ?_
 rintro e w8 ⟨rfl, hb8⟩
 have HA8 := Lib.hid (HA7.out.below hb8)
 have HG8 := Lib.hid (up_keep HG7.out hb8)
 have HV8 := Lib.hid (up_keep HV7.out hb8)
 have HB8 := Lib.hid (bt HB7.out hb8)
 have hw8 := bt HW7.out hb8
 have h48 := hw8.size
 have HX8 := Lib.hid (show R w8 (fun p => NF w8 w3.heap.size p ∨ w4.heap.size ≤ p.block) (encS l) x4 from R.keep (Keeps.below hw8 fun p hp hm => by
  rcases hm with (hm | hm) | hm
  ·exact .inl (.inl hm)
  ·exact .inl (.inr (by rw [← fro_of_block (w' := w8) (hw8.block p.block hp)]; exact hm))
  ·exact .inr hm) _ _ HX4.out)
 clear hb8 hw8
 have hm8 := m_EntryS l 1 w8 _ x4 HX8.out (fun p hp => .inl (.inr hp)) (by have := HC.out; have := HL0.out; omega) (by have := HL0.out; omega)
 rw [HK1.out] at hm8
 have HM8 := Lib.hid hm8
 clear hm8
 go_wp2_with fail
 refine HM8.out.mono ?_
 rintro e w9 ⟨rfl, ha9⟩
 have hA1 : ∀ p : Addr, ¬ (NF w8 w3.heap.size p ∨ w4.heap.size ≤ p.block) → w3.heap.size ≤ p.block ∧ p.block < w4.heap.size := fun p hp => by
  refine ⟨Classical.byContradiction fun h => hp (.inl (.inl (by omega))), Classical.byContradiction fun h => hp (.inr (by omega))⟩
 have HA9 := Lib.hid (HA8.out.alt ha9 fun p hp => (hA1 p hp).2)
 have HG9 := Lib.hid (up_alt HG8.out ha9 fun p hp => (hA1 p hp).1)
 have hB3 := HB3.out.size
 have HV9 := Lib.hid (up_alt HV8.out ha9 fun p hp => Nat.le_trans hB3 (hA1 p hp).1)
 have HB9 := Lib.hid (show Below w.heap.size w w9 from by
  have h1 := HB8.out
  have h2 : Below w.heap.size w8 w9 := ha9.to_below h1.size fun p hp => Nat.le_trans hB3 (hA1 p hp).1
  exact below_on h1 h2)
 have h89 := ha9.size
 clear ha9 hA1
 go_wp2_with fail
 refine (HEq.out _ _ _ HA9.out.read HG9.out.zero).mono ?_
 rintro e w10 ⟨rfl, hb10⟩
 have HA10 := Lib.hid (HA9.out.below hb10)
 have HG10 := Lib.hid (up_keep HG9.out hb10)
 have HV10 := Lib.hid (up_keep HV9.out hb10)
 have HB10 := Lib.hid (bt HB9.out hb10)
 clear hb10
 go_wp2_with fail
 refine (HMa.out _ _ _ HA10.out).mono ?_
 rintro e w11 ⟨rfl, ha11, hr11⟩
 have HA11 := Lib.hid hr11
 have HG11 := Lib.hid (up_alt HG10.out ha11 fun p hp => Nat.le_trans h34 hp)
 have HV11 := Lib.hid (up_alt HV10.out ha11 fun p hp => Nat.le_trans (Nat.le_trans hB3 h34) hp)
 have HB11 := Lib.hid (show Below w.heap.size w w11 from by
  have h1 := HB10.out
  have h2 : Below w.heap.size w10 w11 := ha11.to_below h1.size fun p hp => Nat.le_trans (Nat.le_trans hB3 h34) hp
  exact below_on h1 h2)
 clear ha11 hr11
 go_wp2_with fail
 refine (HHe.out _ _ HA11.out).mono ?_
 rintro e w12 ⟨rfl, hb12⟩
 have HA12 := Lib.hid (R.keep (Keeps.below hb12 fun _ _ h => h) _ _ HA11.out)
 have HG12 := Lib.hid (up_keep HG11.out hb12)
 have HV12 := Lib.hid (up_keep HV11.out hb12)
 have HB12 := Lib.hid (bt HB11.out hb12)
 clear hb12
 go_wp2_with fail
 refine (HTo.out _ HV12.out.zero).mono ?_
 rintro e w13 ⟨x13, rfl, hx13, hb13⟩
 have HX13 := Lib.hid hx13.zero
 have HA13 := Lib.hid (R.keep (Keeps.below hb13 fun _ _ h => h) _ _ HA12.out)
 have HG13 := Lib.hid (up_keep HG12.out hb13)
 have HB13 := Lib.hid (bt HB12.out hb13)
 clear hx13 hb13
 go_wp2_with fail
 refine (HIm.out _ _ HX13.out).mono ?_
 rintro e w14 ⟨g14, rfl, hg14, hb14⟩
 have HH14 := Lib.hid hg14.read
 have HA14 := Lib.hid (R.keep (Keeps.below hb14 fun _ _ h => h) _ _ HA13.out)
 have HG14 := Lib.hid (up_keep HG13.out hb14)
 have HB14 := Lib.hid (bt HB13.out hb14)
 clear hg14 hb14
 go_wp2_with fail
 refine (HEq.out _ _ _ HH14.out HG14.out.zero).mono ?_
 rintro e w15 ⟨rfl, hb15⟩
 have HA15 := Lib.hid (R.keep (Keeps.below hb15 fun _ _ h => h) _ _ HA14.out)
 have HB15 := Lib.hid (bt HB14.out hb15)
 clear hb15
 go_wp2_with fail
 refine (HHe.out _ _ HA15.out).mono ?_
 rintro e w16 ⟨rfl, hb16⟩
 have HB16 := Lib.hid (bt HB15.out hb16)
 clear hb16
 go_wp2
 go_ret
 exact ⟨rfl, HB16.out⟩
theorem main (ds : List D) (h : HasTys tbl.tab ty_laws_FnExactRemoveEntry ds) : Fun Try.prog 3 none ds (.bool true) [] := by
 obtain ⟨l, s, rfl⟩ : ∃ (l : List Entry) (s : ByteArray), ds = [encS l, .str s] := by
  match ds, h with
  | [d0, d1], h =>
   obtain ⟨l, rfl⟩ := decS_laws_Entry (h.1)
   obtain ⟨s, rfl⟩ := hasTy_str h.2.1
   exact ⟨l, s, rfl⟩
 refine Fun.of_callsG (by kernel_rfl) fun w M vs hG hr => ?_
 obtain ⟨v, q, rfl, hv, u, q', rfl, ⟨rfl, hu⟩, rfl⟩ := hr
 refine (walk l s w v hv.zero hu).mono ?_
 rintro e w' ⟨rfl, hb⟩
 exact ⟨_, rfl, rfl, hb⟩

set_option maxRecDepth 100000
theorem jf_wf : (Rows.fnExactRemoveEntryRow.wf (OpenSpec.ofChange Rows.fnExactRemoveEntrySpec)) = true := by kernel_rfl
theorem jf_reads : (Try.f3.params.all (Try.prog.readableRec ·)) = true := by kernel_rfl
theorem jf_tie : (namedTie Try.prog Rows.fnExactRemoveEntryRow.named Rows.fnExactRemoveEntrySpec.vars) = true := by kernel_rfl
theorem jf_inPl : ((Rows.fnExactRemoveEntryRow.inPlace == Try.prog.inPlace 3)) = true := by kernel_rfl
theorem jf_unfol : ((Rows.fnExactRemoveEntryRow.unfollowed == Try.prog.unfollowed 3)) = true := by kernel_rfl
theorem jf_recur : ((Rows.fnExactRemoveEntryRow.recurses == Try.prog.recurses 3)) = true := by kernel_rfl
theorem jf_varsN : ((Rows.fnExactRemoveEntryRow.named == Try.prog.varsNamed 3)) = true := by kernel_rfl
theorem jf_maps : ((Rows.fnExactRemoveEntryRow.maps == (Try.f3.params.toList ++ Rows.fnExactRemoveEntrySpec.plain.varTypes Try.prog).any (Try.prog.mapsRec ·))) = true := by kernel_rfl
theorem jf_ifaces : ((Rows.fnExactRemoveEntryRow.ifaces == (Try.f3.params.toList ++ Rows.fnExactRemoveEntrySpec.plain.varTypes Try.prog).any (Try.prog.ifacesRec ·))) = true := by kernel_rfl
theorem jf_mapsO : ((Rows.fnExactRemoveEntryRow.mapsOut == Try.prog.mapsAmong Try.f3.resultTypes.toList)) = true := by kernel_rfl
theorem jf_loops : ((Rows.fnExactRemoveEntryRow.loops == (Try.f3.params.toList ++ Rows.fnExactRemoveEntrySpec.plain.varTypes Try.prog).any (Try.prog.loopsFrom ·))) = true := by kernel_rfl
theorem jf_wide : ((Rows.fnExactRemoveEntryRow.wideKeys == (Try.f3.params.toList ++ Rows.fnExactRemoveEntrySpec.plain.varTypes Try.prog ++ Try.f3.resultTypes.toList).any (Try.prog.wideKeysFrom ·))) = true := by kernel_rfl
theorem jf_varR : (Rows.fnExactRemoveEntrySpec.vars.all (Try.prog.varReadable ·)) = true := by kernel_rfl
theorem jf_resT : (Try.f3.resultTypes.all (fun t => Try.prog.readableRec t && decide (t < Try.prog.types.size))) = true := by kernel_rfl
theorem jf_ifO : ((Rows.fnExactRemoveEntryRow.ifacesOut == Try.f3.resultTypes.toList.any (Try.prog.ifacesRec ·))) = true := by kernel_rfl
theorem jf_loO : ((Rows.fnExactRemoveEntryRow.loopsOut == Try.f3.resultTypes.toList.any (Try.prog.loopsFrom ·))) = true := by kernel_rfl
theorem jf_kinds : ((Rows.fnExactRemoveEntryRow.kinds == (if Rows.fnExactRemoveEntryRow.domain.isEmpty then [] else Try.f3.params.toList.map fun t => match Try.prog.underlying t with | some (.int k) => some k | _ => none))) = true := by kernel_rfl
theorem jf_veil : ((Rows.fnExactRemoveEntryRow.veiled == (Try.f3.params.toList ++ Rows.fnExactRemoveEntrySpec.plain.varTypes Try.prog ++ Try.f3.resultTypes.toList).any (Try.prog.veiledRec ·))) = true := by kernel_rfl
theorem jf_veilF : (Rows.fnExactRemoveEntryRow.veiledFits Try.prog Try.f3.params.toList (Try.f3.params.toList ++ Rows.fnExactRemoveEntrySpec.plain.varTypes Try.prog ++ Try.f3.resultTypes.toList)) = true := by kernel_rfl
theorem closed : joinedFacts Try.prog 3 Try.f3 Rows.fnExactRemoveEntrySpec Rows.fnExactRemoveEntryRow = true :=
 (and_tt (and_tt (and_tt (and_tt (and_tt (and_tt (and_tt (and_tt (and_tt (and_tt (and_tt (and_tt (and_tt (and_tt (and_tt (and_tt (and_tt (and_tt (and_tt (and_tt (and_tt (and_tt (and_tt (and_tt (and_tt (and_tt (and_tt (and_tt (and_tt (and_tt (and_tt jf_wf jfLaid) jfRowed) jf_reads) jf_tie) rfl) jfStops) rfl) jfKnobs) jf_inPl) jf_unfol) jf_recur) jf_varsN) jf_maps) jf_ifaces) jf_mapsO) jf_loops) jf_wide) jf_varR) jf_resT) jf_ifO) jf_loO) jfKeys) rfl) jfHeard) jfEnter) jfLifted) jfMake) jf_kinds) rfl) jf_veil) jf_veilF)
set_option maxRecDepth 100000 in
theorem lifted (os : Os) (started : os.Started) (H : Type) (enc : TypeId × Value → H) :
  ReturnsInHanded {} Try.checked os 3 .any (Rows.fnExactRemoveEntrySpec.pre6 enc Try.prog Try.f3 Rows.fnExactRemoveEntryRow.domain false) (Rows.fnExactRemoveEntrySpec.post enc Try.prog Try.f3 false true false false) := by
 refine returnsInHanded_of_change (C := Try.checked) jfOwn started (by kernel_rfl) Try.func3
  (ChangeSpec.witness6 (enc := enc) (C := Try.checked) false ⟨#[], #[.slice none 0 0, .string ⟨#[]⟩], []⟩ 8 (by kernel_rfl) (by kernel_rfl) (by kernel_rfl) (by kernel_rfl)) ?_
 intro W base args ds gs before hval0 hW hcnd _
 have hval : ∀ (j : Nat) t v, Try.f3.params[j]? = some t → args[j]? = some v → Value.okWide Try.prog W .any base t v := hval0
 have hW' := hW
 obtain ⟨p, q, hA0, hV, rfl, hfz, hnd⟩ := hW
 have hA : DataW.TrodAll enc Try.prog W 0 (fun _ => true) true Try.f3.params.toList args.toList ds p := hA0
 rw [Try.params3] at hA hval
 obtain ⟨v0, vs0, d0, ds0, p0, q0, hargs, rfl, rfl, h0, r0⟩ := trodAll_cons hA
 obtain ⟨v1, vs1, d1, ds1, p1, q1, rfl, rfl, rfl, h1, r1⟩ := trodAll_cons r0
 obtain ⟨rfl, rfl, rfl⟩ := trodAll_nil r1
 obtain rfl : args = #[v0, v1] := by cases args; simp_all
 obtain ⟨rfl, rfl⟩ := trodVars_none hV
 have k0 := h0
 have lt0 : ∀ x ∈ p0, x.block < W.heap.size := by obtain ⟨m, hm⟩ := k0; exact DataW.trod_lt m _ _ _ hm
 have k1 := h1
 have lt1 : ∀ x ∈ p1, x.block < W.heap.size := by obtain ⟨m, hm⟩ := k1; exact DataW.trod_lt m _ _ _ hm
 obtain ⟨x0, y0, z0⟩ := open_arg tbl_ok (by kernel_rfl) (hval 0 22 v0 rfl rfl) h0
 obtain ⟨x1, y1, z1⟩ := open_arg tbl_ok (by kernel_rfl) (hval 1 9 v1 rfl rfl) h1
 clear hA0 hval0
 refine ((law_run (main [x0, x1] ⟨y0, y1, trivial⟩) ⟨fun p hp => hp.elim, trivial, Nat.zero_le _⟩ (show Rs W M0 [x0, x1] [v0, v1] from ⟨_, _, rfl, z0, ⟨_, _, rfl, z1, rfl⟩⟩))).mono fun e W' ⟨he, bel⟩ => ?_
 subst he
 exact ⟨_, rfl, _, _, _, [], _, [], hW', trodAll_mk1 (shut_bool Try.underlying4 _), (trodAll_cons_mk (Below.trod jfLaid (by kernel_rfl) (of_decide_eq_true (by kernel_rfl)) k0 bel lt0) (trodAll_cons_mk (Below.trod jfLaid (by kernel_rfl) (of_decide_eq_true (by kernel_rfl)) k1 bel lt1) trodAll_mk0)), rfl, bel.frame _, fun h => by cases h⟩
theorem over : Rows.fnExactRemoveEntryRow.holds Try.pinned (OpenSpec.ofChange Rows.fnExactRemoveEntrySpec) :=
 OpenClaim.holds_of_wide 3 Try.f3 rfl rfl rfl rfl rfl rfl rfl ⟨rfl, rfl, rfl, rfl, rfl⟩ rfl rfl rfl rfl rfl (by kernel_rfl) Try.func3 closed
  (of_decide_eq_true (by kernel_rfl)) (by unfold Func.isWrapper; first | (rw [if_pos (by decide +kernel)]; kernel_rfl) | (rw [if_neg (by decide +kernel)]; exact ⟨rfl, rfl⟩))
  (fun os started H enc _ => lifted os started H enc)
theorem proved : Rows.FnExactRemoveEntrySaid := over
#print axioms proved
end Go.Proofs.Ytjmakbnblpjkhaa.lawFnExactRemoveEntry
