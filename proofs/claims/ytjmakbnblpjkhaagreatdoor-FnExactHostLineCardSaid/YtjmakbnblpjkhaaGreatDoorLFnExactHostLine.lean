/- FnExactHostLine holds for every input, in every start where the variables hold what the program's text lays: the law's condition, met by the contracts of what it calls; the row; the card. -/
import Derived.Test.YtjmakbnblpjkhaaGreatDoorH18
import Derived.Test.YtjmakbnblpjkhaaGreatDoorH17
namespace Go.Proofs.YtjmakbnblpjkhaaGreatDoor.lawFnExactHostLine
open Go.ChangeShapes Go.WideShapes Go.ChangeAt Go.RowKit
set_option linter.unusedVariables false
set_option linter.unusedSimpArgs false
set_option maxRecDepth 100000
instance instGC : GC where
 inv := fun w => GHas w 7 (fun cs => cs = (Lib.pow10Tab.map fun z => Value.int .u64 z).toArray)
 ng := 7 + 1
 keep := fun h k => k.keep (by decide) h
instance instPow : HasPow := ⟨fun _ h => h⟩
theorem start {W : World} (hL : laidMet Tryz.prog Rows.fnExactHostLineRow.laid W) : GInv W ∧ NG ≤ W.heap.size := by
 have h := seat_pow (by kernel_rfl) hL.tail.tail
 exact ⟨h, ghas_lt h⟩
theorem main (ds : List D) (h : HasTys tbl.tab ty_laws_FnExactHostLine ds) : Fun Tryz.prog 3 none ds (.bool true) [] := by
 obtain ⟨x0, s, rfl⟩ : ∃ (x0 : Host) (s : ByteArray), ds = [enc x0, .str s] := by
  match ds, h with
  | [d0, d1], h =>
   obtain ⟨x0, rfl⟩ := decV_laws_Host (h.1)
   obtain ⟨s, rfl⟩ := hasTy_str h.2.1
   exact ⟨x0, s, rfl⟩
 refine Fun.ofV vc_laws_FnExactHostLine_ok ty_laws_FnExactHostLine_ok rfl ?_ (fun hfit => ?_)
 ·exact h
 unfold vc_laws_FnExactHostLine
 refine den_ite (fun _ => den_ret rfl) (fun g => ?_)
 simp only [E.den, dEq, iEq, sEq, len_str] at g
 have hs : s.size ≤ 1048576 := by
  simp at g
  omega
 ((first | refine den_callE ?_ (z_Host x0 1048576 (by omega) (by omega)) (fun _ h => isZ.ty h) ?_ | refine den_callRE ?_ (z_Host x0 1048576 (by omega) (by omega)) (fun _ h => isZ.ty h) ?_ | refine den_callE ?_ (exR (z_Host x0 1048576 (by omega) (by omega))) (fun _ h => isZ.ty h) ?_); (focus (simp only [VC.den, E.den, dEq, gsH_nil, and_true]; try exact rfl)); rintro _ ⟨m0, rfl, _, p0, q0⟩; (simp only [cA]))
 refine den_ite (fun _ => den_ret rfl) (fun g0 => ?_)
 simp [E.den, cmpI] at g0
 have s0 := q0 g0
 have he : x0.entries.length ≤ 1048576 := (sm_list.1 s0.1).1
 have hu : x0.up.length ≤ 1048576 := (sm_list.1 s0.2.2.1).1
 have hp : ∀ i, i < x0.parts.length → (nth x0.parts i).layers.length ≤ 1048576 := fun i hi => by
  have h1 := (sm_list.1 s0.2.1).2 i hi
  exact (sm_list.1 h1.2).1
 have hul : x0.up.length ≤ 4294967296 := by omega
 ((first | refine den_call ?_ (cR_laws_toHost x0 s0) (ty_Host _) ?_ | refine den_callR ?_ (cR_laws_toHost x0 s0) (ty_Host _) ?_ | refine den_call ?_ (.ofR (cR_laws_toHost x0 s0)) (ty_Host _) ?_); (focus (simp only [VC.den, E.den, dEq, gsH_nil, and_true]; try exact rfl)); (simp only [cA]))
 ((first | refine den_call ?_ (c_spec_HostLine x0 s he hp hul hs) (trivial) ?_ | refine den_callR ?_ (c_spec_HostLine x0 s he hp hul hs) (trivial) ?_ | refine den_call ?_ (.ofR (c_spec_HostLine x0 s he hp hul hs)) (trivial) ?_); (focus (simp only [VC.den, E.den, dEq, gsH_nil, and_true]; try exact rfl)); (simp only [cA]))
 ((first | refine den_call ?_ (cR_laws_toHost x0 s0) (ty_Host _) ?_ | refine den_callR ?_ (cR_laws_toHost x0 s0) (ty_Host _) ?_ | refine den_call ?_ (.ofR (cR_laws_toHost x0 s0)) (ty_Host _) ?_); (focus (simp only [VC.den, E.den, dEq, gsH_nil, and_true]; try exact rfl)); (simp only [cA]))
 ((first | refine den_call ?_ (c_impl_HostLine x0 s he hp hs) (trivial) ?_ | refine den_callR ?_ (c_impl_HostLine x0 s he hp hs) (trivial) ?_ | refine den_call ?_ (.ofR (c_impl_HostLine x0 s he hp hs)) (trivial) ?_); (focus (simp only [VC.den, E.den, dEq, gsH_nil, and_true]; try exact rfl)); (simp only [cA]))
 refine den_ite (fun h => ?_) (fun _ => ?_)
 ·simp [E.den, cmpI, cmpS_neq] at h
 ((first | refine den_call ?_ (cR_laws_toHost x0 s0) (ty_Host _) ?_ | refine den_callR ?_ (cR_laws_toHost x0 s0) (ty_Host _) ?_ | refine den_call ?_ (.ofR (cR_laws_toHost x0 s0)) (ty_Host _) ?_); (focus (simp only [VC.den, E.den, dEq, gsH_nil, and_true]; try exact rfl)); (simp only [cA]))
 ((first | refine den_call ?_ (c_laws_eqHost x0 x0) (trivial) ?_ | refine den_callR ?_ (c_laws_eqHost x0 x0) (trivial) ?_ | refine den_call ?_ (.ofR (c_laws_eqHost x0 x0)) (trivial) ?_); (focus (simp only [VC.den, E.den, dEq, gsH_nil, and_true]; try exact rfl)); (simp only [cA]))
 refine den_ite (fun h => ?_) (fun _ => ?_)
 ·simp [E.den] at h
 exact den_ret rfl

set_option maxRecDepth 100000
theorem jf_wf : (Rows.fnExactHostLineRow.wf (OpenSpec.ofChange Rows.fnExactHostLineSpec)) = true := by kernel_rfl
theorem jf_reads : (Tryz.f3.params.all (Tryz.prog.readableRec ·)) = true := by kernel_rfl
theorem jf_tie : (namedTie Tryz.prog Rows.fnExactHostLineRow.named Rows.fnExactHostLineSpec.vars) = true := by kernel_rfl
theorem jf_inPl : ((Rows.fnExactHostLineRow.inPlace == Tryz.prog.inPlace 3)) = true := by kernel_rfl
theorem jf_unfol : ((Rows.fnExactHostLineRow.unfollowed == Tryz.prog.unfollowed 3)) = true := by kernel_rfl
theorem jf_recur : ((Rows.fnExactHostLineRow.recurses == Tryz.prog.recurses 3)) = true := by kernel_rfl
theorem jf_varsN : ((Rows.fnExactHostLineRow.named == Tryz.prog.varsNamed 3)) = true := by kernel_rfl
theorem jf_maps : ((Rows.fnExactHostLineRow.maps == (Tryz.f3.params.toList ++ Rows.fnExactHostLineSpec.plain.varTypes Tryz.prog).any (Tryz.prog.mapsRec ·))) = true := by kernel_rfl
theorem jf_ifaces : ((Rows.fnExactHostLineRow.ifaces == (Tryz.f3.params.toList ++ Rows.fnExactHostLineSpec.plain.varTypes Tryz.prog).any (Tryz.prog.ifacesRec ·))) = true := by kernel_rfl
theorem jf_mapsO : ((Rows.fnExactHostLineRow.mapsOut == Tryz.prog.mapsAmong Tryz.f3.resultTypes.toList)) = true := by kernel_rfl
theorem jf_loops : ((Rows.fnExactHostLineRow.loops == (Tryz.f3.params.toList ++ Rows.fnExactHostLineSpec.plain.varTypes Tryz.prog).any (Tryz.prog.loopsFrom ·))) = true := by kernel_rfl
theorem jf_wide : ((Rows.fnExactHostLineRow.wideKeys == (Tryz.f3.params.toList ++ Rows.fnExactHostLineSpec.plain.varTypes Tryz.prog ++ Tryz.f3.resultTypes.toList).any (Tryz.prog.wideKeysFrom ·))) = true := by kernel_rfl
theorem jf_varR : (Rows.fnExactHostLineSpec.vars.all (Tryz.prog.varReadable ·)) = true := by kernel_rfl
theorem jf_resT : (Tryz.f3.resultTypes.all (fun t => Tryz.prog.readableRec t && decide (t < Tryz.prog.types.size))) = true := by kernel_rfl
theorem jf_ifO : ((Rows.fnExactHostLineRow.ifacesOut == Tryz.f3.resultTypes.toList.any (Tryz.prog.ifacesRec ·))) = true := by kernel_rfl
theorem jf_loO : ((Rows.fnExactHostLineRow.loopsOut == Tryz.f3.resultTypes.toList.any (Tryz.prog.loopsFrom ·))) = true := by kernel_rfl
theorem jf_kinds : ((Rows.fnExactHostLineRow.kinds == (if Rows.fnExactHostLineRow.domain.isEmpty then [] else Tryz.f3.params.toList.map fun t => match Tryz.prog.underlying t with | some (.int k) => some k | _ => none))) = true := by kernel_rfl
theorem jf_veil : ((Rows.fnExactHostLineRow.veiled == (Tryz.f3.params.toList ++ Rows.fnExactHostLineSpec.plain.varTypes Tryz.prog ++ Tryz.f3.resultTypes.toList).any (Tryz.prog.veiledRec ·))) = true := by kernel_rfl
theorem jf_veilF : (Rows.fnExactHostLineRow.veiledFits Tryz.prog Tryz.f3.params.toList (Tryz.f3.params.toList ++ Rows.fnExactHostLineSpec.plain.varTypes Tryz.prog ++ Tryz.f3.resultTypes.toList)) = true := by kernel_rfl
theorem closed : joinedFacts Tryz.prog 3 Tryz.f3 Rows.fnExactHostLineSpec Rows.fnExactHostLineRow = true :=
 (and_tt (and_tt (and_tt (and_tt (and_tt (and_tt (and_tt (and_tt (and_tt (and_tt (and_tt (and_tt (and_tt (and_tt (and_tt (and_tt (and_tt (and_tt (and_tt (and_tt (and_tt (and_tt (and_tt (and_tt (and_tt (and_tt (and_tt (and_tt (and_tt (and_tt (and_tt jf_wf jfLaid) jfRowed) jf_reads) jf_tie) rfl) jfStops) rfl) jfKnobs) jf_inPl) jf_unfol) jf_recur) jf_varsN) jf_maps) jf_ifaces) jf_mapsO) jf_loops) jf_wide) jf_varR) jf_resT) jf_ifO) jf_loO) jfKeys) rfl) jfHeard) jfEnter) jfLifted) jfMake) jf_kinds) rfl) jf_veil) jf_veilF)
noncomputable def low : Nat := (World.holding Tryz.prog default ⟨#[], #[], []⟩).heap.size
noncomputable def laidWorld (os : Os) : World :=
 let w0 := World.holding Tryz.prog os ⟨#[], #[], []⟩
 { w0 with heap := w0.heap
  |>.modify 8 (fun | .cells _ t f => .cells #[.int .u8 0, .int .u8 1, .int .u8 28, .int .u8 2, .int .u8 29, .int .u8 14, .int .u8 24, .int .u8 3, .int .u8 30, .int .u8 22, .int .u8 20, .int .u8 15, .int .u8 25, .int .u8 17, .int .u8 4, .int .u8 8, .int .u8 31, .int .u8 27, .int .u8 13, .int .u8 23, .int .u8 21, .int .u8 19, .int .u8 16, .int .u8 7, .int .u8 26, .int .u8 12, .int .u8 18, .int .u8 6, .int .u8 11, .int .u8 5, .int .u8 10, .int .u8 9] t f | o => o)
  |>.modify 9 (fun | .cells _ t f => .cells #[.int .u8 0, .int .u8 1, .int .u8 56, .int .u8 2, .int .u8 57, .int .u8 49, .int .u8 28, .int .u8 3, .int .u8 61, .int .u8 58, .int .u8 42, .int .u8 50, .int .u8 38, .int .u8 29, .int .u8 17, .int .u8 4, .int .u8 62, .int .u8 47, .int .u8 59, .int .u8 36, .int .u8 45, .int .u8 43, .int .u8 51, .int .u8 22, .int .u8 53, .int .u8 39, .int .u8 33, .int .u8 30, .int .u8 24, .int .u8 18, .int .u8 12, .int .u8 5, .int .u8 63, .int .u8 55, .int .u8 48, .int .u8 27, .int .u8 60, .int .u8 41, .int .u8 37, .int .u8 16, .int .u8 46, .int .u8 35, .int .u8 44, .int .u8 21, .int .u8 52, .int .u8 32, .int .u8 23, .int .u8 11, .int .u8 54, .int .u8 26, .int .u8 40, .int .u8 15, .int .u8 34, .int .u8 20, .int .u8 31, .int .u8 10, .int .u8 25, .int .u8 14, .int .u8 19, .int .u8 9, .int .u8 13, .int .u8 8, .int .u8 7, .int .u8 6] t f | o => o)
  |>.modify 7 (fun | .cells _ t f => .cells #[.int .u64 1, .int .u64 10, .int .u64 100, .int .u64 1000, .int .u64 10000, .int .u64 100000, .int .u64 1000000, .int .u64 10000000, .int .u64 100000000, .int .u64 1000000000, .int .u64 10000000000, .int .u64 100000000000, .int .u64 1000000000000, .int .u64 10000000000000, .int .u64 100000000000000, .int .u64 1000000000000000, .int .u64 10000000000000000, .int .u64 100000000000000000, .int .u64 1000000000000000000, .int .u64 10000000000000000000] t f | o => o) }
set_option maxRecDepth 100000 in
theorem laid_met (os : Os) (args : Array Value) : laidMet Tryz.prog Rows.fnExactHostLineRow.laid ((laidWorld os).forCall (fun _ _ => 0) ⟨#[], args, []⟩).memory :=
 laidMet_of_run' 8 (by kernel_rfl) (by kernel_rfl)
set_option maxRecDepth 100000 in
theorem lifted (os : Os) (started : os.Started) (H : Type) (enc : TypeId × Value → H) :
  ReturnsInHanded {} Tryz.checked os 3 .any (fun w args => (Rows.fnExactHostLineSpec.pre enc Tryz.prog Tryz.f3 Rows.fnExactHostLineRow.domain false w args ∧ laidMet Tryz.prog Rows.fnExactHostLineRow.laid w) ∧ sizedMet enc Tryz.prog Tryz.f3 (OpenSpec.ofChange Rows.fnExactHostLineSpec) false w args)
   (Rows.fnExactHostLineSpec.post enc Tryz.prog Tryz.f3 false true false false) := by
 refine handed_laid_shaped (C := Tryz.checked) (X := fun w _ => laidMet Tryz.prog Rows.fnExactHostLineRow.laid w) (fun _ _ _ hh h => h.of_heap hh) jfOwn started (by kernel_rfl) Tryz.func3
  (ChangeSpec.witness_at (enc := enc) (C := Tryz.checked) (os := os) (X := fun w _ => laidMet Tryz.prog Rows.fnExactHostLineRow.laid w) false (laidWorld os) #[.agg #[.slice none 0 0, .slice none 0 0, .slice none 0 0, .slice none 0 0, .slice none 0 0], .string ⟨#[]⟩] 8 rfl (by kernel_rfl) (by kernel_rfl) (by kernel_rfl) (by kernel_rfl) (by kernel_rfl) (laid_met os _)) ?_
 intro W base args ds gs before hval0 hW _ hsz0 hsh hL _
 have hval : ∀ (j : Nat) t v, Tryz.f3.params[j]? = some t → args[j]? = some v → Value.okWide Tryz.prog W .any base t v := hval0
 have hW' := hW
 obtain ⟨p, q, hA0, hV, rfl, hfz, hnd⟩ := hW
 have hA : DataW.TrodAll enc Tryz.prog W 0 (fun _ => true) true Tryz.f3.params.toList args.toList ds p := hA0
 rw [Tryz.params3] at hA hval
 obtain ⟨v0, vs0, d0, ds0, p0, q0, hargs, rfl, rfl, h0, r0⟩ := trodAll_cons hA
 obtain ⟨v1, vs1, d1, ds1, p1, q1, rfl, rfl, rfl, h1, r1⟩ := trodAll_cons r0
 obtain ⟨rfl, rfl, rfl⟩ := trodAll_nil r1
 obtain rfl : args = #[v0, v1] := by cases args; simp_all
 obtain ⟨rfl, rfl⟩ := trodVars_none hV
 have k0 := h0
 have lt0 : ∀ x ∈ p0, x.block < W.heap.size := by obtain ⟨m, hm⟩ := k0; exact DataW.trod_lt m _ _ _ hm
 have k1 := h1
 have lt1 : ∀ x ∈ p1, x.block < W.heap.size := by obtain ⟨m, hm⟩ := k1; exact DataW.trod_lt m _ _ _ hm
 obtain ⟨x0, y0, z0⟩ := open_arg tbl_ok (by kernel_rfl) (hval 0 27 v0 rfl rfl) h0
 obtain ⟨x1, y1, z1⟩ := open_arg tbl_ok (by kernel_rfl) (hval 1 9 v1 rfl rfl) h1
 clear hA0 hval0
 refine ((law_run (main [x0, x1] ⟨y0, y1, trivial⟩) ⟨fun p hp => hp.elim, start hL⟩ (show Rs W M0 [x0, x1] [v0, v1] from ⟨_, _, rfl, z0, ⟨_, _, rfl, z1, rfl⟩⟩))).mono fun e W' ⟨he, bel⟩ => ?_
 subst he
 exact ⟨_, rfl, _, _, _, [], _, [], hW', trodAll_mk1 (shut_bool Tryz.underlying4 _), (trodAll_cons_mk (Below.trod jfLaid (by kernel_rfl) (of_decide_eq_true (by kernel_rfl)) k0 bel lt0) (trodAll_cons_mk (Below.trod jfLaid (by kernel_rfl) (of_decide_eq_true (by kernel_rfl)) k1 bel lt1) trodAll_mk0)), rfl, bel.frame _, fun h => by cases h⟩
theorem over : Rows.fnExactHostLineRow.holds Tryz.pinned (OpenSpec.ofChange Rows.fnExactHostLineSpec) :=
 OpenClaim.holds_of_wide 3 Tryz.f3 rfl rfl rfl rfl rfl rfl rfl ⟨rfl, rfl, rfl, rfl, rfl⟩ rfl rfl rfl rfl rfl (by kernel_rfl) Tryz.func3 closed
  (of_decide_eq_true (by kernel_rfl)) (by unfold Func.isWrapper; first | (rw [if_pos (by decide +kernel)]; kernel_rfl) | (rw [if_neg (by decide +kernel)]; exact ⟨rfl, rfl⟩))
  (fun os started H enc _ => lifted os started H enc)

theorem row_tie : Rows.fnExactHostLineRow.laidByTextAt .later Tryz.pinned [.data, .data, .data] true := fnExactHostLine_row_tie
theorem proved : Rows.FnExactHostLineCardSaid :=
 Claim7.holds_tied_plain_at .later [] [.data, .data, .data] true Rows.fnExactHostLineCard.stood.harness true
  over (fun _ h => by cases h) (by kernel_rfl) (fun _ h => by cases h) row_tie rfl ⟨rfl, rfl⟩ (by kernel_rfl) rfl
  (fun f fn hf hfn => by
   obtain rfl : f = 3 := Option.some.inj ((show Tryz.prog.funcNamed Rows.fnExactHostLineRow.func = some 3 by kernel_rfl).symm.trans hf) |>.symm
   obtain rfl : fn = Tryz.f3 := (Option.some.inj (Tryz.func3.symm.trans hfn)).symm
   exact ⟨by kernel_rfl, stand_in (by kernel_rfl)⟩)
  (by kernel_rfl)
#print axioms proved
end Go.Proofs.YtjmakbnblpjkhaaGreatDoor.lawFnExactHostLine
