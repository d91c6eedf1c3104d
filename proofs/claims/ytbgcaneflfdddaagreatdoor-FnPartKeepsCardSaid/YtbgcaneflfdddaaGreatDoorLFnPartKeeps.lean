/- FnPartKeeps holds for every input, in every start where the variables hold what the program's text lays: the law's condition, met by the contracts of what it calls; the row; the card. -/
import Derived.Test.YtbgcaneflfdddaaGreatDoorD19
import Derived.Test.YtbgcaneflfdddaaGreatDoorD20
namespace Go.Proofs.YtbgcaneflfdddaaGreatDoor.lawFnPartKeeps
open Go.ChangeShapes Go.WideShapes Go.ChangeAt Go.RowKit
set_option linter.unusedVariables false
set_option linter.unusedSimpArgs false
set_option maxRecDepth 100000
instance instGC : GC where
 inv := fun w => GHas w 1 (fun cs => ∃ tp p, cs = #[.iface tp p]) ∧ GHas w 0 (fun cs => ∃ m, cs[0]? = some (Value.int .i64 m)) ∧ GHas w 3 (fun cs => cs = (Lib.pow10Tab.map fun z => Value.int .u64 z).toArray)
 ng := 3 + 1
 keep := fun h k => ⟨k.1.keep (by decide) h, k.2.1.keep (by decide) h, k.2.2.keep (by decide) h⟩
instance : HasErr := ⟨fun _ h => h.1⟩
instance : HasMax := ⟨fun _ h => h.2.1⟩
instance : HasPow := ⟨fun _ h => h.2.2⟩
theorem start {W : World} (hsh : W.ShapedOpen Tryz.prog) (hL : laidMet Tryz.prog Rows.fnPartKeepsRow.laid W) : GInv W ∧ NG ≤ W.heap.size := by
 have h := seat_pow (by kernel_rfl) hL.tail.tail
 exact ⟨⟨seat_err (by kernel_rfl) hL.tail.tail.tail.tail.tail, seat_max hsh, h⟩, ghas_lt h⟩
theorem code_arg {Γ : List VT} (hΓ : Γ = [.one (.c (.sl 5))]) {ds : List D} (h : HasTys tbl.tab Γ ds) : ∃ rows, ds = [.sl rows] ∧ RowsTy tbl.tab (tbl.tab 5) rows ∧ RowsTy tbl.tab [.int .u8] rows := by
 subst hΓ
 match ds, h with
 | [d], h => obtain ⟨rows, rfl, hr⟩ := hasTy_sl h.1; exact ⟨rows, rfl, hr, by rwa [tab_u8] at hr⟩
theorem main (ds : List D) (h : HasTys tbl.tab ty_laws_FnPartKeeps ds) : Fun Tryz.prog 10 none ds (.bool true) [] := by
 obtain ⟨rows, rfl, hr0, hr⟩ := code_arg rfl h
 refine Fun.ofV vc_laws_FnPartKeeps_ok ty_laws_FnPartKeeps_ok rfl ?_ (fun hfit => ?_)
 ·exact h
 unfold vc_laws_FnPartKeeps
 ((first | refine den_call ?_ (c_laws_big rows hr0) (trivial) ?_ | refine den_callR ?_ (c_laws_big rows hr0) (trivial) ?_ | refine den_call ?_ (.ofR (c_laws_big rows hr0)) (trivial) ?_); (focus (simp only [VC.den, E.den, dEq, gsH_nil, and_true]; try exact rfl)); (simp only [cA]))
 refine den_ite (fun _ => den_ret rfl) (fun _ => ?_)
 ((first | refine den_callE ?_ (d_DrawCallParts hr) (fun _ h => isPS.ty h) ?_ | refine den_callRE ?_ (d_DrawCallParts hr) (fun _ h => isPS.ty h) ?_ | refine den_callE ?_ (exR (d_DrawCallParts hr)) (fun _ h => isPS.ty h) ?_); (focus (simp only [VC.den, E.den, dEq, gsH_nil, and_true]; try exact rfl)); rintro _ ⟨p, l, rfl, hp, hl8, hl⟩; (simp only [cA]))
 ((first | refine den_call ?_ (c_impl_IsPart p) (trivial) ?_ | refine den_callR ?_ (c_impl_IsPart p) (trivial) ?_ | refine den_call ?_ (.ofR (c_impl_IsPart p)) (trivial) ?_); (focus (simp only [VC.den, E.den, dEq, gsH_nil, and_true]; try exact rfl)); (simp only [cA]))
 ((first | refine den_call ?_ (c_spec_IsPart p) (trivial) ?_ | refine den_callR ?_ (c_spec_IsPart p) (trivial) ?_ | refine den_call ?_ (.ofR (c_spec_IsPart p)) (trivial) ?_); (focus (simp only [VC.den, E.den, dEq, gsH_nil, and_true]; try exact rfl)); (simp only [cA]))
 refine den_ite (fun h1 => ?_) (fun h1 => ?_)
 ·simp only [E.den, dEq, iEq, sEq] at h1
  simp at h1
 ((first | refine den_call ?_ (c_impl_IsPart p) (trivial) ?_ | refine den_callR ?_ (c_impl_IsPart p) (trivial) ?_ | refine den_call ?_ (.ofR (c_impl_IsPart p)) (trivial) ?_); (focus (simp only [VC.den, E.den, dEq, gsH_nil, and_true]; try exact rfl)); (simp only [cA]))
 refine den_ite (fun h2 => den_ret rfl) (fun h2 => ?_)
 simp only [E.den, dEq, iEq, sEq] at h2
 have hpp : partB p = true := by simpa using h2
 obtain ⟨hq, hs⟩ := calls_keeps l hpp
 have hqb := partB_small hq
 have hpb := partB_small hpp
 ((first | refine den_call ?_ (c_impl_CallParts p l hp (by omega) hl) (⟨ty_Part _, ty_ReplyS _, trivial⟩) ?_ | refine den_callR ?_ (c_impl_CallParts p l hp (by omega) hl) (⟨ty_Part _, ty_ReplyS _, trivial⟩) ?_ | refine den_call ?_ (.ofR (c_impl_CallParts p l hp (by omega) hl)) (⟨ty_Part _, ty_ReplyS _, trivial⟩) ?_); (focus (simp only [VC.den, E.den, dEq, gsH_nil, and_true]; try exact rfl)); (simp only [cA]))
 ((first | refine den_call ?_ (c_impl_IsPart (callsD p l).1) (trivial) ?_ | refine den_callR ?_ (c_impl_IsPart (callsD p l).1) (trivial) ?_ | refine den_call ?_ (.ofR (c_impl_IsPart (callsD p l).1)) (trivial) ?_); (focus (simp only [VC.den, E.den, dEq, gsH_nil, and_true]; try exact rfl)); (simp only [cA]))
 ((first | refine den_call ?_ (c_impl_RecipeOf p (by omega)) (ty_strS _) ?_ | refine den_callR ?_ (c_impl_RecipeOf p (by omega)) (ty_strS _) ?_ | refine den_call ?_ (.ofR (c_impl_RecipeOf p (by omega))) (ty_strS _) ?_); (focus (simp only [VC.den, E.den, dEq, gsH_nil, and_true]; try exact rfl)); (simp only [cA]))
 ((first | refine den_call ?_ (c_impl_RecipeOf (callsD p l).1 (by omega)) (ty_strS _) ?_ | refine den_callR ?_ (c_impl_RecipeOf (callsD p l).1 (by omega)) (ty_strS _) ?_ | refine den_call ?_ (.ofR (c_impl_RecipeOf (callsD p l).1 (by omega))) (ty_strS _) ?_); (focus (simp only [VC.den, E.den, dEq, gsH_nil, and_true]; try exact rfl)); (simp only [cA]))
 ((first | refine den_call ?_ (c_laws_texts (recP p) (recP (callsD p l).1)) (trivial) ?_ | refine den_callR ?_ (c_laws_texts (recP p) (recP (callsD p l).1)) (trivial) ?_ | refine den_call ?_ (.ofR (c_laws_texts (recP p) (recP (callsD p l).1))) (trivial) ?_); (focus (simp only [VC.den, E.den, dEq, gsH_nil, and_true]; try exact rfl)); (simp only [cA]))
 ((first | refine den_call ?_ (c_impl_FaceOf p) (rfl) ?_ | refine den_callR ?_ (c_impl_FaceOf p) (rfl) ?_ | refine den_call ?_ (.ofR (c_impl_FaceOf p)) (rfl) ?_); (focus (simp only [VC.den, E.den, dEq, gsH_nil, and_true]; try exact rfl)); (simp only [cA]))
 ((first | refine den_call ?_ (c_impl_FaceOf (callsD p l).1) (rfl) ?_ | refine den_callR ?_ (c_impl_FaceOf (callsD p l).1) (rfl) ?_ | refine den_call ?_ (.ofR (c_impl_FaceOf (callsD p l).1)) (rfl) ?_); (focus (simp only [VC.den, E.den, dEq, gsH_nil, and_true]; try exact rfl)); (simp only [cA]))
 refine den_ret ?_
 simp only [E.den, dEq, iEq, sEq]
 have e1 : recP (callsD p l).1 = recP p := by unfold recP; rw [hs.kind, hs.names]
 have e2 : faceOf (callsD p l).1 = faceOf p := by unfold faceOf; rw [hs.len]; exact hs.face (Nat.le_refl _)
 rw [hq, e1, e2]
 simp

set_option maxRecDepth 100000
theorem jf_wf : (Rows.fnPartKeepsRow.wf (OpenSpec.ofChange Rows.fnPartKeepsSpec)) = true := by kernel_rfl
theorem jf_reads : (Tryz.f10.params.all (Tryz.prog.readableRec ·)) = true := by kernel_rfl
theorem jf_tie : (namedTie Tryz.prog Rows.fnPartKeepsRow.named Rows.fnPartKeepsSpec.vars) = true := by kernel_rfl
theorem jf_inPl : ((Rows.fnPartKeepsRow.inPlace == Tryz.prog.inPlace 10)) = true := by kernel_rfl
theorem jf_unfol : ((Rows.fnPartKeepsRow.unfollowed == Tryz.prog.unfollowed 10)) = true := by kernel_rfl
theorem jf_recur : ((Rows.fnPartKeepsRow.recurses == Tryz.prog.recurses 10)) = true := by kernel_rfl
theorem jf_varsN : ((Rows.fnPartKeepsRow.named == Tryz.prog.varsNamed 10)) = true := by kernel_rfl
theorem jf_maps : ((Rows.fnPartKeepsRow.maps == (Tryz.f10.params.toList ++ Rows.fnPartKeepsSpec.plain.varTypes Tryz.prog).any (Tryz.prog.mapsRec ·))) = true := by kernel_rfl
theorem jf_ifaces : ((Rows.fnPartKeepsRow.ifaces == (Tryz.f10.params.toList ++ Rows.fnPartKeepsSpec.plain.varTypes Tryz.prog).any (Tryz.prog.ifacesRec ·))) = true := by kernel_rfl
theorem jf_mapsO : ((Rows.fnPartKeepsRow.mapsOut == Tryz.prog.mapsAmong Tryz.f10.resultTypes.toList)) = true := by kernel_rfl
theorem jf_loops : ((Rows.fnPartKeepsRow.loops == (Tryz.f10.params.toList ++ Rows.fnPartKeepsSpec.plain.varTypes Tryz.prog).any (Tryz.prog.loopsFrom ·))) = true := by kernel_rfl
theorem jf_wide : ((Rows.fnPartKeepsRow.wideKeys == (Tryz.f10.params.toList ++ Rows.fnPartKeepsSpec.plain.varTypes Tryz.prog ++ Tryz.f10.resultTypes.toList).any (Tryz.prog.wideKeysFrom ·))) = true := by kernel_rfl
theorem jf_varR : (Rows.fnPartKeepsSpec.vars.all (Tryz.prog.varReadable ·)) = true := by kernel_rfl
theorem jf_resT : (Tryz.f10.resultTypes.all (fun t => Tryz.prog.readableRec t && decide (t < Tryz.prog.types.size))) = true := by kernel_rfl
theorem jf_ifO : ((Rows.fnPartKeepsRow.ifacesOut == Tryz.f10.resultTypes.toList.any (Tryz.prog.ifacesRec ·))) = true := by kernel_rfl
theorem jf_loO : ((Rows.fnPartKeepsRow.loopsOut == Tryz.f10.resultTypes.toList.any (Tryz.prog.loopsFrom ·))) = true := by kernel_rfl
theorem jf_kinds : ((Rows.fnPartKeepsRow.kinds == (if Rows.fnPartKeepsRow.domain.isEmpty then [] else Tryz.f10.params.toList.map fun t => match Tryz.prog.underlying t with | some (.int k) => some k | _ => none))) = true := by kernel_rfl
theorem jf_veil : ((Rows.fnPartKeepsRow.veiled == (Tryz.f10.params.toList ++ Rows.fnPartKeepsSpec.plain.varTypes Tryz.prog ++ Tryz.f10.resultTypes.toList).any (Tryz.prog.veiledRec ·))) = true := by kernel_rfl
theorem jf_veilF : (Rows.fnPartKeepsRow.veiledFits Tryz.prog Tryz.f10.params.toList (Tryz.f10.params.toList ++ Rows.fnPartKeepsSpec.plain.varTypes Tryz.prog ++ Tryz.f10.resultTypes.toList)) = true := by kernel_rfl
theorem closed : joinedFacts Tryz.prog 10 Tryz.f10 Rows.fnPartKeepsSpec Rows.fnPartKeepsRow = true :=
 (and_tt (and_tt (and_tt (and_tt (and_tt (and_tt (and_tt (and_tt (and_tt (and_tt (and_tt (and_tt (and_tt (and_tt (and_tt (and_tt (and_tt (and_tt (and_tt (and_tt (and_tt (and_tt (and_tt (and_tt (and_tt (and_tt (and_tt (and_tt (and_tt (and_tt (and_tt jf_wf jfLaid) jfRowed) jf_reads) jf_tie) rfl) jfStops) rfl) jfKnobs) jf_inPl) jf_unfol) jf_recur) jf_varsN) jf_maps) jf_ifaces) jf_mapsO) jf_loops) jf_wide) jf_varR) jf_resT) jf_ifO) jf_loO) jfKeys) rfl) jfHeard) jfEnter) jfLifted) jfMake) jf_kinds) rfl) jf_veil) jf_veilF)
noncomputable def low : Nat := (World.holding Tryz.prog default ⟨#[], #[], []⟩).heap.size
noncomputable def laidWorld (os : Os) : World :=
 let w0 := World.holding Tryz.prog os ⟨#[.cells #[.string ⟨#[118, 97, 108, 117, 101, 32, 111, 117, 116, 32, 111, 102, 32, 114, 97, 110, 103, 101]⟩] 213, .cells #[.string ⟨#[105, 110, 118, 97, 108, 105, 100, 32, 115, 121, 110, 116, 97, 120]⟩] 213], #[], []⟩
 { w0 with heap := w0.heap
  |>.modify 6 (fun | .cells _ t f => .cells #[.int .u8 0, .int .u8 1, .int .u8 28, .int .u8 2, .int .u8 29, .int .u8 14, .int .u8 24, .int .u8 3, .int .u8 30, .int .u8 22, .int .u8 20, .int .u8 15, .int .u8 25, .int .u8 17, .int .u8 4, .int .u8 8, .int .u8 31, .int .u8 27, .int .u8 13, .int .u8 23, .int .u8 21, .int .u8 19, .int .u8 16, .int .u8 7, .int .u8 26, .int .u8 12, .int .u8 18, .int .u8 6, .int .u8 11, .int .u8 5, .int .u8 10, .int .u8 9] t f | o => o)
  |>.modify 7 (fun | .cells _ t f => .cells #[.int .u8 0, .int .u8 1, .int .u8 56, .int .u8 2, .int .u8 57, .int .u8 49, .int .u8 28, .int .u8 3, .int .u8 61, .int .u8 58, .int .u8 42, .int .u8 50, .int .u8 38, .int .u8 29, .int .u8 17, .int .u8 4, .int .u8 62, .int .u8 47, .int .u8 59, .int .u8 36, .int .u8 45, .int .u8 43, .int .u8 51, .int .u8 22, .int .u8 53, .int .u8 39, .int .u8 33, .int .u8 30, .int .u8 24, .int .u8 18, .int .u8 12, .int .u8 5, .int .u8 63, .int .u8 55, .int .u8 48, .int .u8 27, .int .u8 60, .int .u8 41, .int .u8 37, .int .u8 16, .int .u8 46, .int .u8 35, .int .u8 44, .int .u8 21, .int .u8 52, .int .u8 32, .int .u8 23, .int .u8 11, .int .u8 54, .int .u8 26, .int .u8 40, .int .u8 15, .int .u8 34, .int .u8 20, .int .u8 31, .int .u8 10, .int .u8 25, .int .u8 14, .int .u8 19, .int .u8 9, .int .u8 13, .int .u8 8, .int .u8 7, .int .u8 6] t f | o => o)
  |>.modify 3 (fun | .cells _ t f => .cells #[.int .u64 1, .int .u64 10, .int .u64 100, .int .u64 1000, .int .u64 10000, .int .u64 100000, .int .u64 1000000, .int .u64 10000000, .int .u64 100000000, .int .u64 1000000000, .int .u64 10000000000, .int .u64 100000000000, .int .u64 1000000000000, .int .u64 10000000000000, .int .u64 100000000000000, .int .u64 1000000000000000, .int .u64 10000000000000000, .int .u64 100000000000000000, .int .u64 1000000000000000000, .int .u64 10000000000000000000] t f | o => o)
  |>.modify 5 (fun | .cells _ t f => .cells #[.int .u8 128, .int .u8 191, .int .u8 160, .int .u8 191, .int .u8 128, .int .u8 159, .int .u8 144, .int .u8 191, .int .u8 128, .int .u8 143, .int .u8 0, .int .u8 0, .int .u8 0, .int .u8 0, .int .u8 0, .int .u8 0, .int .u8 0, .int .u8 0, .int .u8 0, .int .u8 0, .int .u8 0, .int .u8 0, .int .u8 0, .int .u8 0, .int .u8 0, .int .u8 0, .int .u8 0, .int .u8 0, .int .u8 0, .int .u8 0, .int .u8 0, .int .u8 0] t f | o => o)
  |>.modify 2 (fun | .cells _ t f => .cells #[.iface 211 (.pointer (some ⟨low + 0, 0, none⟩))] t f | o => o)
  |>.modify 1 (fun | .cells _ t f => .cells #[.iface 211 (.pointer (some ⟨low + 1, 0, none⟩))] t f | o => o)
  |>.modify 4 (fun | .cells _ t f => .cells #[.int .u8 240, .int .u8 240, .int .u8 240, .int .u8 240, .int .u8 240, .int .u8 240, .int .u8 240, .int .u8 240, .int .u8 240, .int .u8 240, .int .u8 240, .int .u8 240, .int .u8 240, .int .u8 240, .int .u8 240, .int .u8 240, .int .u8 240, .int .u8 240, .int .u8 240, .int .u8 240, .int .u8 240, .int .u8 240, .int .u8 240, .int .u8 240, .int .u8 240, .int .u8 240, .int .u8 240, .int .u8 240, .int .u8 240, .int .u8 240, .int .u8 240, .int .u8 240, .int .u8 240, .int .u8 240, .int .u8 240, .int .u8 240, .int .u8 240, .int .u8 240, .int .u8 240, .int .u8 240, .int .u8 240, .int .u8 240, .int .u8 240, .int .u8 240, .int .u8 240, .int .u8 240, .int .u8 240, .int .u8 240, .int .u8 240, .int .u8 240, .int .u8 240, .int .u8 240, .int .u8 240, .int .u8 240, .int .u8 240, .int .u8 240, .int .u8 240, .int .u8 240, .int .u8 240, .int .u8 240, .int .u8 240, .int .u8 240, .int .u8 240, .int .u8 240, .int .u8 240, .int .u8 240, .int .u8 240, .int .u8 240, .int .u8 240, .int .u8 240, .int .u8 240, .int .u8 240, .int .u8 240, .int .u8 240, .int .u8 240, .int .u8 240, .int .u8 240, .int .u8 240, .int .u8 240, .int .u8 240, .int .u8 240, .int .u8 240, .int .u8 240, .int .u8 240, .int .u8 240, .int .u8 240, .int .u8 240, .int .u8 240, .int .u8 240, .int .u8 240, .int .u8 240, .int .u8 240, .int .u8 240, .int .u8 240, .int .u8 240, .int .u8 240, .int .u8 240, .int .u8 240, .int .u8 240, .int .u8 240, .int .u8 240, .int .u8 240, .int .u8 240, .int .u8 240, .int .u8 240, .int .u8 240, .int .u8 240, .int .u8 240, .int .u8 240, .int .u8 240, .int .u8 240, .int .u8 240, .int .u8 240, .int .u8 240, .int .u8 240, .int .u8 240, .int .u8 240, .int .u8 240, .int .u8 240, .int .u8 240, .int .u8 240, .int .u8 240, .int .u8 240, .int .u8 240, .int .u8 240, .int .u8 240, .int .u8 240, .int .u8 240, .int .u8 241, .int .u8 241, .int .u8 241, .int .u8 241, .int .u8 241, .int .u8 241, .int .u8 241, .int .u8 241, .int .u8 241, .int .u8 241, .int .u8 241, .int .u8 241, .int .u8 241, .int .u8 241, .int .u8 241, .int .u8 241, .int .u8 241, .int .u8 241, .int .u8 241, .int .u8 241, .int .u8 241, .int .u8 241, .int .u8 241, .int .u8 241, .int .u8 241, .int .u8 241, .int .u8 241, .int .u8 241, .int .u8 241, .int .u8 241, .int .u8 241, .int .u8 241, .int .u8 241, .int .u8 241, .int .u8 241, .int .u8 241, .int .u8 241, .int .u8 241, .int .u8 241, .int .u8 241, .int .u8 241, .int .u8 241, .int .u8 241, .int .u8 241, .int .u8 241, .int .u8 241, .int .u8 241, .int .u8 241, .int .u8 241, .int .u8 241, .int .u8 241, .int .u8 241, .int .u8 241, .int .u8 241, .int .u8 241, .int .u8 241, .int .u8 241, .int .u8 241, .int .u8 241, .int .u8 241, .int .u8 241, .int .u8 241, .int .u8 241, .int .u8 241, .int .u8 241, .int .u8 241, .int .u8 2, .int .u8 2, .int .u8 2, .int .u8 2, .int .u8 2, .int .u8 2, .int .u8 2, .int .u8 2, .int .u8 2, .int .u8 2, .int .u8 2, .int .u8 2, .int .u8 2, .int .u8 2, .int .u8 2, .int .u8 2, .int .u8 2, .int .u8 2, .int .u8 2, .int .u8 2, .int .u8 2, .int .u8 2, .int .u8 2, .int .u8 2, .int .u8 2, .int .u8 2, .int .u8 2, .int .u8 2, .int .u8 2, .int .u8 2, .int .u8 19, .int .u8 3, .int .u8 3, .int .u8 3, .int .u8 3, .int .u8 3, .int .u8 3, .int .u8 3, .int .u8 3, .int .u8 3, .int .u8 3, .int .u8 3, .int .u8 3, .int .u8 35, .int .u8 3, .int .u8 3, .int .u8 52, .int .u8 4, .int .u8 4, .int .u8 4, .int .u8 68, .int .u8 241, .int .u8 241, .int .u8 241, .int .u8 241, .int .u8 241, .int .u8 241, .int .u8 241, .int .u8 241, .int .u8 241, .int .u8 241, .int .u8 241] t f | o => o) }
set_option maxRecDepth 100000 in
theorem laid_met (os : Os) (args : Array Value) : laidMet Tryz.prog Rows.fnPartKeepsRow.laid ((laidWorld os).forCall (fun _ _ => 0) ⟨#[], args, []⟩).memory :=
 laidMet_of_run' 8 (by kernel_rfl) (by kernel_rfl)
set_option maxRecDepth 100000 in
theorem lifted (os : Os) (started : os.Started) (H : Type) (enc : TypeId × Value → H) :
  ReturnsInHanded {} Tryz.checked os 10 .any (fun w args => (Rows.fnPartKeepsSpec.pre enc Tryz.prog Tryz.f10 Rows.fnPartKeepsRow.domain false w args ∧ laidMet Tryz.prog Rows.fnPartKeepsRow.laid w) ∧ sizedMet enc Tryz.prog Tryz.f10 (OpenSpec.ofChange Rows.fnPartKeepsSpec) false w args)
   (Rows.fnPartKeepsSpec.post enc Tryz.prog Tryz.f10 false true false false) := by
 refine handed_laid_shaped (C := Tryz.checked) (X := fun w _ => laidMet Tryz.prog Rows.fnPartKeepsRow.laid w) (fun _ _ _ hh h => h.of_heap hh) jfOwn started (by kernel_rfl) Tryz.func10
  (ChangeSpec.witness_at (enc := enc) (C := Tryz.checked) (os := os) (X := fun w _ => laidMet Tryz.prog Rows.fnPartKeepsRow.laid w) false (laidWorld os) #[.slice none 0 0] 8 rfl (by kernel_rfl) (by kernel_rfl) (by kernel_rfl) (by kernel_rfl) (by kernel_rfl) (laid_met os _)) ?_
 intro W base args ds gs before hval0 hW _ hsz0 hsh hL _
 have hval : ∀ (j : Nat) t v, Tryz.f10.params[j]? = some t → args[j]? = some v → Value.okWide Tryz.prog W .any base t v := hval0
 have hW' := hW
 obtain ⟨p, q, hA0, hV, rfl, hfz, hnd⟩ := hW
 have hA : DataW.TrodAll enc Tryz.prog W 0 (fun _ => true) true Tryz.f10.params.toList args.toList ds p := hA0
 rw [Tryz.params10] at hA hval
 obtain ⟨v0, vs0, d0, ds0, p0, q0, hargs, rfl, rfl, h0, r0⟩ := trodAll_cons hA
 obtain ⟨rfl, rfl, rfl⟩ := trodAll_nil r0
 obtain rfl : args = #[v0] := by cases args; simp_all
 obtain ⟨rfl, rfl⟩ := trodVars_none hV
 have k0 := h0
 have lt0 : ∀ x ∈ p0, x.block < W.heap.size := by obtain ⟨m, hm⟩ := k0; exact DataW.trod_lt m _ _ _ hm
 obtain ⟨x0, y0, z0⟩ := open_arg tbl_ok (by kernel_rfl) (hval 0 22 v0 rfl rfl) h0
 clear hA0 hval0
 refine ((law_run (main [x0] ⟨y0, trivial⟩) ⟨fun p hp => hp.elim, start hsh hL⟩ (show Rs W M0 [x0] [v0] from ⟨_, _, rfl, z0, rfl⟩))).mono fun e W' ⟨he, bel⟩ => ?_
 subst he
 exact ⟨_, rfl, _, _, _, [], _, [], hW', trodAll_mk1 (shut_bool Tryz.underlying4 _), (trodAll_cons_mk (Below.trod jfLaid (by kernel_rfl) (of_decide_eq_true (by kernel_rfl)) k0 bel lt0) trodAll_mk0), rfl, bel.frame _, fun h => by cases h⟩
theorem over : Rows.fnPartKeepsRow.holds Tryz.pinned (OpenSpec.ofChange Rows.fnPartKeepsSpec) :=
 OpenClaim.holds_of_wide 10 Tryz.f10 rfl rfl rfl rfl rfl rfl rfl ⟨rfl, rfl, rfl, rfl, rfl⟩ rfl rfl rfl rfl rfl (by kernel_rfl) Tryz.func10 closed
  (of_decide_eq_true (by kernel_rfl)) (by unfold Func.isWrapper; first | (rw [if_pos (by decide +kernel)]; kernel_rfl) | (rw [if_neg (by decide +kernel)]; exact ⟨rfl, rfl⟩))
  (fun os started H enc _ => lifted os started H enc)

theorem row_tie : Rows.fnPartKeepsRow.laidByTextAt .later Tryz.pinned [.data, .data, .data, .data, .sentinel, .sentinel, .pinned] true := fnPartKeeps_row_tie
theorem proved : Rows.FnPartKeepsCardSaid :=
 Claim7.holds_tied_plain_at .later [] [.data, .data, .data, .data, .sentinel, .sentinel, .pinned] true Rows.fnPartKeepsCard.stood.harness true
  over (fun _ h => by cases h) (by kernel_rfl) (fun _ h => by cases h) row_tie rfl ⟨rfl, rfl⟩ (by kernel_rfl) rfl
  (fun f fn hf hfn => by
   obtain rfl : f = 10 := Option.some.inj ((show Tryz.prog.funcNamed Rows.fnPartKeepsRow.func = some 10 by kernel_rfl).symm.trans hf) |>.symm
   obtain rfl : fn = Tryz.f10 := (Option.some.inj (Tryz.func10.symm.trans hfn)).symm
   exact ⟨by kernel_rfl, stand_in (by kernel_rfl)⟩)
  (by kernel_rfl)
#print axioms proved
end Go.Proofs.YtbgcaneflfdddaaGreatDoor.lawFnPartKeeps
