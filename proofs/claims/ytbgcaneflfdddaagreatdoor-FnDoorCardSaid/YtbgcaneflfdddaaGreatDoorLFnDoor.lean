/- FnDoor holds for every input, in every start where the variables hold what the program's text lays: the law's condition, met by the contracts of what it calls; the row; the card. -/
import Derived.Test.YtbgcaneflfdddaaGreatDoorE19
import Derived.Test.YtbgcaneflfdddaaGreatDoorE20
namespace Go.Proofs.YtbgcaneflfdddaaGreatDoor.lawFnDoor
open Go.ChangeShapes Go.WideShapes Go.ChangeAt Go.RowKit
set_option linter.unusedVariables false
set_option linter.unusedSimpArgs false
set_option maxRecDepth 100000
instance instGC : GC where
 inv := fun w => GHas w 1 (fun cs => ∃ tp p, cs = #[.iface tp p]) ∧ GHas w 0 (fun cs => ∃ m, cs[0]? = some (Value.int .i64 m)) ∧ GHas w 3 (fun cs => cs = (Lib.pow10Tab.map fun z => Value.int .u64 z).toArray)
 ng := 3 + 1
 keep := fun h k => ⟨k.1.keep (by decide) h, k.2.1.keep (by decide) h, k.2.2.keep (by decide) h⟩
instance : HasErr := ⟨fun _ h => h.1⟩
instance : HasMax := ⟨fun _ h => h.2.1⟩
instance : HasPow := ⟨fun _ h => h.2.2⟩
theorem start {W : World} (hsh : W.ShapedOpen Tryz.prog) (hL : laidMet Tryz.prog Rows.fnDoorRow.laid W) : GInv W ∧ NG ≤ W.heap.size := by
 have h := seat_pow (by kernel_rfl) hL.tail.tail
 exact ⟨⟨seat_err (by kernel_rfl) hL.tail.tail.tail.tail.tail, seat_max hsh, h⟩, ghas_lt h⟩
theorem code_arg {Γ : List VT} (hΓ : Γ = [.one (.c (.sl 5))]) {ds : List D} (h : HasTys tbl.tab Γ ds) : ∃ rows, ds = [.sl rows] ∧ RowsTy tbl.tab (tbl.tab 5) rows ∧ RowsTy tbl.tab [.int .u8] rows := by
 subst hΓ
 match ds, h with
 | [d], h => obtain ⟨rows, rfl, hr⟩ := hasTy_sl h.1; exact ⟨rows, rfl, hr, by rwa [tab_u8] at hr⟩
theorem main (ds : List D) (h : HasTys tbl.tab ty_laws_FnDoor ds) : Fun Tryz.prog 11 none ds (.bool true) [] := by
 obtain ⟨rows, rfl, hr0, hr⟩ := code_arg rfl h
 refine Fun.ofV vc_laws_FnDoor_ok ty_laws_FnDoor_ok rfl ?_ (fun hfit => ?_)
 ·exact h
 unfold vc_laws_FnDoor
 (refine den_call ?_ (c_laws_big rows hr0) (trivial) ?_; (focus (simp only [VC.den, E.den, dEq, gsH_nil, and_true]; try exact rfl)); (simp only [cA]))
 refine den_ite (fun _ => den_ret rfl) (fun _ => ?_)
 (refine den_callRE ?_ (d_DrawCallParts hr) (fun _ h => isPS.ty h) ?_; (focus (simp only [VC.den, E.den, dEq, gsH_nil, and_true]; try exact rfl)); rintro _ ⟨p, l, rfl, hp, hl8, hl⟩; (simp only [cA]))
 (refine den_callR ?_ (c_impl_CallParts p l hp (by omega) hl) (⟨ty_Part _, ty_ReplyS _, trivial⟩) ?_; (focus (simp only [VC.den, E.den, dEq, gsH_nil, and_true]; try exact rfl)); (simp only [cA]))
 have hR := calls_runs l p
 have hS := calls_skip l p
 have hq : smallP (callsD p l).1 := by rw [hR.fin]; exact smallP_st hp l _
 generalize callsD p l = cd at hR hS hq ⊢
 obtain ⟨q, r⟩ := cd
 simp only at hR hS hq ⊢
 have hrl := hR.len
 refine den_for r.length (fun k => [.int .i64 k, .str (stD p l k).core.kind, .bool (stD p l k).core.on, .bool (stD p l k).core.broken, encS (stD p l k).core.cells, .int .i64 (stD p l k).core.count, encS (stD p l k).layers]) (fun _ => True) (by simp only [E.den, dEq, iEq, sEq, cells_Part]; rfl) trivial ?_
 intro k hk _ _
 simp only [cA]
 have hs := smallP_st hp l k
 refine den_ite (fun h2 => ?_) (fun h2 => ?_)
 ·simp only [E.den, dEq, iEq, sEq] at h2
  have h2 : k < r.length := by simpa using h2
  have hx := hl _ (nth_mem (show k < l.length by omega))
  refine den_cond (fun _ => ?_) ?_
  ·simp only [E.den, dEq, iEq, sEq]; simp; omega
  (refine den_callR ?_ (c_CallS (stD p l k) (nth l k) hs hx) (⟨ty_Part _, ty_Reply _, trivial⟩) ?_; (focus (simp only [VC.den, E.den, dEq, gsH_nil, and_true, row_Call, cells_Part, enc, List.singleton_append]; try exact rfl)); (simp only [cA]))
  refine den_cond (fun _ => ?_) ?_
  ·simp only [E.den, dEq, iEq, sEq]; simp; omega
  refine den_ite (fun h3 => ?_) (fun h3 => ?_)
  ·exfalso
   simp only [E.den, dEq, iEq, sEq, row_Reply, eqv_Reply] at h3
   simp only [E.den, dEq, iEq, sEq, cells_Reply] at h3
   rw [← hR.at' k h2, ar_add (by omega) (by omega)] at h3
   have ho := hR.one k h2
   simp at h3
   have := ho h3.1
   omega
  ·refine den_next h2 ?_ trivial
   simp only [E.den, dEq, iEq, sEq, cells_Part]
   rw [ar_add (by omega) (by omega)]
   simp [stD]
 ·simp only [E.den, dEq, iEq, sEq] at h2
  obtain rfl : k = r.length := by simp at h2; omega
  have hf := hR.fin
  (refine den_call ?_ (c_impl_SamePart (stD p l r.length) q) (trivial) ?_; (focus (simp only [VC.den, E.den, dEq, gsH_nil, and_true, cells_Part, enc, List.singleton_append]; try exact rfl)); (simp only [cA]))
  have hz : arI .sub .i64 (r.length : Int) 1 = (r.length : Int) - 1 := ar_sub (by omega) (by omega)
  have ht : r ≠ [] → ((r.length : Int) - 1).toNat = r.length - 1 := fun _ => by omega
  have hin : r ≠ [] → (0 : Int) ≤ (r.length : Int) - 1 ∧ (r.length : Int) - 1 < (r.length : Int) := fun h => by have := List.length_pos_iff.2 h; omega
  have hne : ¬ (r.length : Int) = 0 → r ≠ [] := fun h e => h (by rw [e]; rfl)
  refine den_cond (fun hg => ?_) ?_
  ·simp only [gsH, gE, E.den, dEq, iEq, sEq] at hg
   simp only [D.bool.injEq, beq_eq_false_iff_ne] at hg
   have := hin (hne hg.2.2)
   simp only [E.den, dEq, iEq, sEq, hz]
   simpa using this
  refine den_ite (fun h3 => ?_) (fun h3 => ?_)
  ·exfalso
   simp only [E.den, dEq, iEq, sEq, row_Reply, cells_Reply, hz] at h3
   have h0 : r.length < l.length ∧ (r.length = 0 ∨ (nth r ((r.length : Int) - 1).toNat).code ≠ 1) := by
    rw [hf] at h3
    simpa using h3
   obtain ⟨h1, h2⟩ := hR.all h0.1
   rcases h0.2 with h | h
   ·exact h1 (List.length_eq_zero_iff.1 h)
   ·rw [ht h1] at h; exact h h2
  refine den_cond (fun hg => ?_) ?_
  ·simp only [gsH, gE, E.den, dEq, iEq, sEq] at hg
   simp only [D.bool.injEq, beq_eq_false_iff_ne] at hg
   have := hin (hne hg)
   simp only [E.den, dEq, iEq, sEq, hz]
   simpa using this
  refine den_ite (fun h4 => den_ret rfl) (fun h4 => ?_)
  simp only [E.den, dEq, iEq, sEq, row_Reply, cells_Reply, hz] at h4
  have h5 : r.length ≠ 0 ∧ (nth r ((r.length : Int) - 1).toNat).code = 1 := by simpa using h4
  have hr0' : r ≠ [] := fun e => h5.1 (by rw [e]; rfl)
  have hc := h5.2
  rw [ht hr0'] at hc
  have hsk := hS hr0' hc
  have hpos := List.length_pos_iff.2 hr0'
  have hzn : (r.length : Int) - 1 = ((r.length - 1 : Nat) : Int) := by omega
  have hc1 : cutD (encS l) 0 ((r.length - 1 : Nat) : Int) = encS (l.take (r.length - 1)) := by simp [cutD, encS, List.map_take]
  have hc2 : cutD (encS l) (r.length : Int) (l.length : Int) = encS (l.drop r.length) := by
   simp only [cutD, encS, List.map_drop, Int.toNat_natCast]
   rw [List.take_of_length_le (by simp)]
  have hc3 : cutD (encS r) 0 ((r.length - 1 : Nat) : Int) = encS (r.take (r.length - 1)) := by simp [cutD, encS, List.map_take]
  have hld : (l.drop r.length).length ≤ 8 := by simp; omega
  have hlt : (l.take (r.length - 1)).length ≤ 8 := by simp; omega
  have ap1 : ∀ a b : List Call, D.sl (List.map Enc.cells a ++ List.map Enc.cells b) = encS (a ++ b) := fun a b => by simp [encS]
  have ap2 : ∀ a b : List Reply, D.sl (List.map Enc.cells a ++ List.map Enc.cells b) = encS (a ++ b) := fun a b => by simp [encS]
  have ap3 : ∀ a : List Call, D.sl (List.map Enc.cells a) = encS a := fun a => rfl
  have ap4 : ∀ a : List Reply, D.sl (List.map Enc.cells a) = encS a := fun a => rfl
  have hzz : arI .sub .i64 (r.length : Int) 1 = ((r.length - 1 : Nat) : Int) := by rw [hz, hzn]
  refine den_cond (fun _ => ?_) ?_
  ·simp only [E.den, dEq, iEq, sEq]; simp; omega
  (refine den_callR ?_ (c_impl_CallParts q (l.drop r.length) hq (by omega) (fun x hx => hl x (List.mem_of_mem_drop hx))) (⟨ty_Part _, ty_ReplyS _, trivial⟩) ?_; (focus (simp only [VC.den, E.den, dEq, gsH_nil, and_true, hc2]; try exact rfl)); (simp only [cA]))
  refine den_cond (fun _ => ?_) ?_
  ·simp only [E.den, dEq, iEq, sEq, hzz]; simp; omega
  refine den_cond (fun _ => ?_) ?_
  ·simp only [E.den, dEq, iEq, sEq, hzz, hc1]; simp; omega
  refine den_cond (fun _ => ?_) ?_
  ·simp only [E.den, dEq, iEq, sEq]; simp; omega
  refine den_cond (fun _ => ?_) ?_
  ·simp only [E.den, dEq, iEq, sEq, hzz, hc1, hc2]; simp; omega
  have hal : (l.take (r.length - 1) ++ l.drop r.length).length ≤ 100 := by rw [List.length_append]; omega
  have hae : ∀ x ∈ l.take (r.length - 1) ++ l.drop r.length, x.text.size ≤ 100 := fun x hx => (List.mem_append.1 hx).elim (fun h => hl x (List.mem_of_mem_take h)) fun h => hl x (List.mem_of_mem_drop h)
  (refine den_callR ?_ (c_impl_CallParts p (l.take (r.length - 1) ++ l.drop r.length) hp hal hae) (⟨ty_Part _, ty_ReplyS _, trivial⟩) ?_; (focus (simp only [VC.den, E.den, dEq, gsH_nil, and_true, hzz, hc1, hc2, ap1, ap3]; try exact rfl)); (simp only [cA]))
  rw [hsk]
  (refine den_call ?_ (c_impl_SamePart (callsD q (l.drop r.length)).1 (callsD q (l.drop r.length)).1) (trivial) ?_; (focus (simp only [VC.den, E.den, dEq, gsH_nil, and_true]; try exact rfl)); (simp only [cA]))
  have hul : (callsD q (l.drop r.length)).2.length ≤ 8 := by have := (calls_runs (l.drop r.length) q).len; omega
  have hrt : (r.take (r.length - 1)).length ≤ 8 := by simp; omega
  refine den_ite (fun h6 => ?_) (fun h6 => ?_)
  ·refine den_cond (fun _ => ?_) ?_
   ·simp only [E.den, dEq, iEq, sEq, hzz]; simp <;> omega
   refine den_cond (fun _ => ?_) ?_
   ·simp only [E.den, dEq, iEq, sEq, hzz, hc3]; simp <;> omega
   refine den_cond (fun _ => ?_) ?_
   ·simp only [E.den, dEq, iEq, sEq, hzz, hc3]; simp <;> omega
   (refine den_call ?_ (c_laws_replies (r.take (r.length - 1) ++ (callsD q (l.drop r.length)).2) (r.take (r.length - 1) ++ (callsD q (l.drop r.length)).2)) (trivial) ?_; (focus (simp only [VC.den, E.den, dEq, gsH_nil, and_true, hzz, hc3, ap2, ap4]; try exact rfl)); (simp only [cA]))
   refine den_ret ?_
   simp only [E.den, dEq, iEq, sEq]
   simp
  ·simp only [E.den, dEq, iEq, sEq] at h6
   simp at h6

set_option maxRecDepth 100000
theorem jf_wf : (Rows.fnDoorRow.wf (OpenSpec.ofChange Rows.fnDoorSpec)) = true := by kernel_rfl
theorem jf_reads : (Tryz.f11.params.all (Tryz.prog.readableRec ·)) = true := by kernel_rfl
theorem jf_tie : (namedTie Tryz.prog Rows.fnDoorRow.named Rows.fnDoorSpec.vars) = true := by kernel_rfl
theorem jf_inPl : ((Rows.fnDoorRow.inPlace == Tryz.prog.inPlace 11)) = true := by kernel_rfl
theorem jf_unfol : ((Rows.fnDoorRow.unfollowed == Tryz.prog.unfollowed 11)) = true := by kernel_rfl
theorem jf_recur : ((Rows.fnDoorRow.recurses == Tryz.prog.recurses 11)) = true := by kernel_rfl
theorem jf_varsN : ((Rows.fnDoorRow.named == Tryz.prog.varsNamed 11)) = true := by kernel_rfl
theorem jf_maps : ((Rows.fnDoorRow.maps == (Tryz.f11.params.toList ++ Rows.fnDoorSpec.plain.varTypes Tryz.prog).any (Tryz.prog.mapsRec ·))) = true := by kernel_rfl
theorem jf_ifaces : ((Rows.fnDoorRow.ifaces == (Tryz.f11.params.toList ++ Rows.fnDoorSpec.plain.varTypes Tryz.prog).any (Tryz.prog.ifacesRec ·))) = true := by kernel_rfl
theorem jf_mapsO : ((Rows.fnDoorRow.mapsOut == Tryz.prog.mapsAmong Tryz.f11.resultTypes.toList)) = true := by kernel_rfl
theorem jf_loops : ((Rows.fnDoorRow.loops == (Tryz.f11.params.toList ++ Rows.fnDoorSpec.plain.varTypes Tryz.prog).any (Tryz.prog.loopsFrom ·))) = true := by kernel_rfl
theorem jf_wide : ((Rows.fnDoorRow.wideKeys == (Tryz.f11.params.toList ++ Rows.fnDoorSpec.plain.varTypes Tryz.prog ++ Tryz.f11.resultTypes.toList).any (Tryz.prog.wideKeysFrom ·))) = true := by kernel_rfl
theorem jf_varR : (Rows.fnDoorSpec.vars.all (Tryz.prog.varReadable ·)) = true := by kernel_rfl
theorem jf_resT : (Tryz.f11.resultTypes.all (fun t => Tryz.prog.readableRec t && decide (t < Tryz.prog.types.size))) = true := by kernel_rfl
theorem jf_ifO : ((Rows.fnDoorRow.ifacesOut == Tryz.f11.resultTypes.toList.any (Tryz.prog.ifacesRec ·))) = true := by kernel_rfl
theorem jf_loO : ((Rows.fnDoorRow.loopsOut == Tryz.f11.resultTypes.toList.any (Tryz.prog.loopsFrom ·))) = true := by kernel_rfl
theorem jf_kinds : ((Rows.fnDoorRow.kinds == (if Rows.fnDoorRow.domain.isEmpty then [] else Tryz.f11.params.toList.map fun t => match Tryz.prog.underlying t with | some (.int k) => some k | _ => none))) = true := by kernel_rfl
theorem jf_veil : ((Rows.fnDoorRow.veiled == (Tryz.f11.params.toList ++ Rows.fnDoorSpec.plain.varTypes Tryz.prog ++ Tryz.f11.resultTypes.toList).any (Tryz.prog.veiledRec ·))) = true := by kernel_rfl
theorem jf_veilF : (Rows.fnDoorRow.veiledFits Tryz.prog Tryz.f11.params.toList (Tryz.f11.params.toList ++ Rows.fnDoorSpec.plain.varTypes Tryz.prog ++ Tryz.f11.resultTypes.toList)) = true := by kernel_rfl
theorem closed : joinedFacts Tryz.prog 11 Tryz.f11 Rows.fnDoorSpec Rows.fnDoorRow = true :=
 (and_tt (and_tt (and_tt (and_tt (and_tt (and_tt (and_tt (and_tt (and_tt (and_tt (and_tt (and_tt (and_tt (and_tt (and_tt (and_tt (and_tt (and_tt (and_tt (and_tt (and_tt (and_tt (and_tt (and_tt (and_tt (and_tt (and_tt (and_tt (and_tt (and_tt (and_tt jf_wf jfLaid) jfRowed) jf_reads) jf_tie) rfl) jfStops) rfl) jfKnobs) jf_inPl) jf_unfol) jf_recur) jf_varsN) jf_maps) jf_ifaces) jf_mapsO) jf_loops) jf_wide) jf_varR) jf_resT) jf_ifO) jf_loO) jfKeys) rfl) jfHeard) jfEnter) jfLifted) jfMake) jf_kinds) rfl) jf_veil) jf_veilF)
noncomputable def low : Nat := (World.holding Tryz.prog default ⟨#[], #[], []⟩).heap.size
noncomputable def laidWorld (os : Os) : World :=
 let w0 := World.holding Tryz.prog os ⟨#[.cells #[.string ⟨#[118, 97, 108, 117, 101, 32, 111, 117, 116, 32, 111, 102, 32, 114, 97, 110, 103, 101]⟩] 213, .cells #[.string ⟨#[105, 110, 118, 97, 108, 105, 100, 32, 115, 121, 110, 116, 97, 120]⟩] 213], #[], []⟩
 { w0 with heap := w0.heap
  |>.modify 6 (fun | .cells _ t f => .cells #[.int .u8 0, .int .u8 1, .int .u8 28, .int .u8 2, .int .u8 29, .int .u8 14, .int .u8 24, .int .u8 3, .int .u8 30, .int .u8 22, .int .u8 20, .int .u8 15, .int .u8 25, .int .u8 17, .int .u8 4, .int .u8 8, .int .u8 31, .int .u8 27, .int .u8 13, .int .u8 23, .int .u8 21, .int .u8 19, .int .u8 16, .int .u8 7, .int .u8 26, .int .u8 12, .int .u8 18, .int .u8 6, .int .u8 11, .int .u8 5, .int .u8 10, .int .u8 9] t f | o => o)
  |>.modify 7 (fun | .cells _ t f => .cells #[.int .u8 0, .int .u8 1, .int .u8 56, .int .u8 2, .int .u8 57, .int .u8 49, .int .u8 28, .int .u8 3, .int .u8 61, .int .u8 58, .int .u8 42, .int .u8 50, .int .u8 38, .int .u8 29, .int .u8 17, .int .u8 4, .int .u8 62, .int .u8 47, .int .u8 59, .int .u8 36, .int .u8 45, .int .u8 43, .int .u8 51, .int .u8 22, .int .u8 53, .int .u8 39, .int .u8 33, .int .u8 30, .int .u8 24, .int .u8 18, .int .u8 12, .int .u8 5, .int .u8 63, .int .u8 55, .int .u8 48, .int .u8 27, .int .u8 60, .int .u8 41, .int .u8 37, .int .u8 16, .int .u8 46, .int .u8 35, .int .u8 44, .int .u8 21, .int .u8 52, .int .u8 32, .int .u8 23, .int .u8 11, .int .u8 54, .int .u8 26, .int .u8 40, .int .u8 15, .int .u8 34, .int .u8 20, .int .u8 31, .int .u8 10, .int .u8 25, .int .u8 14, .int .u8 19, .int .u8 9, .int .u8 13, .int .u8 8, .int .u8 7, .int .u8 6] t f | o => o)
  |>.modify 3 (fun | .cells _ t f => .cells #[.int .u64 1, .int .u64 10, .int .u64 100, .int .u64 1000, .int .u64 10000, .int .u64 100000, .int .u64 1000000, .int .u64 10000000, .int .u64 100000000, .int .u64 1000000000, .int .u64 10000000000, .int .u64 100000000000, .int .u64 1000000000000, .int .u64 10000000000000, .int .u64 100000000000000, .int .u64 1000000000000000, .int .u64 10000000000000000, .int .u64 100000000000000000, .int .u64 1000000000000000000, .int .u64 10000000000000000000] t f | o => o)
  |>.modify 5 (fun | .cells _ t f => .cells #[.int .u8 128, .int .u8 191, .int .u8 160, .int .u8 191, .int .u8 128, .int .u8 159, .int .u8 144, .int .u8 191, .int .u8 128, .int .u8 143, .int .u8 0, .int .u8 0, .int .u8 0, .int .u8 0, .int .u8 0, .int .u8 0, .int .u8 0, .int .u8 0, .int .u8 0, .int .u8 0, .int .u8 0, .int .u8 0, .int .u8 0, .int .u8 0, .int .u8 0, .int .u8 0, .int .u8 0, .int .u8 0, .int .u8 0, .int .u8 0, .int .u8 0, .int .u8 0] t f | o => o)
  |>.modify 2 (fun | .cells _ t f => .cells #[.iface 211 (.pointer (some ⟨low + 0, 0, none⟩))] t f | o => o)
  |>.modify 1 (fun | .cells _ t f => .cells #[.iface 211 (.pointer (some ⟨low + 1, 0, none⟩))] t f | o => o)
  |>.modify 4 (fun | .cells _ t f => .cells #[.int .u8 240, .int .u8 240, .int .u8 240, .int .u8 240, .int .u8 240, .int .u8 240, .int .u8 240, .int .u8 240, .int .u8 240, .int .u8 240, .int .u8 240, .int .u8 240, .int .u8 240, .int .u8 240, .int .u8 240, .int .u8 240, .int .u8 240, .int .u8 240, .int .u8 240, .int .u8 240, .int .u8 240, .int .u8 240, .int .u8 240, .int .u8 240, .int .u8 240, .int .u8 240, .int .u8 240, .int .u8 240, .int .u8 240, .int .u8 240, .int .u8 240, .int .u8 240, .int .u8 240, .int .u8 240, .int .u8 240, .int .u8 240, .int .u8 240, .int .u8 240, .int .u8 240, .int .u8 240, .int .u8 240, .int .u8 240, .int .u8 240, .int .u8 240, .int .u8 240, .int .u8 240, .int .u8 240, .int .u8 240, .int .u8 240, .int .u8 240, .int .u8 240, .int .u8 240, .int .u8 240, .int .u8 240, .int .u8 240, .int .u8 240, .int .u8 240, .int .u8 240, .int .u8 240, .int .u8 240, .int .u8 240, .int .u8 240, .int .u8 240, .int .u8 240, .int .u8 240, .int .u8 240, .int .u8 240, .int .u8 240, .int .u8 240, .int .u8 240, .int .u8 240, .int .u8 240, .int .u8 240, .int .u8 240, .int .u8 240, .int .u8 240, .int .u8 240, .int .u8 240, .int .u8 240, .int .u8 240, .int .u8 240, .int .u8 240, .int .u8 240, .int .u8 240, .int .u8 240, .int .u8 240, .int .u8 240, .int .u8 240, .int .u8 240, .int .u8 240, .int .u8 240, .int .u8 240, .int .u8 240, .int .u8 240, .int .u8 240, .int .u8 240, .int .u8 240, .int .u8 240, .int .u8 240, .int .u8 240, .int .u8 240, .int .u8 240, .int .u8 240, .int .u8 240, .int .u8 240, .int .u8 240, .int .u8 240, .int .u8 240, .int .u8 240, .int .u8 240, .int .u8 240, .int .u8 240, .int .u8 240, .int .u8 240, .int .u8 240, .int .u8 240, .int .u8 240, .int .u8 240, .int .u8 240, .int .u8 240, .int .u8 240, .int .u8 240, .int .u8 240, .int .u8 240, .int .u8 240, .int .u8 240, .int .u8 240, .int .u8 240, .int .u8 241, .int .u8 241, .int .u8 241, .int .u8 241, .int .u8 241, .int .u8 241, .int .u8 241, .int .u8 241, .int .u8 241, .int .u8 241, .int .u8 241, .int .u8 241, .int .u8 241, .int .u8 241, .int .u8 241, .int .u8 241, .int .u8 241, .int .u8 241, .int .u8 241, .int .u8 241, .int .u8 241, .int .u8 241, .int .u8 241, .int .u8 241, .int .u8 241, .int .u8 241, .int .u8 241, .int .u8 241, .int .u8 241, .int .u8 241, .int .u8 241, .int .u8 241, .int .u8 241, .int .u8 241, .int .u8 241, .int .u8 241, .int .u8 241, .int .u8 241, .int .u8 241, .int .u8 241, .int .u8 241, .int .u8 241, .int .u8 241, .int .u8 241, .int .u8 241, .int .u8 241, .int .u8 241, .int .u8 241, .int .u8 241, .int .u8 241, .int .u8 241, .int .u8 241, .int .u8 241, .int .u8 241, .int .u8 241, .int .u8 241, .int .u8 241, .int .u8 241, .int .u8 241, .int .u8 241, .int .u8 241, .int .u8 241, .int .u8 241, .int .u8 241, .int .u8 241, .int .u8 241, .int .u8 2, .int .u8 2, .int .u8 2, .int .u8 2, .int .u8 2, .int .u8 2, .int .u8 2, .int .u8 2, .int .u8 2, .int .u8 2, .int .u8 2, .int .u8 2, .int .u8 2, .int .u8 2, .int .u8 2, .int .u8 2, .int .u8 2, .int .u8 2, .int .u8 2, .int .u8 2, .int .u8 2, .int .u8 2, .int .u8 2, .int .u8 2, .int .u8 2, .int .u8 2, .int .u8 2, .int .u8 2, .int .u8 2, .int .u8 2, .int .u8 19, .int .u8 3, .int .u8 3, .int .u8 3, .int .u8 3, .int .u8 3, .int .u8 3, .int .u8 3, .int .u8 3, .int .u8 3, .int .u8 3, .int .u8 3, .int .u8 3, .int .u8 35, .int .u8 3, .int .u8 3, .int .u8 52, .int .u8 4, .int .u8 4, .int .u8 4, .int .u8 68, .int .u8 241, .int .u8 241, .int .u8 241, .int .u8 241, .int .u8 241, .int .u8 241, .int .u8 241, .int .u8 241, .int .u8 241, .int .u8 241, .int .u8 241] t f | o => o) }
set_option maxRecDepth 100000 in
theorem laid_met (os : Os) (args : Array Value) : laidMet Tryz.prog Rows.fnDoorRow.laid ((laidWorld os).forCall (fun _ _ => 0) ⟨#[], args, []⟩).memory :=
 laidMet_of_run' 8 (by kernel_rfl) (by kernel_rfl)
set_option maxRecDepth 100000 in
theorem lifted (os : Os) (started : os.Started) (H : Type) (enc : TypeId × Value → H) :
  ReturnsInHanded {} Tryz.checked os 11 .any (fun w args => (Rows.fnDoorSpec.pre enc Tryz.prog Tryz.f11 Rows.fnDoorRow.domain false w args ∧ laidMet Tryz.prog Rows.fnDoorRow.laid w) ∧ sizedMet enc Tryz.prog Tryz.f11 (OpenSpec.ofChange Rows.fnDoorSpec) false w args)
   (Rows.fnDoorSpec.post enc Tryz.prog Tryz.f11 false true false false) := by
 refine handed_laid_shaped (C := Tryz.checked) (X := fun w _ => laidMet Tryz.prog Rows.fnDoorRow.laid w) (fun _ _ _ hh h => h.of_heap hh) jfOwn started (by kernel_rfl) Tryz.func11
  (ChangeSpec.witness_at (enc := enc) (C := Tryz.checked) (os := os) (X := fun w _ => laidMet Tryz.prog Rows.fnDoorRow.laid w) false (laidWorld os) #[.slice none 0 0] 8 rfl (by kernel_rfl) (by kernel_rfl) (by kernel_rfl) (by kernel_rfl) (by kernel_rfl) (laid_met os _)) ?_
 intro W base args ds gs before hval0 hW _ hsz0 hsh hL _
 have hval : ∀ (j : Nat) t v, Tryz.f11.params[j]? = some t → args[j]? = some v → Value.okWide Tryz.prog W .any base t v := hval0
 have hW' := hW
 obtain ⟨p, q, hA0, hV, rfl, hfz, hnd⟩ := hW
 have hA : DataW.TrodAll enc Tryz.prog W 0 (fun _ => true) true Tryz.f11.params.toList args.toList ds p := hA0
 rw [Tryz.params11] at hA hval
 obtain ⟨v0, vs0, d0, ds0, p0, q0, hargs, rfl, rfl, h0, r0⟩ := trodAll_cons hA
 obtain ⟨rfl, rfl, rfl⟩ := trodAll_nil r0
 obtain rfl : args = #[v0] := by cases args; simp_all
 obtain ⟨rfl, rfl⟩ := trodVars_none hV
 have k0 := h0
 have lt0 : ∀ x ∈ p0, x.block < W.heap.size := by obtain ⟨m, hm⟩ := k0; exact DataW.trod_lt m _ _ _ hm
 obtain ⟨x0, y0, z0⟩ := open_arg tbl_ok (by kernel_rfl) (hval 0 22 v0 rfl rfl) h0
 clear hA0 hval0
 refine ((law_run (main [x0] ⟨y0, trivial⟩) ⟨fun p hp => hp.elim, start hsh hL⟩ (show Rs W M0 [x0] [v0] from ⟨_, _, rfl, z0, rfl⟩))).mono fun e W' ⟨he, bel⟩ => ?_
 subst he
 exact ⟨_, rfl, _, _, _, [], _, [], hW', trodAll_mk1 (shut_bool Tryz.underlying4 _), (trodAll_cons_mk (Below.trod jfLaid (by kernel_rfl) (of_decide_eq_true (by kernel_rfl)) k0 bel lt0) trodAll_mk0), rfl, bel.frame _, fun h => by cases h⟩
theorem over : Rows.fnDoorRow.holds Tryz.pinned (OpenSpec.ofChange Rows.fnDoorSpec) :=
 OpenClaim.holds_of_wide 11 Tryz.f11 rfl rfl rfl rfl rfl rfl rfl ⟨rfl, rfl, rfl, rfl, rfl⟩ rfl rfl rfl rfl rfl (by kernel_rfl) Tryz.func11 closed
  (of_decide_eq_true (by kernel_rfl)) (by unfold Func.isWrapper; first | (rw [if_pos (by decide +kernel)]; kernel_rfl) | (rw [if_neg (by decide +kernel)]; exact ⟨rfl, rfl⟩))
  (fun os started H enc _ => lifted os started H enc)

theorem row_tie : Rows.fnDoorRow.laidByTextAt .later Tryz.pinned [.data, .data, .data, .data, .sentinel, .sentinel, .pinned] true := fnDoor_row_tie
theorem proved : Rows.FnDoorCardSaid :=
 Claim7.holds_tied_plain_at .later [] [.data, .data, .data, .data, .sentinel, .sentinel, .pinned] true Rows.fnDoorCard.stood.harness true
  over (fun _ h => by cases h) (by kernel_rfl) (fun _ h => by cases h) row_tie rfl ⟨rfl, rfl⟩ (by kernel_rfl) rfl
  (fun f fn hf hfn => by
   obtain rfl : f = 11 := Option.some.inj ((show Tryz.prog.funcNamed Rows.fnDoorRow.func = some 11 by kernel_rfl).symm.trans hf) |>.symm
   obtain rfl : fn = Tryz.f11 := (Option.some.inj (Tryz.func11.symm.trans hfn)).symm
   exact ⟨by kernel_rfl, stand_in (by kernel_rfl)⟩)
  (by kernel_rfl)
#print axioms proved
end Go.Proofs.YtbgcaneflfdddaaGreatDoor.lawFnDoor
