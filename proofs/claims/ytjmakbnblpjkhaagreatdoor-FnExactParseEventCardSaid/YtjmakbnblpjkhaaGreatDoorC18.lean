/- Rows that list variables of packages: the builder, and what the list says of the variables' blocks. No program in sight. -/
import Derived.Test.YtjmakbnblpjkhaaGreatDoorC17
import Derived.Test.YtjmakbnblpjkhaaGreatDoorTie
import Derived.Test.YtjmakbnblpjkhaaGreatDoorCards
import Derived.HandedShaped
import Derived.LaidLaws
import Derived.Lib.LaidTab
import Derived.Stop.LaidErr
import Derived.Shelf.Vars
import Derived.SevenTiedAt
import Derived.Test.YtjmakbnblpjkhaaGreatDoorC15
import Derived.ChangeVars
import Derived.Test.YtjmakbnblpjkhaaGreatDoorRows
import Derived.JoinedOf
import Derived.KernelRfl
import Derived.Test.YtjmakbnblpjkhaaGreatDoorC0
set_option linter.unusedVariables false
set_option maxRecDepth 100000
namespace Go.Proofs.YtjmakbnblpjkhaaGreatDoor
open Go.RowKit Go Go.ChangeShapes
theorem handed_laid_shaped {H : Type} {enc : TypeId × Value → H} {a : Assume} {C : Checked} {os : Os} {f : FuncId} {fn : Func} {s : ChangeSpec} {conds : List PathCond} {apart fresh handsOn again : Bool} {X : World → Array Value → Prop}
  (hX : ∀ (w w' : World) (args : Array Value), w.heap = w'.heap → X w args → X w' args)
  (own : ownKnob C.prog.godebug = none) (started : os.Started) (noInit : C.prog.inits.idxOf? f = none) (hfn : C.prog.funcs[f]? = some fn)
  (witness : ∃ (w : World) (tape : Tape) (i : Input), w.os = os ∧ (w.forCall tape i).Shaped C.prog ∧ i.vars = [] ∧ Input.okWide C.prog (w.forCall tape i) .any w.heap.size f i ∧
   ((s.pre enc C.prog fn conds apart (w.forCall tape i).memory i.args ∧ X (w.forCall tape i).memory i.args) ∧ sizedMet enc C.prog fn (OpenSpec.ofChange s) apart (w.forCall tape i).memory i.args) ∧ a.holds C.prog (lone (Frame.enter C.prog f i.args .normal) [] (w.forCall tape i)))
  (contract : ∀ (W : World) (base : Nat) (args : Array Value) (ds gs : List (DataW H)) (before : List MemPlace),
   (∀ (j : Nat) t v, fn.params[j]? = some t → args[j]? = some v → Value.okWide C.prog W .any base t v) →
   DataW.Whole enc C.prog fn.params.toList s.vars apart W args.toList ds gs before →
   conds.all (PathCond.test C.prog ⟨fn.params.toList, ds, s.plain.varTypes C.prog, gs⟩) = true →
   (DataW.weightsEach C.prog (fn.params.toList ++ s.plain.varTypes C.prog) (ds ++ gs)).all (· ≤ reachBytes) = true → W.ShapedOpen C.prog → X W args →
   a.holds C.prog (lone (Frame.enter C.prog f args .normal) [] W) →
   Calls C.prog f args W fun e W' => ∃ v, e = .returned v ∧ s.post enc C.prog fn apart fresh handsOn again W args v W') :
  ReturnsInHanded a C os f .any (fun w args => (s.pre enc C.prog fn conds apart w args ∧ X w args) ∧ sizedMet enc C.prog fn (OpenSpec.ofChange s) apart w args) (s.post enc C.prog fn apart fresh handsOn again) := by
 refine returnsInHanded_of_calls own started noInit witness fun w tape i _ hshape _ hok hpre hh => ?_
 obtain ⟨_, _, _, fn', hfn', _, _, _, _, hval⟩ := hok
 cases Option.some.inj (hfn'.symm.trans hfn)
 obtain ⟨⟨⟨ds, gs, before, q1, q2⟩, q3⟩, q4⟩ := hpre
 refine (contract (w.forCall tape i) w.heap.size i.args ds gs before hval (DataW.Whole.of_heap (w' := w.forCall tape i) (by rfl) q1) q2 (q4.weights q1) hshape (hX _ _ _ (by rfl) q3) hh).mono fun e W' ⟨v, he, hp⟩ => ?_
 cases he
 exact ChangeSpec.post_blind hp
theorem stand_in {P : Program} {ps : Array TypeId} (h : ps.all (fun t => !P.wantsStandIn t) = true) : ∀ (j : Nat) t, ps[j]? = some t → P.wantsStandIn t = false := fun j t ht => by
 rw [Array.all_eq_true_iff_forall_mem] at h
 have := h t (Array.mem_of_getElem? ht)
 simpa using this
theorem ghas_of_var {P : Program} {w : World} {n : String} {g : Nat} {cs : Array Value} {p : Array Value → Prop} (hg : P.globalNamed n = some g) (h : w.var? P n = some cs) (hp : p cs) : GHas w g p := by
 simp only [World.var?, hg, Option.bind_some] at h
 split at h
 ·rename_i c t f hh
  simp at h; subst h
  exact ⟨_, t, f, hh, hp⟩
 ·simp at h
theorem ghas_of_cell {w : World} {g : Nat} {v : Value} (h : w.cell? ⟨g, 0, none⟩ = some v) : GHas w g fun cs => cs[0]? = some v := by
 unfold World.cell? at h
 cases hb : w.heap[g]? with
 | none => simp [hb] at h
 | some o =>
  simp only [hb] at h
  cases o with
  | cells cs t f => exact ⟨cs, t, f, hb, by simpa using h⟩
  | _ => simp at h
def textData {H : Type} (l : List ByteArray) : DataW H := .agg (l.map fun s => .lit (.string s.data.toList))
theorem data_inj {s s' : ByteArray} (h : s.data.toList = s'.data.toList) : s = s' := by
 apply ByteArray.ext
 exact Array.toList_inj.1 h
theorem cells_of_text {H : Type} {enc : TypeId × Value → H} {P : Program} {w : World} {base : Nat} {sp : Nat → Bool} {held : Bool} {fuel : Nat} {t e : TypeId} {n : Nat} {cs : List Value} {zs : List ByteArray} {p : List MemPlace}
  (ht : P.underlying t = some (.array n e)) (he : P.underlying e = some .string) (hce : P.cellsOf e = 1) (hct : P.cellsOf t = n)
  (h : DataW.trod enc P w base sp held fuel t cs = some (textData zs, p)) : cs = zs.map Value.string := by
 cases fuel with
 | zero => simp [DataW.trod] at h
 | succ fuel =>
  simp only [DataW.trod, ht, hce, hct, Nat.mul_one] at h
  split at h
  ·rename_i hl
   obtain ⟨xs, hm, hx⟩ := Option.map_eq_some_iff.1 h
   have hxs : xs.map (·.1) = zs.map fun z => (DataW.lit (.string z.data.toList) : DataW H) := by
    have := congrArg Prod.fst hx
    simpa [textData] using this
   have hxl : xs.length = n := by simpa using Lib.mapM_length hm
   have hzl : zs.length = n := by
    have := congrArg List.length hxs
    simp at this
    omega
   apply List.ext_getElem?
   intro i
   by_cases hi : i < n
   ·obtain ⟨b, hb, hf⟩ := Lib.mapM_at hm i i (by simp [hi])
    obtain ⟨z, hc, rfl, _⟩ := DataW.trod_string he hf
    have h1 : cs[i]? = some (.string z) := by
     have := congrArg (·[0]?) hc
     simpa [List.getElem?_take, List.getElem?_drop] using this
    have h2 : (xs.map (·.1))[i]? = some (DataW.lit (.string z.data.toList) : DataW H) := by simp [hb]
    rw [hxs] at h2
    simp only [List.getElem?_map, Option.map_eq_some_iff, DataW.lit.injEq, Lit.string.injEq] at h2
    obtain ⟨z', hz', e⟩ := h2
    rw [h1, List.getElem?_map, hz', data_inj e]; rfl
   ·rw [List.getElem?_eq_none (by omega), List.getElem?_eq_none (by simp; omega)]
  ·cases h
theorem text_of_head {P : Program} {W : World} {name : String} {zs : List ByteArray} {rest : List (String × DataW Unit)} {g : Nat} {t e : TypeId} {n : Nat}
  (hg : P.globalNamed name = some g) (hty : (P.globals[g]?).map (·.type) = some t) (ht : P.underlying t = some (.array n e)) (he : P.underlying e = some .string) (hce : P.cellsOf e = 1) (hct : P.cellsOf t = n)
  (h : laidMet P ((name, textData zs) :: rest) W) : GHas W g fun cs => cs = (zs.map Value.string).toArray := by
 obtain ⟨ps, ⟨g', t', cs, fuel, p, q, hg', ht', hvar, hd, _, _⟩, _⟩ := h
 obtain rfl := Option.some.inj (hg.symm.trans hg')
 obtain rfl := Option.some.inj (hty.symm.trans ht')
 exact ghas_of_var hg hvar (by rw [← cells_of_text ht he hce hct hd])
theorem vars_kept {H : Type} {enc : TypeId × Value → H} {P : Program} {W W' : World} {n : String} {gs : List (DataW H)} {q : List MemPlace} {g : Nat} {t : TypeId} (hl : laidOutB P = true) (hg : P.globalNamed n = some g) (hty : (P.globals[g]?).map (·.type) = some t)
  (hr : P.readableRec t = true) (hrow : t < P.types.size) (hV : DataW.TrodVars enc P W (fun _ => true) [n] gs q) (bel : Below W.heap.size W W') :
  ∃ d, gs = [d] ∧ ∃ pv, DataW.TrodVars enc P W' (fun b => decide (b < W.heap.size)) [n] [d] pv := by
 obtain ⟨g', t', cs, fuel, d, p, rfl, hg', ht', hc, htr, rfl⟩ := trodVars_one hV
 obtain rfl := Option.some.inj (hg.symm.trans hg')
 obtain rfl := Option.some.inj (hty.symm.trans ht')
 have kv : DataW.Trod enc P W 0 (fun _ => true) true t (.agg cs) d p := ⟨fuel, htr⟩
 obtain ⟨m, hm⟩ := Below.trod hl hr hrow kv bel (DataW.trod_lt fuel _ _ _ htr)
 have hlt : g < W.heap.size := by
  simp only [World.var?, hg, Option.bind_some] at hc
  rcases Nat.lt_or_ge g W.heap.size with h | h
  ·exact h
  ·simp [Array.getElem?_eq_none h] at hc
 refine ⟨d, rfl, _, trodVars_mk1 hg hty (cs := cs) ?_ hm⟩
 simp only [World.var?, hg, Option.bind_some] at hc ⊢
 rw [bel.block g hlt]
 exact hc
theorem seat_err {W : World} {r : List (String × DataW Unit)} {n : String} (hn : Tryz.prog.globalNamed n = some 3) (h : laidMet Tryz.prog ((n, Rows.laid_strconv_ErrSyntax) :: r) W) : GHas W 3 fun cs => ∃ tp p, cs = #[.iface tp p] := by
 obtain ⟨a, s, hv, _⟩ := laid_sentinel (tp := 265) h hn (by kernel_rfl) Tryz.underlying178
  (fun u hu => typeName_ptr_named (nm := "errors.errorString") (by kernel_rfl) (by kernel_rfl) (by decide) u (hu.trans (by decide)))
  Tryz.underlying265 Tryz.underlying267 rfl rfl Tryz.underlying9 (by kernel_rfl) (by kernel_rfl)
 exact ghas_of_var hn hv ⟨_, _, rfl⟩
theorem seat_pow {W : World} {r : List (String × DataW Unit)} {n : String} (hn : Tryz.prog.globalNamed n = some 7) (h : laidMet Tryz.prog ((n, Rows.laid_internal_strconv_uint64pow10) :: r) W) : GHas W 7 fun cs => cs = (Lib.pow10Tab.map fun z => Value.int .u64 z).toArray := by
 have e : (Rows.laid_internal_strconv_uint64pow10 : DataW Unit) = Lib.tabData .u64 Lib.pow10Tab := by kernel_rfl
 rw [e] at h
 have := Lib.tabIs_of_head (t := 261) hn (by kernel_rfl) Tryz.underlying261 Tryz.underlying244 (by kernel_rfl) (by kernel_rfl) h
 exact ghas_of_var hn this rfl
theorem seat_max {W : World} (h : W.ShapedOpen Tryz.prog) : GHas W 2 fun cs => ∃ m, cs[0]? = some (Value.int .i64 m) := by
 obtain ⟨m, hm⟩ := cell_of_shapedOpen_int (g := 2) (t := 3) (zero := #[.int .i64 0]) (k := .i64) h (of_decide_eq_true (by kernel_rfl)) (by kernel_rfl) rfl (by kernel_rfl) (by kernel_rfl) Tryz.underlying3
 obtain ⟨cs, t, f, h1, h2⟩ := ghas_of_cell hm
 exact ⟨cs, t, f, h1, m, h2⟩
theorem seat_abil {W : World} {r : List (String × DataW Unit)} {n : String} (hn : Tryz.prog.globalNamed n = some 1) (h : laidMet Tryz.prog ((n, Rows.laid_loop_example_g03016_impl_abilityNames) :: r) W) : GHas W 1 fun cs => cs = (abils.map Value.string).toArray := by
 have e : (Rows.laid_loop_example_g03016_impl_abilityNames : DataW Unit) = textData abils := by kernel_rfl
 rw [e] at h
 exact text_of_head (t := 85) hn (by kernel_rfl) Tryz.underlying85 Tryz.underlying9 (by kernel_rfl) (by kernel_rfl) h
theorem ghas_lt {w : World} {g : Nat} {p : Array Value → Prop} (h : GHas w g p) : g + 1 ≤ w.heap.size := by
 obtain ⟨cs, t, f, h1, _⟩ := h
 rcases Nat.lt_or_ge g w.heap.size with h | h
 ·exact h
 ·rw [Array.getElem?_eq_none h] at h1; cases h1
end Go.Proofs.YtjmakbnblpjkhaaGreatDoor
/- The events' words, as a row lays them. -/
namespace Go.Proofs.YtjmakbnblpjkhaaGreatDoor
open Go.RowKit Go Go.ChangeShapes
theorem seat_words {W : World} {r : List (String × DataW Unit)} {n : String} (hn : Tryz.prog.globalNamed n = some 0) (h : laidMet Tryz.prog ((n, Rows.laid_loop_example_g03016_impl_eventWords) :: r) W) : GHas W 0 fun cs => cs = (words.map Value.string).toArray := by
 have e : (Rows.laid_loop_example_g03016_impl_eventWords : DataW Unit) = textData words := by kernel_rfl
 rw [e] at h
 exact text_of_head (t := 85) hn (by kernel_rfl) Tryz.underlying85 Tryz.underlying9 (by kernel_rfl) (by kernel_rfl) h
end Go.Proofs.YtjmakbnblpjkhaaGreatDoor
/- What the rows ask of the seat's program as a whole, decided once. -/
namespace Go.Proofs.YtjmakbnblpjkhaaGreatDoor
open Go
theorem jfOwn : ownKnob Tryz.prog.godebug = none := by kernel_rfl
theorem jfLaid : laidOutB Tryz.prog = true := by kernel_rfl
theorem jfRowed : mapsRowed Tryz.prog = true := by kernel_rfl
theorem jfStops : (Tryz.prog.stops == []) = true := by kernel_rfl
theorem jfKnobs : (Tryz.prog.stopKnobs == []) = true := by kernel_rfl
theorem jfKeys : (Rows.fnExactHostLineRow.plainKeys == Tryz.prog.plainKeys) = true := by kernel_rfl
theorem jfHeard : Tryz.prog.stopsHeard = true := by kernel_rfl
theorem jfEnter : Tryz.prog.mayEnter = true := by kernel_rfl
theorem jfLifted : (Rows.fnExactHostLineRow.lifted == Tryz.prog.liftsFinal) = true := by kernel_rfl
theorem jfMake : (Tryz.prog.make == some Rows.fnExactHostLineRow.make) = true := by kernel_rfl
theorem and_tt {a b : Bool} (ha : a = true) (hb : b = true) : (a && b) = true := by rw [ha, hb]; rfl
end Go.Proofs.YtjmakbnblpjkhaaGreatDoor
