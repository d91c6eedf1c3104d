/- What a law is handed, opened: a value that reads as data of the statement's kind reads as abstract data. No program in sight. -/
import Derived.Test.YtjenbnoflaoekaaAEx
import Derived.WalkKit
import Derived.ProofKit
import Derived.OpenShut
import Derived.ShutString
import Derived.ChangeOld
import Derived.Below
import Derived.Deep.Slices
namespace Go.Proofs.Ytjenbnoflaoekaa
open Go.RowKit Go.ChangeShapes Go.WideShapes Go.ChangeAt
set_option linter.unusedVariables false
set_option linter.unusedSimpArgs false

/-- A type that the table knows to its ground. -/
def opn (tb : TB) : Nat → Nat → Bool
  | 0, _ => false
  | d + 1, T => match tb.get T with
    | none => false
    | some ti => match ti.vt with
      | .one (.c (.sl e)) => opn tb d e && Nat.blt 0 (tb.tab e).length
      | .one (.c _) => true
      | .one (.agg ts) => contig tb 0 ts ti.fs && ti.fs.all (fun x => opn tb d x.2)
      | .tup _ => false
theorem opn_one {tb : TB} {d T : Nat} (h : opn tb d T = true) : ∃ ti v, tb.get T = some ti ∧ ti.vt = .one v ∧ tb.tab T = v.cells := by
  cases d with
  | zero => simp [opn] at h
  | succ d =>
    simp only [opn] at h
    split at h
    · simp at h
    · rename_i ti hti
      cases hv : ti.vt with
      | tup _ => rw [hv] at h; simp at h
      | one v => exact ⟨ti, v, hti, hv, by simp [TB.tab, hti, TI.cells, hv]⟩
def vtOf (tb : TB) (T : Nat) : VT := match tb.get T with | some ti => ti.vt | none => .tup []
def M0 : Addr → Prop := fun _ => False
section
variable {H : Type} {enc : TypeId × Value → H} {P : Program} {w : World} {base : Nat} {spare : Nat → Bool} {held : Bool} {tb : TB}
theorem rs_rw {M : Addr → Prop} {ds : List D} {cs : List Value} {b o : Nat} (h : Rs w M ds cs) (hc : ∀ j u, cs[j]? = some u → w.cell? ⟨b, o + j, none⟩ = some u) (hM : ∀ p, ¬ M p) : Rw w M ds b o :=
  Rw.of fun i d hd => by
    obtain ⟨v, h1, h2⟩ := h.get hd
    exact ⟨v, hc i v h1, hM _, h2⟩
theorem cellsOf_tab (hcx : tbOk P tb tb = true) {d T : Nat} (h : opn tb d T = true) : P.cellsOf T = (tb.tab T).length := by
  obtain ⟨ti, v, h1, h2, h3⟩ := opn_one h
  obtain ⟨i, hi, hs, _⟩ := ty_one hcx h1 h2
  simp [Program.cellsOf, hi, hs, h3]
theorem open_fields {cs : List Value} : ∀ (fl : List (Nat × Nat)) (o : Nat) (ts : List CT), contig tb o ts fl = true →
    (∀ p ∈ fl, ∃ ds, RowTy tb.tab (tb.tab p.2) ds ∧ Rs w M0 ds ((cs.drop p.1).take (tb.tab p.2).length)) → cs.length = o + ts.length → ∃ ds, RowTy tb.tab ts ds ∧ Rs w M0 ds (cs.drop o)
  | [], o, ts, h, _, hl => by
    simp only [contig, List.isEmpty_iff] at h
    subst h
    refine ⟨[], trivial, ?_⟩
    rw [List.drop_eq_nil_of_le (by simp at hl; omega)]; rfl
  | (o', t) :: r, o, ts, h, hf, hl => by
    simp only [contig, Bool.and_eq_true] at h
    obtain ⟨h1, h2⟩ := h
    have h1 := Nat.eq_of_beq_eq_true h1
    subst h1
    cases ht : tb.get t with
    | none => rw [ht] at h2; simp at h2
    | some i =>
      rw [ht] at h2
      simp only [Bool.and_eq_true, decide_eq_true_eq] at h2
      obtain ⟨h2, h3⟩ := h2
      have htab : tb.tab t = i.cells := by simp [TB.tab, ht]
      obtain ⟨ds, q1, q2⟩ := hf (o, t) (by simp)
      simp only [htab] at q1 q2
      have hle : i.cells.length ≤ ts.length := by
        have := congrArg List.length h2
        rw [List.length_take] at this; omega
      obtain ⟨ds', q3, q4⟩ := open_fields r (o + i.cells.length) (ts.drop i.cells.length) h3 (fun p hp => hf p (by simp [hp])) (by rw [List.length_drop]; omega)
      refine ⟨ds ++ ds', ?_, ?_⟩
      · have : ts = i.cells ++ ts.drop i.cells.length := (List.take_append_drop i.cells.length ts).symm.trans (by rw [h2])
        rw [this]; exact q1.append q3
      · have : cs.drop o = (cs.drop o).take i.cells.length ++ cs.drop (o + i.cells.length) := by
          rw [← List.drop_drop, List.take_append_drop]
        rw [this]; exact q2.append q4
/-- The cells of a value. -/
theorem open_ty (hcx : tbOk P tb tb = true) : ∀ (d T : Nat), opn tb d T = true → ∀ (fuel : Nat) (cs : List Value) (x : DataW H × List MemPlace), DataW.trod enc P w base spare held fuel T cs = some x → ∃ ds, RowTy tb.tab (tb.tab T) ds ∧ Rs w M0 ds cs
  | 0, _, h, _, _, _, _ => by simp [opn] at h
  | d + 1, T, h, fuel, cs, x, hx => by
    simp only [opn] at h
    split at h
    · simp at h
    · rename_i ti hti
      have htab : tb.tab T = ti.cells := by simp [TB.tab, hti]
      rw [htab]
      cases hv : ti.vt with
      | tup _ => rw [hv] at h; simp at h
      | one v =>
        rw [hv] at h
        simp only [TI.cells, hv]
        cases v with
        | c t =>
          obtain ⟨i, ds, _, _, _, _, hu, hd⟩ := ty_c hcx hti hv
          cases t with
          | bool =>
            simp only [DescC] at hd; subst hd
            obtain ⟨b, rfl, _⟩ := DataW.trod_bool hu hx
            exact ⟨[.bool b], ⟨trivial, trivial⟩, Rs.one rfl⟩
          | int k =>
            simp only [DescC] at hd; subst hd
            obtain ⟨n, rfl, _, hw⟩ := DataW.trod_int hu hx
            exact ⟨[.int k n], ⟨rfl, trivial⟩, Rs.one ⟨rfl, by simpa [Lit.wf] using hw⟩⟩
          | str =>
            simp only [DescC] at hd; subst hd
            obtain ⟨s, rfl, _, hw⟩ := DataW.trod_string hu hx
            exact ⟨[.str s], ⟨trivial, trivial⟩, Rs.one ⟨rfl, hw⟩⟩
          | sl e =>
            simp only [DescC] at hd; subst hd
            simp only [Bool.and_eq_true] at h
            obtain ⟨he, hpos⟩ := h
            have hpos : 0 < (tb.tab e).length := Nat.le_of_ble_eq_true hpos
            have hn := cellsOf_tab hcx he
            rcases Go.Deep.open_slice hu hx with ⟨h0, _⟩ | ⟨a, len, cap, m, n, Dd, Pl, hcs, _, hl, hm, hmm, _, hi⟩
            · exact ⟨[.sl []], ⟨trivial, trivial⟩, by rw [h0]; exact Rs.one ⟨none, 0, 0, rfl, rfl, Nat.le_refl _, Nat.zero_le _, fun _ => rfl, fun b o s hh => by cases hh⟩⟩
            · have hlm : len ≤ m := by rw [hmm]; split <;> omega
              have hex : ∀ i, i < len → ∃ q : List Value × List D, w.cells? base (a.add (i * P.cellsOf e)) (P.cellsOf e) = some q.1 ∧ RowTy tb.tab (tb.tab e) q.2 ∧ Rs w M0 q.2 q.1 := fun i hil => by
                obtain ⟨cs', hc, ht'⟩ := hi i (by omega)
                obtain ⟨y, hy1, hy2⟩ := open_ty hcx d e he _ _ _ ht'
                exact ⟨(cs', y), hc, hy1, hy2⟩
              have hch : ∃ f : Nat → List Value × List D, ∀ i, i < len → w.cells? base (a.add (i * P.cellsOf e)) (P.cellsOf e) = some (f i).1 ∧ RowTy tb.tab (tb.tab e) (f i).2 ∧ Rs w M0 (f i).2 (f i).1 := by
                refine ⟨fun i => if hi : i < len then (hex i hi).choose else ([], []), fun i hi => ?_⟩
                simp only [hi, dif_pos]
                exact (hex i hi).choose_spec
              obtain ⟨f, hf⟩ := hch
              have hcell : ∀ i, i < len → ∀ j u, (f i).1[j]? = some u → w.cell? ((a.add (i * P.cellsOf e)).add j) = some u := fun i hil j u hu => by
                obtain ⟨_, hcl, hat⟩ := World.cells?_some (hf i hil).1
                have hj : j < P.cellsOf e := by rw [← hcl]; exact (List.getElem?_eq_some_iff.1 hu).1
                rw [hat j hj, hu]
              have hspot : 0 < len → a.spot = none := fun h0 => by
                have hlen0 : 0 < (f 0).1.length := by rw [(hf 0 h0).2.2.length, (hf 0 h0).2.1.length]; exact hpos
                have hx := hcell 0 h0 0 _ (List.getElem?_eq_getElem hlen0)
                rw [Nat.zero_mul] at hx
                exact World.cell?_spot (a := a) (by simpa [Addr.add] using hx)
              refine ⟨[.sl ((List.range len).map fun i => (f i).2)], ⟨?_, trivial⟩, ?_⟩
              · refine RowsTy.of fun r hr => ?_
                obtain ⟨i, hi, rfl⟩ := List.mem_map.1 hr
                exact (hf i (by simpa using hi)).2.1
              · rw [hcs]
                refine Rs.one ⟨some a, len, cap, rfl, by simp, hl, hm, (fun h => by cases h), fun b o s hh => ⟨fun h0 => ?_, ?_⟩⟩
                · have := hspot h0
                  simp only [Option.some.injEq] at hh; subst hh; exact this
                · simp only [Option.some.injEq] at hh; subst hh
                  refine Rws.of (n := (tb.tab e).length) (fun r hr => ?_) fun i r hr => ?_
                  · obtain ⟨i, hi, rfl⟩ := List.mem_map.1 hr
                    exact (hf i (by simpa using hi)).2.1.length
                  · have hil : i < len := by
                      have := (List.getElem?_eq_some_iff.1 hr).1
                      simpa using this
                    have hr' : r = (f i).2 := by simp [hil] at hr; exact hr.symm
                    subst hr'
                    refine rs_rw (hf i hil).2.2 (fun j u hu => ?_) (fun _ h => h)
                    have h1 := hcell i hil j u hu
                    have hs := hspot (by omega)
                    simp only at hs
                    subst hs
                    rw [hn] at h1
                    rwa [addr_add, addr_add] at h1
        | agg ts =>
          simp only [Bool.and_eq_true] at h
          obtain ⟨hc, hall⟩ := h
          obtain ⟨i, fields, zs, hi, hs, _, _, _, hu, hfo⟩ := ty_agg hcx hti hv
          obtain ⟨xs, m, _, _, hl, hxs, hf⟩ := DataW.trod_struct hu hx
          have hlen : cs.length = ts.length := by rw [hl]; simp [Program.cellsOf, hi, hs]
          have key : ∀ p ∈ ti.fs, ∃ ds, RowTy tb.tab (tb.tab p.2) ds ∧ Rs w M0 ds ((cs.drop p.1).take (tb.tab p.2).length) := by
            intro p hp
            have hop := List.all_eq_true.1 hall p hp
            obtain ⟨k, hk⟩ := List.getElem?_of_mem hp
            have hfk : ∃ fd, fields.toList[k]? = some fd ∧ fd.offset = p.1 ∧ fd.type = p.2 := fieldsOk_get hfo hk
            obtain ⟨fd, hfd, e1, e2⟩ := hfk
            have hfd' : fields[k]? = some fd := by simpa using hfd
            have hlt : k < xs.length := by rw [hxs]; exact (Array.getElem?_eq_some_iff.1 hfd').1
            have ht := (hf k fd hfd').trans (List.getElem?_eq_getElem hlt)
            rw [e1, e2, cellsOf_tab hcx hop] at ht
            exact open_ty hcx d p.2 hop _ _ _ ht
          have := open_fields (w := w) ti.fs 0 ts hc key (by omega)
          simpa [V1.cells] using this
/-- An argument of a law. -/
theorem open_arg (hcx : tbOk P tb tb = true) {r : Reach} {b0 T : Nat} {v : Value} {dd : DataW H} {p : List MemPlace} (ht : opn tb 12 T = true) (hv : Value.okWide P w r b0 T v) (h : DataW.Trod enc P w base spare held T v dd p) :
    ∃ x, HasVT tb.tab (vtOf tb T) x ∧ R w M0 x v := by
  obtain ⟨fuel, hf⟩ := h
  obtain ⟨ds, h1, h2⟩ := open_ty hcx 12 T ht fuel _ _ hf
  obtain ⟨ti, v1, hti, hv1, htab⟩ := opn_one ht
  rw [htab] at h1
  unfold vtOf
  rw [hti]
  simp only [hv1]
  cases v1 with
  | c t =>
    obtain ⟨_, d, _, _, _, _, hu, hd⟩ := ty_c hcx hti hv1
    have hc : v.cells.toList = [v] := by
      cases t <;> simp only [DescC] at hd <;> subst hd
      · obtain ⟨_, rfl⟩ := okWide_bool hu hv; rfl
      · obtain ⟨_, rfl⟩ := okWide_int hu hv; rfl
      · obtain ⟨_, rfl⟩ := okWide_string hu hv; rfl
      · obtain ⟨_, _, _, rfl⟩ := okWide_slice hu hv; rfl
    rw [hc] at h2
    match ds, h1 with
    | [x], h1 =>
      obtain ⟨v', q, e, h3, h4⟩ := h2
      simp only [List.cons.injEq] at e
      obtain ⟨rfl, rfl⟩ := e
      exact ⟨x, h1.1, h3⟩
  | agg ts =>
    obtain ⟨_, fields, _, _, _, _, _, _, hu, _⟩ := ty_agg hcx hti hv1
    obtain ⟨cs, rfl, _⟩ := okWide_struct hu hv
    exact ⟨.agg ds, h1, cs, rfl, h2⟩
end
/-- A law that gives true, as the row wants it. -/
theorem law_run {P : Program} {f : FuncId} {ds : List D} {vs : List Value} {w : World} (h : Fun P f none ds (.bool true) []) (hr : Rs w M0 ds vs) : Calls P f vs.toArray w fun e w' => e = .returned (.bool true) ∧ Below w.heap.size w w' := by
  refine (h.2 w M0 0 vs (fun p hp => hp.elim) hr (fun cs hcs => by cases hcs)).mono ?_
  rintro e w' ⟨v, rfl, h1, h2, _⟩
  simp only [R] at h1
  subst h1
  exact ⟨rfl, h2.to_below⟩
end Go.Proofs.Ytjenbnoflaoekaa
