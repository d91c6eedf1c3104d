/- From 'it ends so' to 'it ends with this': a condition that is met has an outcome. No program in sight. -/
import Derived.Test.YtjmakbnblpjkhaaGreatDoorC9
import Derived.Test.YtjmakbnblpjkhaaGreatDoorC10
import Derived.Test.YtjmakbnblpjkhaaGreatDoorC11
import Derived.Test.YtjmakbnblpjkhaaGreatDoorC0
set_option linter.unusedVariables false
set_option linter.unusedSimpArgs false
set_option linter.unusedSectionVars false
set_option maxRecDepth 100000
namespace Go.Proofs.YtjmakbnblpjkhaaGreatDoor
open Go.RowKit
variable [GC]
section
open Classical
variable {P : Program} {tab : Nat → List CT} {T : D → List D → Prop}
abbrev Out := List D → D × List D
theorem VC.exact {r0 : D × List D} (hT : T r0.1 r0.2) : ∀ (V : VC) (env : List D) (L : List ((List D → Prop) × Out)), (∀ x ∈ L, ∀ ys, T (x.2 ys).1 (x.2 ys).2) → V.den P tab env T (L.map (·.1)) →
  ∃ r : D × List D, T r.1 r.2 ∧ V.den P tab env (fun d bs => d = r.1 ∧ bs = r.2) (L.map fun x => fun ys => x.1 ys ∧ x.2 ys = r)
 | .fail _, _, _, _, h => h.elim
 | .ret e bs, env, L, _, h => by
  simp only [VC.den] at h
  exact ⟨(e.den env, bs.map (fun x => x.den env)), h, ⟨rfl, rfl⟩⟩
 | .rq (.cond gs c) k, env, L, hL, ⟨h1, h2⟩ => by
  obtain ⟨r, q1, q2⟩ := VC.exact hT k env L hL h2
  exact ⟨r, q1, h1, q2⟩
 | .rq (.call gs f bx args vt nb) k, env, L, hL, ⟨d, cs, h1, h2, h3, h4⟩ => by
  obtain ⟨r, q1, q2⟩ := VC.exact hT k _ L hL h4
  exact ⟨r, q1, d, cs, h1, h2, h3, q2⟩
 | .rq (.callR f bx args vt nb rt) k, env, L, hL, ⟨d, cs, h1, h2, h3, h4⟩ => by
  obtain ⟨r, q1, q2⟩ := VC.exact hT k _ L hL h4
  exact ⟨r, q1, d, cs, h1, h2, h3, q2⟩
 | .rq (.callV gs e args vt) k, env, L, hL, ⟨d, h1, h3, h4⟩ => by
  obtain ⟨r, q1, q2⟩ := VC.exact hT k _ L hL h4
  exact ⟨r, q1, d, h1, h3, q2⟩
 | .rq (.glob g vt ix) k, env, L, hL, ⟨d, h1, h2, h3, h4⟩ => by
  obtain ⟨r, q1, q2⟩ := VC.exact hT k _ L hL h4
  exact ⟨r, q1, d, h1, h2, h3, q2⟩
 | .rq (.new f args nb) k, env, L, hL, ⟨cs, h2, h3, h4⟩ => by
  obtain ⟨r, q1, q2⟩ := VC.exact hT k _ L hL h4
  exact ⟨r, q1, cs, h2, h3, q2⟩
 | .ite c a b, env, L, hL, ⟨h1, h2⟩ => by
  cases hc : (c.den env).toB with
  | true =>
   obtain ⟨r, q1, q2⟩ := VC.exact hT a env L hL (h1 hc)
   exact ⟨r, q1, ⟨fun _ => q2, fun h => absurd (hc.symm.trans h) (by simp)⟩⟩
  | false =>
   obtain ⟨r, q1, q2⟩ := VC.exact hT b env L hL (h2 hc)
   exact ⟨r, q1, ⟨fun h => absurd (hc.symm.trans h) (by simp), fun _ => q2⟩⟩
 | .again d es, env, L, hL, h => by
  simp only [VC.den, List.getElem?_map] at h
  cases hd : L[d]? with
  | none => rw [hd] at h; exact h.elim
  | some x =>
   rw [hd] at h
   refine ⟨x.2 (es.map (·.den env)), hL x (List.mem_of_getElem? hd) _, ?_⟩
   simp only [VC.den, List.getElem?_map, hd]
   exact ⟨h, rfl⟩
 | .loop tys inits body, env, L, hL, ⟨I, μ, hI, hb⟩ => by
  let D1 (xs : List D) (o : Out) (r : D × List D) : Prop := T r.1 r.2 ∧ body.den P tab (env ++ xs) (fun d bs => d = r.1 ∧ bs = r.2) ((fun ys => (I ys ∧ μ ys < μ xs) ∧ o ys = r) :: L.map fun x => fun ys => x.1 ys ∧ x.2 ys = r)
  let G : (xs : List D) → ((ys : List D) → μ ys < μ xs → D × List D) → D × List D := fun xs rec =>
   if h : ∃ r, D1 xs (fun ys => if hy : μ ys < μ xs then rec ys hy else r0) r then h.choose else r0
  let o : Out := (measure μ).wf.fix G
  have ho : ∀ xs, o xs = if h : ∃ r, D1 xs (fun ys => if μ ys < μ xs then o ys else r0) r then h.choose else r0 := fun xs => by
   show (measure μ).wf.fix G xs = _
   rw [WellFounded.fix_eq]
   rfl
  have hoT : ∀ xs, T (o xs).1 (o xs).2 := fun xs => by
   rw [ho]
   split
   ·rename_i h; exact h.choose_spec.1
   ·exact hT
  have hbody : ∀ xs, HasTys tab tys xs → FitsL xs → I xs → body.den P tab (env ++ xs) (fun d bs => d = (o xs).1 ∧ bs = (o xs).2) ((fun ys => (I ys ∧ o ys = o xs) ∧ μ ys < μ xs) :: L.map fun x => fun ys => x.1 ys ∧ x.2 ys = o xs) := by
   intro xs h1 h2 h3
   have hex : ∃ r, D1 xs (fun ys => if μ ys < μ xs then o ys else r0) r := by
    refine VC.exact hT body (env ++ xs) ((fun ys => I ys ∧ μ ys < μ xs, fun ys => if μ ys < μ xs then o ys else r0) :: L) ?_ (hb xs h1 h2 h3)
    intro x hx ys
    rcases List.mem_cons.1 hx with rfl | hx
    ·simp only; split
     ·exact hoT ys
     ·exact hT
    ·exact hL x hx ys
   have hox : o xs = hex.choose := by rw [ho, dif_pos hex]
   have hs := hex.choose_spec.2
   rw [← hox] at hs
   have he : (fun ys => (I ys ∧ μ ys < μ xs) ∧ (if μ ys < μ xs then o ys else r0) = o xs) = (fun ys => (I ys ∧ o ys = o xs) ∧ μ ys < μ xs) := by
    funext ys
    apply propext
    by_cases hy : μ ys < μ xs <;> simp [hy]
   rw [he] at hs
   exact hs
  refine ⟨o (inits.map (·.den env)), hoT _, fun xs => I xs ∧ o xs = o (inits.map (·.den env)), μ, ⟨hI, rfl⟩, ?_⟩
  rintro xs h1 h2 ⟨h3, h4⟩
  have := hbody xs h1 h2 h3
  rw [h4] at this
  exact this
theorem FunR.ex {f : FuncId} {tb : TB} {rb : RB} {bx : Option (List CT)} {V : VC} {Γ : List VT} (hV : vcOf P tb rb f bx = V) (hok : V.ok = true) (hΓ : tyOf P tb f bx = Γ) (htb : tbOk P tb tb = true) (hm : P.follows .mixedOrders = true)
  {bc : Option (List D)} {ds : List D} {r0 : D × List D} (hT : T r0.1 r0.2) (hbc : bc.map List.length = bx.map List.length) (hty : HasTys tb.tab Γ (ds ++ bc.getD [])) (hbx' : bx = none → ∀ d bs, T d bs → bs = [])
  (hden : FitsL ds → FitsL (bc.getD []) → V.den P tb.tab (ds ++ bc.getD []) T []) : ∃ r : D × List D, T r.1 r.2 ∧ FunR P f bc ds r.1 r.2 (rb.get f) := by
 by_cases hf : FitsL ds ∧ FitsL (bc.getD [])
 ·obtain ⟨r, q1, q2⟩ := VC.exact hT V _ [] (by simp) (hden hf.1 hf.2)
  exact ⟨r, q1, FunR.of hV hok hΓ htb hm hbc hty (fun h => hbx' h _ _ q1) fun _ _ => q2⟩
 ·exact ⟨r0, hT, FunR.of hV hok hΓ htb hm hbc hty (fun h => hbx' h _ _ hT) fun h1 h2 => absurd ⟨h1, h2⟩ hf⟩
theorem Fun.ex {f : FuncId} {tb : TB} {rb : RB} {bx : Option (List CT)} {V : VC} {Γ : List VT} (hV : vcOf P tb rb f bx = V) (hok : V.ok = true) (hΓ : tyOf P tb f bx = Γ) (htb : tbOk P tb tb = true) (hm : P.follows .mixedOrders = true)
  {bc : Option (List D)} {ds : List D} {r0 : D × List D} (hT : T r0.1 r0.2) (hbc : bc.map List.length = bx.map List.length) (hty : HasTys tb.tab Γ (ds ++ bc.getD [])) (hbx' : bx = none → ∀ d bs, T d bs → bs = [])
  (hden : FitsL ds → FitsL (bc.getD []) → V.den P tb.tab (ds ++ bc.getD []) T []) : ∃ r : D × List D, T r.1 r.2 ∧ Fun P f bc ds r.1 r.2 := by
 obtain ⟨r, h1, h2⟩ := FunR.ex hV hok hΓ htb hm hT hbc hty hbx' hden
 exact ⟨r, h1, .ofR h2⟩
end
end Go.Proofs.YtjmakbnblpjkhaaGreatDoor
/- Contracts out of conditions, for the user: lists of data as lists of structures; loops; calls. -/
namespace Go.Proofs.YtjmakbnblpjkhaaGreatDoor
open Go.RowKit Go
variable [GC]
theorem cA : (∀ {α : Type} {a : α} {r s : List α}, (a :: r) ++ s = a :: (r ++ s)) ∧ (∀ {α : Type} (r : List α), [] ++ r = r) := ⟨by simp, by simp⟩
theorem gE : (∀ {α : Type} {a b : α} {l : List α}, a ∈ b :: l ↔ a = b ∨ a ∈ l) ∧ (∀ {α : Type} {a : α}, ¬ a ∈ ([] : List α)) ∧ (∀ (p : Prop), (p ∨ False) = p) ∧ (∀ {α : Type} {p : α → Prop} {q : α → Prop} {a : α}, (∀ x, x = a ∨ q x → p x) ↔ p a ∧ ∀ x, q x → p x) ∧ (∀ {α : Type} {p : α → Prop} {a : α}, (∀ x, x = a → p x) ↔ p a) := ⟨List.mem_cons, List.not_mem_nil, or_false, forall_eq_or_imp, forall_eq⟩
theorem mo : Tryz.prog.follows .mixedOrders = true := by kernel_rfl
theorem FunR.ofV {f : FuncId} {V : VC} {Γ : List VT} (hV : vcOf Tryz.prog tbl rbt f none = V) (hΓ : tyOf Tryz.prog tbl f none = Γ) {rt : List (Nat × Nat)} (hrt : rbt.get f = rt) (hok : V.ok = true) {ds : List D} {r : D}
  (hty : HasTys tbl.tab Γ ds) (hden : FitsL ds → V.den Tryz.prog tbl.tab ds (fun d bs => d = r ∧ bs = []) []) : FunR Tryz.prog f none ds r [] rt :=
 hrt ▸ FunR.of hV hok hΓ tbl_ok mo rfl (by simpa using hty) (fun _ => rfl) (fun h _ => by simpa using hden h)
theorem Fun.ofV {f : FuncId} {V : VC} {Γ : List VT} (hV : vcOf Tryz.prog tbl rbt f none = V) (hΓ : tyOf Tryz.prog tbl f none = Γ) (hok : V.ok = true) {ds : List D} {r : D}
  (hty : HasTys tbl.tab Γ ds) (hden : FitsL ds → V.den Tryz.prog tbl.tab ds (fun d bs => d = r ∧ bs = []) []) : Fun Tryz.prog f none ds r [] :=
 Fun.of hV hok hΓ tbl_ok mo rfl (by simpa using hty) (fun _ => rfl) (fun h _ => by simpa using hden h)
theorem Fun.of_calls {P : Program} {f : FuncId} {ds : List D} {r : D} (hf : callable P f = true)
  (h : ∀ (w : World) (M : Addr → Prop) (vs : List Value), (∀ p, M p → p.block < w.heap.size) → Rs w M ds vs → Calls P f vs.toArray w fun e w' => ∃ v, e = .returned v ∧ R w' M r v ∧ Below w.heap.size w w') : Fun P f none ds r [] :=
 ⟨hf, fun w M g vs hM hr _ => (h w M vs hM.1 hr).mono fun e w' ⟨v, h1, h2, h3⟩ => ⟨v, h1, h2, Fr.of_below h3 (Nat.le_refl _), fun h => by cases h⟩⟩
theorem Fun.of_callsG {P : Program} {f : FuncId} {ds : List D} {r : D} (hf : callable P f = true)
  (h : ∀ (w : World) (M : Addr → Prop) (vs : List Value), Rdy w M → Rs w M ds vs → Calls P f vs.toArray w fun e w' => ∃ v, e = .returned v ∧ R w' M r v ∧ Below w.heap.size w w') : Fun P f none ds r [] :=
 ⟨hf, fun w M g vs hM hr _ => (h w M vs hM hr).mono fun e w' ⟨v, h1, h2, h3⟩ => ⟨v, h1, h2, Fr.of_below h3 (Nat.le_refl _), fun h => by cases h⟩⟩
inductive AllImp : List (List D → Prop) → List (List D → Prop) → Prop
 | nil : AllImp [] []
 | cons {p q : List D → Prop} {L L' : List (List D → Prop)} (h : ∀ ys, p ys → q ys) (t : AllImp L L') : AllImp (p :: L) (q :: L')
theorem AllImp.refl : ∀ L, AllImp L L
 | [] => .nil
 | _ :: L => .cons (fun _ h => h) (AllImp.refl L)
theorem AllImp.get {L L' : List (List D → Prop)} (h : AllImp L L') : ∀ {d : Nat} {p : List D → Prop}, L[d]? = some p → ∃ q, L'[d]? = some q ∧ ∀ ys, p ys → q ys := by
 induction h with
 | nil => intro d p hp; simp at hp
 | cons h t ih =>
  intro d p hp
  cases d with
  | zero => simp at hp; subst hp; exact ⟨_, rfl, h⟩
  | succ d => simp at hp; simpa using ih hp
theorem VC.den_mono {P : Program} {tab : Nat → List CT} {Q Q' : D → List D → Prop} (hQ : ∀ d bs, Q d bs → Q' d bs) : ∀ (V : VC) (env : List D) {L L' : List (List D → Prop)}, AllImp L L' → V.den P tab env Q L → V.den P tab env Q' L'
 | .fail _, _, _, _, _, h => h.elim
 | .ret e bs, env, _, _, _, h => hQ _ _ h
 | .rq (.cond gs c) k, env, _, _, hL, ⟨h1, h2⟩ => ⟨h1, VC.den_mono hQ k env hL h2⟩
 | .rq (.call gs f bx args vt nb) k, env, _, _, hL, ⟨d, cs, h1, h2, h3, h4⟩ => ⟨d, cs, h1, h2, h3, VC.den_mono hQ k _ hL h4⟩
 | .rq (.callR f bx args vt nb rt) k, env, _, _, hL, ⟨d, cs, h1, h2, h3, h4⟩ => ⟨d, cs, h1, h2, h3, VC.den_mono hQ k _ hL h4⟩
 | .rq (.callV gs e args vt) k, env, _, _, hL, ⟨d, h1, h3, h4⟩ => ⟨d, h1, h3, VC.den_mono hQ k _ hL h4⟩
 | .rq (.glob g vt ix) k, env, _, _, hL, ⟨d, h1, h2, h3, h4⟩ => ⟨d, h1, h2, h3, VC.den_mono hQ k _ hL h4⟩
 | .rq (.new f args nb) k, env, _, _, hL, ⟨cs, h2, h3, h4⟩ => ⟨cs, h2, h3, VC.den_mono hQ k _ hL h4⟩
 | .ite c a b, env, _, _, hL, ⟨h1, h2⟩ => ⟨fun h => VC.den_mono hQ a env hL (h1 h), fun h => VC.den_mono hQ b env hL (h2 h)⟩
 | .loop tys inits body, env, _, _, hL, ⟨I, μ, h1, h2⟩ => ⟨I, μ, h1, fun xs q1 q2 q3 => VC.den_mono hQ body _ (.cons (fun _ h => h) hL) (h2 xs q1 q2 q3)⟩
 | .again d es, env, L, L', hL, h => by
  simp only [VC.den] at h ⊢
  cases hd : L[d]? with
  | none => rw [hd] at h; exact h.elim
  | some p =>
   rw [hd] at h
   obtain ⟨q, h1, h2⟩ := hL.get hd
   rw [h1]; exact h2 _ h
class Enc (α : Type) extends Inhabited α where
 cells : α → List D
def nth {α : Type} [Inhabited α] (l : List α) (k : Nat) : α := l.getD k default
def enc {α : Type} [Enc α] (x : α) : D := .agg (Enc.cells x)
def encS {α : Type} [Enc α] (l : List α) : D := .sl (l.map Enc.cells)
theorem row_enc {α : Type} [Enc α] (l : List α) (k : Nat) {z : List D} (h : Enc.cells (default : α) = z) : D.agg (((l.map Enc.cells)[k]?).getD z) = enc (nth l k) := by
 unfold enc nth
 rw [List.getD_eq_getElem?_getD, List.getElem?_map]
 cases l[k]? <;> simp [h]
@[simp] theorem encS_toR {α : Type} [Enc α] (l : List α) : (encS l).toR = l.map Enc.cells := rfl
@[simp] theorem encS_len {α : Type} [Enc α] (l : List α) : lenD (encS l) = l.length := by simp [encS, lenD]
@[simp] theorem enc_toA {α : Type} [Enc α] (x : α) : (enc x).toA = Enc.cells x := rfl
theorem lenD_sl (r : List (List D)) : lenD (.sl r) = r.length := rfl
theorem den_loop {P : Program} {tab : Nat → List CT} {env : List D} {Q : D → List D → Prop} {L : List (List D → Prop)} {tys : List VT} {inits : List E} {body : VC}
  (St : Type) (e : St → List D) (I : St → Prop) (μ : St → Nat) (s0 : St) (hμ : ∀ s s', e s = e s' → μ s = μ s') (h0 : inits.map (·.den env) = e s0) (hI : I s0)
  (hs : ∀ s, I s → FitsL (e s) → body.den P tab (env ++ e s) Q ((fun ys => ∃ s', ys = e s' ∧ I s' ∧ μ s' < μ s) :: L)) : (VC.loop tys inits body).den P tab env Q L := by
 classical
 let m : List D → Nat := fun xs => if h : ∃ s, xs = e s then μ h.choose else 0
 have hm : ∀ s, m (e s) = μ s := by
  intro s
  have hx : ∃ s', e s = e s' := ⟨s, rfl⟩
  show (if h : ∃ s', e s = e s' then μ h.choose else 0) = μ s
  rw [dif_pos hx]
  exact (hμ _ _ hx.choose_spec).symm
 refine ⟨fun xs => ∃ s, xs = e s ∧ I s, m, ⟨s0, h0, hI⟩, ?_⟩
 rintro xs _ hf ⟨s, rfl, hIs⟩
 have := hs s hIs hf
 have he : (fun ys => (∃ s, ys = e s ∧ I s) ∧ m ys < m (e s)) = (fun ys => ∃ s', ys = e s' ∧ I s' ∧ μ s' < μ s) := by
  funext ys
  apply propext
  constructor
  ·rintro ⟨⟨s', rfl, h⟩, h2⟩; exact ⟨s', rfl, h, by rwa [hm, hm] at h2⟩
  ·rintro ⟨s', rfl, h, h2⟩; exact ⟨⟨s', rfl, h⟩, by rwa [hm, hm]⟩
 rw [he]
 exact this
theorem wrap_i64 {n : Int} (h1 : -9223372036854775808 ≤ n) (h2 : n ≤ 9223372036854775807) : IntKind.i64.wrap n = n := by
 simp only [IntKind.wrap, IntKind.bits, IntKind.signed]
 simp
 omega
theorem den_call {P : Program} {tab : Nat → List CT} {env : List D} {Q : D → List D → Prop} {L : List (List D → Prop)} {gs : Gd} {f : FuncId} {args : List E} {vt : VT} {k : VC} {r : D} {xs : List D}
  (ha : args.map (·.den env) = xs) (hc : Fun P f none xs r []) (hty : HasVT tab vt r) (hk : k.den P tab (env ++ [r]) Q L) : (VC.rq (.call gs f none args vt []) k).den P tab env Q L :=
 ⟨r, [], hty, trivial, fun _ => ha ▸ hc, hk⟩
theorem den_callR {P : Program} {tab : Nat → List CT} {env : List D} {Q : D → List D → Prop} {L : List (List D → Prop)} {f : FuncId} {args : List E} {vt : VT} {rt : List (Nat × Nat)} {k : VC} {r : D} {xs : List D}
  (ha : args.map (·.den env) = xs) (hc : FunR P f none xs r [] rt) (hty : HasVT tab vt r) (hk : k.den P tab (env ++ [r]) Q L) : (VC.rq (.callR f none args vt [] rt) k).den P tab env Q L :=
 ⟨r, [], hty, trivial, ha ▸ hc, hk⟩
theorem den_callg {P : Program} {tab : Nat → List CT} {env : List D} {Q : D → List D → Prop} {L : List (List D → Prop)} {gs : Gd} {f : FuncId} {args : List E} {vt : VT} {k : VC} {r : D} {xs : List D}
  (ha : args.map (·.den env) = xs) (hc : gsH env gs → Fun P f none xs r []) (hty : HasVT tab vt r) (hk : k.den P tab (env ++ [r]) Q L) : (VC.rq (.call gs f none args vt []) k).den P tab env Q L :=
 ⟨r, [], hty, trivial, fun h => ha ▸ hc h, hk⟩
theorem den_glob {P : Program} {tab : Nat → List CT} {env : List D} {Q : D → List D → Prop} {L : List (List D → Prop)} {g : Nat} {vt : VT} {ix : Option (Gd × E × Nat)} {k : VC} (d : D)
  (h1 : GlobIs g d) (h2 : HasVT tab vt d) (h3 : IxOk env ix) (hk : k.den P tab (env ++ [d]) Q L) : (VC.rq (.glob g vt ix) k).den P tab env Q L := ⟨d, h2, h1, h3, hk⟩
theorem den_cond {P : Program} {tab : Nat → List CT} {env : List D} {Q : D → List D → Prop} {L : List (List D → Prop)} {gs : Gd} {c : E} {k : VC}
  (h : gsH env gs → c.den env = .bool true) (hk : k.den P tab env Q L) : (VC.rq (.cond gs c) k).den P tab env Q L := ⟨h, hk⟩
theorem den_ite {P : Program} {tab : Nat → List CT} {env : List D} {Q : D → List D → Prop} {L : List (List D → Prop)} {c : E} {a b : VC}
  (h1 : (c.den env).toB = true → a.den P tab env Q L) (h2 : (c.den env).toB = false → b.den P tab env Q L) : (VC.ite c a b).den P tab env Q L := ⟨h1, h2⟩
theorem den_ret {P : Program} {tab : Nat → List CT} {env : List D} {L : List (List D → Prop)} {e : E} {r : D} (h : e.den env = r) : (VC.ret e []).den P tab env (fun d bs => d = r ∧ bs = []) L := ⟨h, rfl⟩
theorem den_again {P : Program} {tab : Nat → List CT} {env : List D} {Q : D → List D → Prop} {L : List (List D → Prop)} {es : List E} {St : Type} {e : St → List D} {I : St → Prop} {μ : St → Nat} {m : Nat} (s' : St)
  (h : es.map (·.den env) = e s') (hI : I s') (hm : μ s' < m) : (VC.again 0 es).den P tab env Q ((fun ys => ∃ s', ys = e s' ∧ I s' ∧ μ s' < m) :: L) := ⟨s', h, hI, hm⟩
theorem Fun.exV {f : FuncId} {V : VC} {Γ : List VT} {ds : List D} {T : D → Prop} (hV : vcOf Tryz.prog tbl rbt f none = V) (hok : V.ok = true) (hΓ : tyOf Tryz.prog tbl f none = Γ) (hty : HasTys tbl.tab Γ ds) (r0 : D) (hT : T r0)
  (hden : FitsL ds → V.den Tryz.prog tbl.tab ds (fun d bs => T d ∧ bs = []) []) : ∃ r, T r ∧ Fun Tryz.prog f none ds r [] := by
 obtain ⟨⟨r, bs⟩, ⟨q1, q2⟩, q3⟩ := Fun.ex (T := fun d bs => T d ∧ bs = []) (r0 := (r0, [])) hV hok hΓ tbl_ok mo ⟨hT, rfl⟩ (bc := none) rfl (by simpa using hty) (fun _ d bs h => h.2) (fun h _ => by simpa using hden h)
 simp only at q2; subst q2
 exact ⟨r, q1, q3⟩
theorem den_for {P : Program} {tab : Nat → List CT} {env : List D} {Q : D → List D → Prop} {L : List (List D → Prop)} {tys : List VT} {inits : List E} {body : VC}
  (n : Nat) (st : Nat → List D) (I : Nat → Prop) (h0 : inits.map (·.den env) = st 0) (hI : I 0)
  (hs : ∀ k, k ≤ n → I k → FitsL (st k) → body.den P tab (env ++ st k) Q ((fun ys => k < n ∧ ys = st (k + 1) ∧ I (k + 1)) :: L)) : (VC.loop tys inits body).den P tab env Q L := by
 classical
 let last : List D → Nat → Nat := fun xs m => Nat.rec 0 (fun j r => if xs = st (j + 1) ∧ I (j + 1) then j + 1 else r) m
 have last_le : ∀ xs m, last xs m ≤ m := by
  intro xs m
  induction m with
  | zero => exact Nat.le_refl _
  | succ m ih =>
   show (if xs = st (m + 1) ∧ I (m + 1) then m + 1 else last xs m) ≤ m + 1
   split <;> omega
 have last_ge : ∀ xs m k, k ≤ m → xs = st k → I k → k ≤ last xs m := by
  intro xs m
  induction m with
  | zero => intro k hk _ _; omega
  | succ m ih =>
   intro k hk hx hi
   show k ≤ (if xs = st (m + 1) ∧ I (m + 1) then m + 1 else last xs m)
   by_cases h : k = m + 1
   ·subst h; rw [if_pos ⟨hx, hi⟩]; exact Nat.le_refl _
   ·have := ih k (by omega) hx hi
    split <;> omega
 have last_is : ∀ xs m k, k ≤ m → xs = st k → I k → xs = st (last xs m) ∧ I (last xs m) := by
  intro xs m
  induction m with
  | zero =>
   intro k hk hx hi
   have : k = 0 := by omega
   subst this; exact ⟨hx, hi⟩
  | succ m ih =>
   intro k hk hx hi
   show xs = st (if xs = st (m + 1) ∧ I (m + 1) then m + 1 else last xs m) ∧ I (if xs = st (m + 1) ∧ I (m + 1) then m + 1 else last xs m)
   by_cases h : xs = st (m + 1) ∧ I (m + 1)
   ·rw [if_pos h]; exact h
   ·rw [if_neg h]
    refine ih k ?_ hx hi
    rcases Nat.lt_or_ge k (m + 1) with hlt | hge
    ·omega
    ·have : k = m + 1 := by omega
     subst this; exact absurd ⟨hx, hi⟩ h
 refine ⟨fun xs => ∃ k, k ≤ n ∧ xs = st k ∧ I k, fun xs => n - last xs n, ⟨0, Nat.zero_le _, h0, hI⟩, ?_⟩
 rintro xs _ hf ⟨k, hk, hx, hi⟩
 obtain ⟨h1, h2⟩ := last_is xs n k hk hx hi
 have h3 := last_le xs n
 generalize hj : last xs n = j at *
 subst h1
 have := hs j h3 h2 hf
 refine VC.den_mono (fun _ _ h => h) _ _ ?_ this
 refine .cons (fun ys hys => ?_) (.refl _)
 obtain ⟨q1, q2, q3⟩ := hys
 refine ⟨⟨j + 1, by omega, q2, q3⟩, ?_⟩
 have := last_ge ys n (j + 1) (by omega) q2 q3
 show n - last ys n < n - last (st j) n
 rw [hj]; omega
theorem den_next {P : Program} {tab : Nat → List CT} {env : List D} {Q : D → List D → Prop} {L : List (List D → Prop)} {es : List E} {xs : List D} {p q : Prop}
  (hp : p) (h : es.map (·.den env) = xs) (hq : q) : (VC.again 0 es).den P tab env Q ((fun ys => p ∧ ys = xs ∧ q) :: L) := ⟨hp, h, hq⟩
def ix (k : Nat) : List D := [.int .i64 k]
theorem ar_add {x y : Int} (h1 : -9223372036854775808 ≤ x + y) (h2 : x + y ≤ 9223372036854775807) : arI .add .i64 x y = x + y := wrap_i64 h1 h2
theorem ar_sub {x y : Int} (h1 : -9223372036854775808 ≤ x - y) (h2 : x - y ≤ 9223372036854775807) : arI .sub .i64 x y = x - y := wrap_i64 h1 h2
theorem rowsTy_map {α : Type} [Enc α] {tab : Nat → List CT} {ts : List CT} (h : ∀ x : α, RowTy tab ts (Enc.cells x)) (l : List α) : RowsTy tab ts (l.map Enc.cells) :=
 RowsTy.of (by intro r hr; obtain ⟨x, _, rfl⟩ := List.mem_map.1 hr; exact h x)
theorem fits_encS {α : Type} [Enc α] {l : List α} (h : Fits (encS l)) : l.length ≤ maxLen := by
 unfold encS Fits at h; simpa using h.1
theorem cmpI_lss (x y : Int) : cmpI .lss x y = decide (x < y) := rfl
theorem cmpI_leq (x y : Int) : cmpI .leq x y = decide (x ≤ y) := rfl
theorem cmpI_gtr (x y : Int) : cmpI .gtr x y = decide (x > y) := rfl
theorem cmpI_geq (x y : Int) : cmpI .geq x y = decide (x ≥ y) := rfl
theorem cmpI_eql (x y : Int) : cmpI .eql x y = (x == y) := rfl
theorem cmpI_neq (x y : Int) : cmpI .neq x y = (x != y) := rfl
theorem dEq : (∀ {α β : Type} {f : α → β} {a : α} {l : List α}, List.map f (a :: l) = f a :: List.map f l) ∧ (∀ {α β : Type} {f : α → β}, List.map f [] = []) ∧ (∀ {α β : Type} (f : α → β), Option.map f none = none) ∧ (∀ {α β : Type} (a : α) (f : α → β), Option.map f (some a) = some (f a)) ∧
  (∀ {α : Type} {x : α} {xs : List α} {d : α}, (x :: xs).getD 0 d = x) ∧ (∀ {α : Type} {x : α} {xs : List α} {n : Nat} {d : α}, (x :: xs).getD (n + 1) d = xs.getD n d) ∧ (∀ {α : Type} {a : α} {r s : List α}, (a :: r) ++ s = a :: (r ++ s)) ∧ (∀ {α : Type} (r : List α), [] ++ r = r) ∧ (∀ {α : Type} (r : List α), r ++ [] = r) ∧
  (∀ {α : Type} {a : α} {l : List α} {i : Nat}, (a :: l).drop (i + 1) = l.drop i) ∧ (∀ {α : Type} {l : List α}, l.drop 0 = l) ∧ (∀ {α : Type} {a : α} {l : List α} {i : Nat}, (a :: l).take (i + 1) = a :: l.take i) ∧ (∀ {α : Type} {l : List α}, l.take 0 = []) ∧
  (∀ (k : IntKind) (n : Int), (D.int k n).toI = n) ∧ (∀ b : Bool, (D.bool b).toB = b) ∧ (∀ s : ByteArray, (D.str s).toS = s) ∧ (∀ l : List D, (D.agg l).toA = l) ∧ (∀ l : List D, (D.tup l).toT = l) ∧ (∀ l : List (List D), (D.sl l).toR = l) ∧
  (∀ {α : Type} [Enc α] (x : α), (enc x).toA = Enc.cells x) ∧ (∀ {α : Type} [Enc α] (l : List α), (encS l).toR = l.map Enc.cells) ∧ (∀ {α : Type} [Enc α] (l : List α), lenD (encS l) = l.length) :=
 ⟨by simp, by simp, by simp, by simp, by simp, by simp, by simp, by simp, by simp, by simp, by simp, by simp, by simp, by simp, by simp, by simp, by simp, by simp, by simp, by simp, by simp, by simp⟩
theorem iEq : (∀ x y : Int, cmpI .lss x y = decide (x < y)) ∧ (∀ x y : Int, cmpI .leq x y = decide (x ≤ y)) ∧ (∀ x y : Int, cmpI .gtr x y = decide (x > y)) ∧ (∀ x y : Int, cmpI .geq x y = decide (x ≥ y)) ∧ (∀ x y : Int, cmpI .eql x y = (x == y)) ∧ (∀ x y : Int, cmpI .neq x y = (x != y)) ∧ (∀ n : Nat, (n : Int).toNat = n) ∧ (0 : Int).toNat = 0 :=
 ⟨cmpI_lss, cmpI_leq, cmpI_gtr, cmpI_geq, cmpI_eql, cmpI_neq, Int.toNat_natCast, rfl⟩
end Go.Proofs.YtjmakbnblpjkhaaGreatDoor
/- The program's structures as plain types: their cells, their types, equality. Written by gen2.py. -/
namespace Go.Proofs.YtjmakbnblpjkhaaGreatDoor
open Go.RowKit Go
variable [GC]
instance : Enc ByteArray := { cells := fun s => [.str s] }
instance : Enc Int := { cells := fun n => [.int .i64 n] }
theorem cells_str (s : ByteArray) : Enc.cells s = [.str s] := rfl
theorem cells_int (n : Int) : Enc.cells n = [.int .i64 n] := rfl
theorem row_str (l : List ByteArray) (k : Nat) : D.agg (((l.map Enc.cells)[k]?).getD [zeroD CT.str]) = enc (nth l k) := row_enc l k rfl
theorem row_int (l : List Int) (k : Nat) : D.agg (((l.map Enc.cells)[k]?).getD [zeroD (CT.int .i64)]) = enc (nth l k) := row_enc l k rfl
def byteZ (s : ByteArray) (k : Nat) : Int := ((s[k]?).map fun (c : UInt8) => (c.toNat : Int)).getD 0
theorem at_byte (s : ByteArray) (k : Nat) : ((s[k]?).map fun (c : UInt8) => (c.toNat : Int)).getD 0 = byteZ s k := rfl
theorem fits_str {s : ByteArray} (h : Fits (.str s)) : s.size ≤ 9223372036854775807 := by simpa [Fits, maxLen] using h
theorem len_str (s : ByteArray) : lenD (.str s) = s.size := rfl
theorem ty_str (s : ByteArray) : RowTy tbl.tab [.str] (Enc.cells s) := by simp [cells_str, RowTy, HasTy]
theorem tab_str : tbl.tab 9 = [.str] := by kernel_rfl
theorem ty_strS (l : List ByteArray) : HasTy tbl.tab (.sl 9) (encS l) := by
 show RowsTy _ (tbl.tab _) _
 rw [tab_str]; exact rowsTy_map ty_str l
theorem toList_eqB (a b : ByteArray) : (a.toList == b.toList) = decide (a = b) := by
 rw [Bool.eq_iff_iff]
 simp only [beq_iff_eq, decide_eq_true_eq]
 refine ⟨fun h => ?_, fun h => by rw [h]⟩
 rw [ByteArray.toList_eq, ByteArray.toList_eq] at h
 cases a; cases b; simp_all [Array.toList_inj]
theorem cmpS_eql (a b : ByteArray) : cmpS .eql a b = decide (a = b) := toList_eqB a b
theorem cmpS_neq (a b : ByteArray) : cmpS .neq a b = !decide (a = b) := by rw [← toList_eqB]; rfl
def ltB (a b : ByteArray) : Bool := Op.bytesLess a.toList b.toList
theorem cmpS_lss (a b : ByteArray) : cmpS .lss a b = ltB a b := rfl
theorem cmpS_geq (a b : ByteArray) : cmpS .geq a b = !ltB a b := rfl
theorem sEq : (∀ s : ByteArray, lenD (.str s) = s.size) ∧ (∀ (s : ByteArray) (k : Nat), ((s[k]?).map fun (c : UInt8) => (c.toNat : Int)).getD 0 = byteZ s k) ∧ (∀ a b : ByteArray, cmpS .eql a b = decide (a = b)) ∧ (∀ a b : ByteArray, cmpS .neq a b = !decide (a = b)) ∧ (∀ a b : ByteArray, cmpS .lss a b = ltB a b) ∧ (∀ a b : ByteArray, cmpS .geq a b = !ltB a b) := ⟨len_str, at_byte, cmpS_eql, cmpS_neq, cmpS_lss, cmpS_geq⟩
structure Layer where
 name : ByteArray
 count : Int
 deriving DecidableEq, Inhabited
instance : Enc Layer := { cells := fun v => [.str v.name, .int .i64 v.count] }
theorem cells_Layer (v : Layer) : Enc.cells v = [.str v.name, .int .i64 v.count] := rfl
theorem row_Layer (l : List Layer) (k : Nat) : D.agg (((l.map Enc.cells)[k]?).getD [zeroD (CT.str), zeroD (CT.int .i64)]) = enc (nth l k) := row_enc l k rfl
theorem ty_Layer (v : Layer) : RowTy tbl.tab [.str, .int .i64] (Enc.cells v) := ⟨trivial, rfl, trivial⟩
theorem tab_Layer : tbl.tab 160 = [.str, .int .i64] := by kernel_rfl
theorem ty_LayerS (l : List Layer) : HasTy tbl.tab (.sl 160) (encS l) := by
 show RowsTy _ (tbl.tab _) _
 rw [tab_Layer]; exact rowsTy_map ty_Layer l
structure Cell where
 key : ByteArray
 val : Int
 deriving DecidableEq, Inhabited
instance : Enc Cell := { cells := fun v => [.str v.key, .int .i64 v.val] }
theorem cells_Cell (v : Cell) : Enc.cells v = [.str v.key, .int .i64 v.val] := rfl
theorem row_Cell (l : List Cell) (k : Nat) : D.agg (((l.map Enc.cells)[k]?).getD [zeroD (CT.str), zeroD (CT.int .i64)]) = enc (nth l k) := row_enc l k rfl
theorem ty_Cell (v : Cell) : RowTy tbl.tab [.str, .int .i64] (Enc.cells v) := ⟨trivial, rfl, trivial⟩
theorem tab_Cell : tbl.tab 123 = [.str, .int .i64] := by kernel_rfl
theorem ty_CellS (l : List Cell) : HasTy tbl.tab (.sl 123) (encS l) := by
 show RowsTy _ (tbl.tab _) _
 rw [tab_Cell]; exact rowsTy_map ty_Cell l
structure Core where
 kind : ByteArray
 on : Bool
 broken : Bool
 cells : List Cell
 count : Int
 deriving DecidableEq, Inhabited
instance : Enc Core := { cells := fun v => [.str v.kind, .bool v.on, .bool v.broken, encS v.cells, .int .i64 v.count] }
theorem cells_Core (v : Core) : Enc.cells v = [.str v.kind, .bool v.on, .bool v.broken, encS v.cells, .int .i64 v.count] := rfl
theorem ty_Core (v : Core) : RowTy tbl.tab [.str, .bool, .bool, .sl 123, .int .i64] (Enc.cells v) := ⟨trivial, trivial, trivial, ty_CellS _, rfl, trivial⟩
structure Call where
 method : ByteArray
 key : ByteArray
 val : Int
 text : ByteArray
 deriving DecidableEq, Inhabited
instance : Enc Call := { cells := fun v => [.str v.method, .str v.key, .int .i64 v.val, .str v.text] }
theorem cells_Call (v : Call) : Enc.cells v = [.str v.method, .str v.key, .int .i64 v.val, .str v.text] := rfl
theorem eq_Call (v u : Call) : v = u ↔ v.method = u.method ∧ v.key = u.key ∧ v.val = u.val ∧ v.text = u.text := ⟨fun h => by subst h; simp, fun h => by cases v; cases u; simp_all⟩
theorem eqv_Call (v u : Call) : eqvL (Enc.cells v) (Enc.cells u) = decide (v = u) := by
 rw [Bool.eq_iff_iff]
 simp [cells_Call, eqvL, eqvD, toList_eqB, eq_Call, and_assoc]
theorem ty_Call (v : Call) : RowTy tbl.tab [.str, .str, .int .i64, .str] (Enc.cells v) := ⟨trivial, trivial, rfl, trivial, trivial⟩
structure Reply where
 code : Int
 val : Int
 text : ByteArray
 want : Int
 had : Int
 deriving DecidableEq, Inhabited
instance : Enc Reply := { cells := fun v => [.int .i64 v.code, .int .i64 v.val, .str v.text, .int .i64 v.want, .int .i64 v.had] }
theorem cells_Reply (v : Reply) : Enc.cells v = [.int .i64 v.code, .int .i64 v.val, .str v.text, .int .i64 v.want, .int .i64 v.had] := rfl
theorem ty_Reply (v : Reply) : RowTy tbl.tab [.int .i64, .int .i64, .str, .int .i64, .int .i64] (Enc.cells v) := ⟨rfl, rfl, trivial, rfl, rfl, trivial⟩
structure Part where
 core : Core
 layers : List Layer
 deriving DecidableEq, Inhabited
instance : Enc Part := { cells := fun v => [.str v.core.kind, .bool v.core.on, .bool v.core.broken, encS v.core.cells, .int .i64 v.core.count, encS v.layers] }
theorem cells_Part (v : Part) : Enc.cells v = [.str v.core.kind, .bool v.core.on, .bool v.core.broken, encS v.core.cells, .int .i64 v.core.count, encS v.layers] := rfl
theorem ty_Part (v : Part) : RowTy tbl.tab [.str, .bool, .bool, .sl 123, .int .i64, .sl 160] (Enc.cells v) := ⟨trivial, trivial, trivial, ty_CellS _, rfl, ty_LayerS _, trivial⟩
structure Ver where
 maj : Int
 min : Int
 deriving DecidableEq, Inhabited
instance : Enc Ver := { cells := fun v => [.int .i64 v.maj, .int .i64 v.min] }
theorem cells_Ver (v : Ver) : Enc.cells v = [.int .i64 v.maj, .int .i64 v.min] := rfl
theorem eq_Ver (v u : Ver) : v = u ↔ v.maj = u.maj ∧ v.min = u.min := ⟨fun h => by subst h; simp, fun h => by cases v; cases u; simp_all⟩
theorem ty_Ver (v : Ver) : RowTy tbl.tab [.int .i64, .int .i64] (Enc.cells v) := ⟨rfl, rfl, trivial⟩
structure Need where
 face : Int
 frm : ByteArray
 least : Ver
 deriving DecidableEq, Inhabited
instance : Enc Need := { cells := fun v => [.int .i64 v.face, .str v.frm, .int .i64 v.least.maj, .int .i64 v.least.min] }
theorem cells_Need (v : Need) : Enc.cells v = [.int .i64 v.face, .str v.frm, .int .i64 v.least.maj, .int .i64 v.least.min] := rfl
theorem row_Need (l : List Need) (k : Nat) : D.agg (((l.map Enc.cells)[k]?).getD [zeroD (CT.int .i64), zeroD (CT.str), zeroD (CT.int .i64), zeroD (CT.int .i64)]) = enc (nth l k) := row_enc l k rfl
theorem eq_Need (v u : Need) : v = u ↔ v.face = u.face ∧ v.frm = u.frm ∧ v.least = u.least := ⟨fun h => by subst h; simp, fun h => by cases v; cases u; simp_all⟩
theorem ty_Need (v : Need) : RowTy tbl.tab [.int .i64, .str, .int .i64, .int .i64] (Enc.cells v) := ⟨rfl, trivial, rfl, rfl, trivial⟩
theorem tab_Need : tbl.tab 91 = [.int .i64, .str, .int .i64, .int .i64] := by kernel_rfl
theorem ty_NeedS (l : List Need) : HasTy tbl.tab (.sl 91) (encS l) := by
 show RowsTy _ (tbl.tab _) _
 rw [tab_Need]; exact rowsTy_map ty_Need l
structure Entry where
 name : ByteArray
 recipe : List ByteArray
 ver : Ver
 needs : List Need
 deriving DecidableEq, Inhabited
instance : Enc Entry := { cells := fun v => [.str v.name, encS v.recipe, .int .i64 v.ver.maj, .int .i64 v.ver.min, encS v.needs] }
theorem cells_Entry (v : Entry) : Enc.cells v = [.str v.name, encS v.recipe, .int .i64 v.ver.maj, .int .i64 v.ver.min, encS v.needs] := rfl
theorem eq_Entry (v u : Entry) : v = u ↔ v.name = u.name ∧ v.recipe = u.recipe ∧ v.ver = u.ver ∧ v.needs = u.needs := ⟨fun h => by subst h; simp, fun h => by cases v; cases u; simp_all⟩
theorem ty_Entry (v : Entry) : RowTy tbl.tab [.str, .sl 9, .int .i64, .int .i64, .sl 91] (Enc.cells v) := ⟨trivial, ty_strS _, rfl, rfl, ty_NeedS _, trivial⟩
structure Link where
 frm : ByteArray
 to : ByteArray
 face : Int
 deriving DecidableEq, Inhabited
instance : Enc Link := { cells := fun v => [.str v.frm, .str v.to, .int .i64 v.face] }
structure Event where
 kind : Int
 name : ByteArray
 call : Call
 recipe : List ByteArray
 deriving DecidableEq, Inhabited
instance : Enc Event := { cells := fun v => [.int .i64 v.kind, .str v.name, .str v.call.method, .str v.call.key, .int .i64 v.call.val, .str v.call.text, encS v.recipe] }
theorem cells_Event (v : Event) : Enc.cells v = [.int .i64 v.kind, .str v.name, .str v.call.method, .str v.call.key, .int .i64 v.call.val, .str v.call.text, encS v.recipe] := rfl
theorem eq_Event (v u : Event) : v = u ↔ v.kind = u.kind ∧ v.name = u.name ∧ v.call = u.call ∧ v.recipe = u.recipe := ⟨fun h => by subst h; simp, fun h => by cases v; cases u; simp_all⟩
theorem ty_Event (v : Event) : RowTy tbl.tab [.int .i64, .str, .str, .str, .int .i64, .str, .sl 9] (Enc.cells v) := ⟨rfl, trivial, trivial, trivial, rfl, trivial, ty_strS _, trivial⟩
structure Host where
 entries : List Entry
 parts : List Part
 up : List ByteArray
 shut : List ByteArray
 log : List Event
 deriving DecidableEq, Inhabited
instance : Enc Host := { cells := fun v => [encS v.entries, encS v.parts, encS v.up, encS v.shut, encS v.log] }
theorem nth_mem {α : Type} [Inhabited α] {l : List α} {k : Nat} (h : k < l.length) : nth l k ∈ l := by
 simp [nth, List.getD, List.getElem?_eq_getElem h]
theorem ext_nth {α : Type} [Inhabited α] {l l' : List α} (hl : l.length = l'.length) (h : ∀ i, i < l.length → nth l i = nth l' i) : l = l' := by
 refine List.ext_getElem hl fun i h1 h2 => ?_
 have := h i h1
 simpa [nth, List.getD, List.getElem?_eq_getElem h1, List.getElem?_eq_getElem h2] using this
def allTo (p : Nat → Bool) : Nat → Bool
 | 0 => true
 | n + 1 => allTo p n && p n
theorem allTo_iff {p : Nat → Bool} : ∀ {n : Nat}, allTo p n = true ↔ ∀ i, i < n → p i = true
 | 0 => by simp [allTo]
 | n + 1 => by
  simp only [allTo, Bool.and_eq_true, allTo_iff]
  exact ⟨fun ⟨h1, h2⟩ i hi => by
   by_cases e : i = n
   ·subst e; exact h2
   ·exact h1 i (by omega), fun h => ⟨fun i hi => h i (by omega), h n (by omega)⟩⟩
theorem allTo_bad {p : Nat → Bool} {n k : Nat} (hk : k < n) (h : p k = false) : allTo p n = false := by
 rcases hb : allTo p n with _ | _
 ·rfl
 ·have := allTo_iff.1 hb k hk; rw [h] at this; cases this
end Go.Proofs.YtjmakbnblpjkhaaGreatDoor
/- A row of one's own that is filled place by place ('out := make([]T, n); for i .. { out[i] = .. }'), on abstract data. No program in sight. -/
namespace Go.Proofs.YtjmakbnblpjkhaaGreatDoor
open Go.RowKit
variable [GC]
def own (M : Addr → Prop) (g : Nat) : Addr → Prop := fun p => M p ∨ p.block = g
section
variable {w w1 : World} {M : Addr → Prop} {g : Nat} {T : TypeId} {len n k : Nat} {rows : List (List D)}
end
end Go.Proofs.YtjmakbnblpjkhaaGreatDoor
/- Writing marks into memory of one's own: what stays, what the shape of data is, a row of leaves with one cell written. No program in sight. -/
namespace Go.Proofs.YtjmakbnblpjkhaaGreatDoor
open Go.RowKit Go
variable [GC]
def Same (u u' : Value) : Prop := u' = u ∨ (∃ s s' : ByteArray, u = .string s ∧ u' = .string s' ∧ s'.size ≤ maxLen) ∨ ∃ (k : IntKind) (n n' : Int), u = .int k n ∧ u' = .int k n' ∧ k.min ≤ n' ∧ n' ≤ k.max
theorem Same.trans {a b c : Value} (h : Same a b) (h' : Same b c) : Same a c := by
 rcases h with rfl | ⟨s, s', rfl, rfl, h⟩ | ⟨k, n, n', rfl, rfl, h⟩
 ·exact h'
 ·rcases h' with rfl | ⟨t, t', e, rfl, h'⟩ | ⟨k, n, n', e, _⟩
  ·exact .inr (.inl ⟨s, s', rfl, rfl, h⟩)
  ·exact .inr (.inl ⟨s, t', rfl, rfl, h'⟩)
  ·cases e
 ·rcases h' with rfl | ⟨t, t', e, _⟩ | ⟨k', m, m', e, rfl, h'⟩
  ·exact .inr (.inr ⟨k, n, n', rfl, rfl, h⟩)
  ·cases e
  ·cases e
   exact .inr (.inr ⟨k, n, m', rfl, rfl, h'⟩)
structure Alt (A : Addr → Prop) (w w' : World) : Prop where
 size : w.heap.size ≤ w'.heap.size
 fro : ∀ p : Addr, p.block < w.heap.size → w'.frozen? p = w.frozen? p
 keep : ∀ p v, w.cell? p = some v → ¬ A p → w'.cell? p = some v
 same : ∀ p u, w.cell? p = some u → ∃ u', w'.cell? p = some u' ∧ Same u u'
 env : w'.os = w.os ∧ w'.tape = w.tape ∧ w'.output = w.output
 blk : ∀ k, k < w.heap.size → (∀ p : Addr, p.block = k → ¬ A p) → w'.heap[k]? = w.heap[k]?
theorem Alt.refl (A : Addr → Prop) (w : World) : Alt A w w := ⟨Nat.le_refl _, fun _ _ => rfl, fun _ _ h _ => h, fun _ u h => ⟨u, h, .inl rfl⟩, ⟨rfl, rfl, rfl⟩, fun _ _ _ => rfl⟩
theorem Alt.trans {A : Addr → Prop} {w w' w'' : World} (h : Alt A w w') (h' : Alt A w' w'') : Alt A w w'' where
 size := Nat.le_trans h.size h'.size
 fro := fun p hp => by rw [h'.fro p (Nat.lt_of_lt_of_le hp h.size), h.fro p hp]
 keep := fun p v hp ha => h'.keep p v (h.keep p v hp ha) ha
 same := fun p u hp => by
  obtain ⟨u1, h1, h2⟩ := h.same p u hp
  obtain ⟨u2, h3, h4⟩ := h'.same p u1 h1
  exact ⟨u2, h3, h2.trans h4⟩
 env := ⟨h'.env.1.trans h.env.1, h'.env.2.1.trans h.env.2.1, h'.env.2.2.trans h.env.2.2⟩
 blk := fun k hk ha => (h'.blk k (Nat.lt_of_lt_of_le hk h.size) ha).trans (h.blk k hk ha)
theorem Alt.mono {A A' : Addr → Prop} {w w' : World} (h : Alt A w w') (hA : ∀ p, p.block < w.heap.size → A p → A' p) : Alt A' w w' :=
 ⟨h.size, h.fro, fun p v hp ha => h.keep p v hp fun h => ha (hA p (block_lt_of_cell hp) h), h.same, h.env, fun k hk ha => h.blk k hk fun p hp hq => ha p hp (hA p (by rw [hp]; exact hk) hq)⟩
theorem fro_of_block {w w' : World} {p : Addr} (h : w'.heap[p.block]? = w.heap[p.block]?) : w'.frozen? p = w.frozen? p := by
 unfold World.frozen?; rw [h]
theorem Alt.below {A : Addr → Prop} {w w' : World} (h : Below w.heap.size w w') : Alt A w w' :=
 ⟨h.size, fun p hp => fro_of_block (h.block p.block hp), fun p v hp _ => by rw [h.cell (block_lt_of_cell hp)]; exact hp, fun p u hp => ⟨u, by rw [h.cell (block_lt_of_cell hp)]; exact hp, .inl rfl⟩, ⟨h.os, h.tape, h.output⟩, fun k hk _ => h.block k hk⟩
theorem cell_set_ne {w : World} {a p : Addr} {v : Value} (h : p ≠ a) (hs : a.spot = none) (hp : p.spot = none ∨ True) : (w.setCell a v).cell? p = w.cell? p ∨ (p.block = a.block ∧ p.off = a.off) := by
 by_cases hb : p.block = a.block
 ·by_cases ho : p.off = a.off
  ·exact .inr ⟨hb, ho⟩
  ·left
   unfold World.cell? World.setCell
   rw [hb]
   simp only [Array.getElem?_modify]
   cases hw : w.heap[a.block]? with
   | none => simp
   | some x =>
    cases x with
    | cells c e f =>
     simp only [hs, Option.isSome_none, Option.map_some, if_true]
     split
     ·rfl
     ·simp [Array.getElem?_setIfInBounds, Ne.symm ho]
    | _ => simp
 ·left
  exact World.cell?_of_block (Below.heap_setCell _ _ _ _ hb)
theorem cell_spot {w : World} {p : Addr} {v : Value} (h : w.cell? p = some v) : p.spot = none := by
 unfold World.cell? at h
 split at h
 ·split at h
  ·cases h
  ·rename_i hs; simpa using hs
 ·cases h
theorem cell_at {w : World} {a : Addr} {u v : Value} (h : w.cell? a = some u) : (w.setCell a v).cell? a = some v := by
 have hs := cell_spot h
 unfold World.cell? World.setCell at *
 simp only [Array.getElem?_modify, if_true]
 cases hw : w.heap[a.block]? with
 | none => rw [hw] at h; cases h
 | some x =>
  rw [hw] at h
  cases x with
  | cells c e f =>
   simp only [hs, Option.isSome_none, Bool.false_eq_true, if_false, Option.map_some] at h ⊢
   have := (Array.getElem?_eq_some_iff.1 h).1
   simp [Array.getElem?_setIfInBounds, this]
  | _ => cases h
theorem size_setCell (w : World) (a : Addr) (v : Value) : (w.setCell a v).heap.size = w.heap.size := by unfold World.setCell; simp
theorem fro_setCell (w : World) (a p : Addr) (v : Value) : (w.setCell a v).frozen? p = w.frozen? p := by
 unfold World.frozen? World.setCell
 simp only [Array.getElem?_modify]
 by_cases hb : a.block = p.block
 ·simp only [hb, if_true]
  cases hw : w.heap[p.block]? with
  | none => simp
  | some x => cases x <;> simp
 ·simp [hb]
theorem Alt.set {A : Addr → Prop} {w : World} {a : Addr} {u v : Value} (hA : A a) (h : w.cell? a = some u) (hs : Same u v) : Alt A w (w.setCell a v) := by
 have hsp := cell_spot h
 refine ⟨by rw [size_setCell]; exact Nat.le_refl _, fun p _ => fro_setCell _ _ _ _, fun p x hp ha => ?_, fun p x hp => ?_, ⟨rfl, rfl, rfl⟩, fun k _ ha => Below.heap_setCell _ _ _ _ fun e => ha a e.symm hA⟩
 ·rcases cell_set_ne (w := w) (v := v) (p := p) (a := a) (fun e => ha (by rw [e]; exact hA)) hsp (.inr trivial) with h1 | ⟨h1, h2⟩
  ·rw [h1]; exact hp
  ·have h3 := cell_spot hp
   have : p = a := by cases p; cases a; simp_all
   exact absurd (this.symm ▸ hA) ha
 ·by_cases e : p = a
  ·subst e
   rw [h] at hp; cases hp
   exact ⟨v, cell_at h, hs⟩
  ·rcases cell_set_ne (w := w) (v := v) (p := p) (a := a) e hsp (.inr trivial) with h1 | ⟨h1, h2⟩
   ·exact ⟨x, by rw [h1]; exact hp, .inl rfl⟩
   ·have h3 := cell_spot hp
    exact absurd (by cases p; cases a; simp_all) e
theorem Alt.keeps {A M M' : Addr → Prop} {w w' : World} (h : Alt A w w') (hA : ∀ p, A p → M p) (hM : ∀ p, p.block < w.heap.size → M' p → M p) : Keeps w M w' M' :=
 fun p v hp hn => ⟨h.keep p v hp fun ha => hn (hA p ha), fun hm => hn (hM p (block_lt_of_cell hp) hm)⟩
theorem R.up {w : World} {M : Addr → Prop} {d : D} {v : Value} (h : R w M d v) : R w (fun p => M p ∨ w.heap.size ≤ p.block) d v :=
 R.keep (fun p v hp hn => ⟨hp, fun hm => hm.elim hn fun h => by have := block_lt_of_cell hp; omega⟩) d v h
theorem R.less {w : World} {M M' : Addr → Prop} {d : D} {v : Value} (h : R w M d v) (hM : ∀ p, M' p → M p) : R w M' d v :=
 R.keep (fun p v hp hn => ⟨hp, fun hm => hn (hM p hm)⟩) d v h
section
variable {w w' : World} {A M M' : Addr → Prop}
end
/-! Rows of leaves -/
def leafD : D → Bool
 | .bool _ | .int _ _ | .str _ => true
 | _ => false
theorem leaf_move {w w' : World} {M M' : Addr → Prop} {d : D} {v : Value} (hl : leafD d = true) (h : R w M d v) : R w' M' d v := by
 cases d <;> simp [leafD] at hl <;> exact h
theorem flat_cells {w : World} {M : Addr → Prop} {rows : List (List D)} {n b o len cap : Nat} {s : Option Nat} (hn : ∀ r ∈ rows, r.length = n) (h : R w M (.sl rows) (.slice (some ⟨b, o, s⟩) len cap)) {i j : Nat} {r : List D} {d : D} (hi : rows[i]? = some r) (hj : r[j]? = some d) :
  ∃ u, w.cell? ⟨b, o + i * n + j, none⟩ = some u ∧ ¬ M ⟨b, o + i * n + j, none⟩ ∧ R w M d u := by
 obtain ⟨a, len', cap', e, h1, h2, h3, h4, h5⟩ := h
 cases e
 exact ((h5 b o s rfl).2.get hn hi).get hj
theorem flat_of {w : World} {M : Addr → Prop} {rows : List (List D)} {n b o len cap : Nat} {s : Option Nat} (hn : ∀ r ∈ rows, r.length = n) (h1 : len = rows.length) (h2 : len ≤ cap) (h3 : cap ≤ maxLen) (h4 : 0 < len → s = none)
  (hc : ∀ (i j : Nat) (r : List D) (d : D), rows[i]? = some r → r[j]? = some d → ∃ u, w.cell? ⟨b, o + i * n + j, none⟩ = some u ∧ ¬ M ⟨b, o + i * n + j, none⟩ ∧ R w M d u) : R w M (.sl rows) (.slice (some ⟨b, o, s⟩) len cap) := by
 refine ⟨_, _, _, rfl, h1, h2, h3, (fun e => by cases e), fun b' o' s' e => ?_⟩
 cases e
 exact ⟨h4, Rws.of hn fun i r hr => Rw.of fun j d hd => hc i j r d hr hd⟩
theorem flat_set {w : World} {M : Addr → Prop} {rows : List (List D)} {n b o len cap i j : Nat} {s : Option Nat} {r : List D} {x : D} {u : Value} (hn : ∀ r ∈ rows, r.length = n) (hlf : ∀ r ∈ rows, ∀ d ∈ r, leafD d = true)
  (h : R w M (.sl rows) (.slice (some ⟨b, o, s⟩) len cap)) (hi : rows[i]? = some r) (hj : j < n) (hx : ∀ (w : World) (M : Addr → Prop), R w M x u) :
  R (w.setCell ⟨b, o + i * n + j, none⟩ u) M (.sl (rows.set i (r.set j x))) (.slice (some ⟨b, o, s⟩) len cap) := by
 have hr := hn r (List.mem_of_getElem? hi)
 have hlt := (List.getElem?_eq_some_iff.1 hi).1
 have h0 := h
 obtain ⟨a, len', cap', e, h1, h2, h3, h4, h5⟩ := h
 cases e
 refine flat_of (n := n) (fun r' hr' => ?_) (by simpa using h1) h2 h3 (h5 b o s rfl).1 fun i' j' r' d hi' hj' => ?_
 ·rcases List.mem_or_eq_of_mem_set hr' with h | rfl
  ·exact hn r' h
  ·simpa using hr
 ·have hr'l : r'.length = n := by
   have := List.mem_of_getElem? hi'
   rcases List.mem_or_eq_of_mem_set this with h | rfl
   ·exact hn r' h
   ·simpa using hr
  have hj'n : j' < n := by rw [← hr'l]; exact (List.getElem?_eq_some_iff.1 hj').1
  by_cases hij : i' = i ∧ j' = j
  ·obtain ⟨rfl, rfl⟩ := hij
   obtain ⟨d0, hd0⟩ : ∃ d0, r[j']? = some d0 := ⟨_, List.getElem?_eq_getElem (by omega)⟩
   obtain ⟨u0, c1, c2, c3⟩ := flat_cells hn h0 hi hd0
   rw [List.getElem?_set_self hlt] at hi'
   cases hi'
   rw [List.getElem?_set_self (by omega)] at hj'
   cases hj'
   exact ⟨u, cell_at c1, c2, hx _ _⟩
  ·have hold : ∃ r0, rows[i']? = some r0 ∧ r0[j']? = some d := by
    by_cases e : i' = i
    ·subst e
     rw [List.getElem?_set_self hlt] at hi'
     cases hi'
     refine ⟨r, hi, ?_⟩
     rwa [List.getElem?_set_ne (fun e => hij ⟨rfl, e.symm⟩)] at hj'
    ·rw [List.getElem?_set_ne (fun e' => e e'.symm)] at hi'
     exact ⟨r', hi', hj'⟩
   obtain ⟨r0, q1, q2⟩ := hold
   obtain ⟨u0, c1, c2, c3⟩ := flat_cells hn h0 q1 q2
   refine ⟨u0, ?_, c2, leaf_move (hlf r0 (List.mem_of_getElem? q1) d (List.mem_of_getElem? q2)) c3⟩
   have hne : o + i' * n + j' ≠ o + i * n + j := by
    intro e
    have e2 : i' * n + j' = i * n + j := by omega
    have h6 : i' = i := by
     have h7 : (i' * n + j') / n = (i * n + j) / n := by rw [e2]
     rwa [Nat.mul_comm i', Nat.mul_comm i, Nat.mul_add_div (by omega), Nat.mul_add_div (by omega), Nat.div_eq_of_lt hj'n, Nat.div_eq_of_lt hj, Nat.add_zero, Nat.add_zero] at h7
    subst h6
    exact hij ⟨rfl, by omega⟩
   rcases cell_set_ne (w := w) (v := u) (p := ⟨b, o + i' * n + j', none⟩) (a := ⟨b, o + i * n + j, none⟩) (fun e => hne (congrArg Addr.off e)) rfl (.inr trivial) with h7 | ⟨_, h7⟩
   ·rw [h7]; exact c1
   ·exact absurd h7 hne
theorem Fun.calls {P : Program} {f : FuncId} {ds : List D} {r : D} (h : Fun P f none ds r []) {w : World} {M : Addr → Prop} {vs : List Value} (hG : Rdy w M) (hr : Rs w M ds vs) :
  Calls P f vs.toArray w fun e w' => ∃ v, e = .returned v ∧ R w' M r v ∧ Below w.heap.size w w' :=
 (h.2 w M 0 vs hG hr (fun cs h => by cases h)).mono fun e w' ⟨v, h1, h2, h3, _⟩ => ⟨v, h1, h2, h3.to_below⟩
theorem Alt.to_below {A : Addr → Prop} {w w' : World} {B : Nat} (h : Alt A w w') (hB : B ≤ w.heap.size) (hA : ∀ p, A p → B ≤ p.block) : Below B w w' :=
 ⟨h.env.1, h.env.2.1, h.env.2.2, h.size, fun k hk => h.blk k (Nat.lt_of_lt_of_le hk hB) fun p hp ha => by have := hA p ha; omega⟩
theorem up_alt {A : Addr → Prop} {w w' : World} {h : Nat} {d : D} {v : Value} (hr : R w (fun p => h ≤ p.block) d v) (ha : Alt A w w') (hA : ∀ p, A p → h ≤ p.block) : R w' (fun p => h ≤ p.block) d v :=
 R.keep (ha.keeps hA fun _ _ hm => hm) _ _ hr
theorem up_keep {w w' : World} {h : Nat} {d : D} {v : Value} (hr : R w (fun p => h ≤ p.block) d v) (hb : Below w.heap.size w w') : R w' (fun p => h ≤ p.block) d v :=
 R.keep (Keeps.below hb fun _ _ hm => hm) _ _ hr
theorem R.zero {w : World} {M : Addr → Prop} {d : D} {v : Value} (hr : R w M d v) : R w (fun _ => False) d v := R.less hr fun _ h => h.elim
theorem R.over {w : World} {d : D} {v : Value} (hr : R w (fun _ => False) d v) : R w (fun p => w.heap.size ≤ p.block) d v := R.less (R.up hr) fun _ h => .inr h
/-! Rows by a function -/
def rowsM (n : Nat) (f : Nat → List D) : List (List D) := (List.range n).map f
theorem rowsM_len (n : Nat) (f : Nat → List D) : (rowsM n f).length = n := by simp [rowsM]
theorem rowsM_get {n : Nat} {f : Nat → List D} {i : Nat} (h : i < n) : (rowsM n f)[i]? = some (f i) := by simp [rowsM, h]
theorem rowsM_set {n : Nat} {f : Nat → List D} {i : Nat} {x : List D} : (rowsM n f).set i x = rowsM n (fun a => if a = i then x else f a) := by
 apply List.ext_getElem?
 intro j
 rw [List.getElem?_set]
 by_cases hj : j < n
 ·by_cases e : i = j
  ·subst e; simp [rowsM, hj]
  ·rw [if_neg e]
   simp [rowsM, hj]
   intro h; exact absurd h.symm e
 ·by_cases e : i = j
  ·subst e
   rw [if_pos rfl, if_neg (by simp [rowsM]; omega), List.getElem?_eq_none (by simp [rowsM]; omega)]
  ·rw [if_neg e, List.getElem?_eq_none (by simp [rowsM]; omega), List.getElem?_eq_none (by simp [rowsM]; omega)]
theorem rowsM_congr {n : Nat} {f g : Nat → List D} (h : ∀ a, a < n → f a = g a) : rowsM n f = rowsM n g := by
 unfold rowsM
 exact List.map_congr_left fun a ha => h a (by simpa using ha)
theorem rowsM_map {α : Type} [Enc α] (l : List α) : l.map Enc.cells = rowsM l.length fun a => Enc.cells (nth l a) := by
 apply List.ext_getElem
 ·simp [rowsM]
 ·intro i h1 h2
  have hi : i < l.length := by simpa using h1
  simp [rowsM, nth, List.getD_eq_getElem?_getD, hi]
theorem rowsM_mem {n : Nat} {f : Nat → List D} {r : List D} (h : r ∈ rowsM n f) : ∃ a, a < n ∧ r = f a := by
 unfold rowsM at h
 obtain ⟨a, ha, rfl⟩ := List.mem_map.1 h
 exact ⟨a, by simpa using ha, rfl⟩
/-! The shape of entries -/
end Go.Proofs.YtjmakbnblpjkhaaGreatDoor
/- The laws' helpers: sizes, copies, equality. Written by gen3.py. -/
namespace Go.Proofs.YtjmakbnblpjkhaaGreatDoor
open Go.RowKit Go
variable [GC]
class Sm (α : Type) where
 sm : α → Prop
instance : Sm ByteArray := ⟨fun s => s.size ≤ 1048576⟩
instance {α : Type} [Inhabited α] [Sm α] : Sm (List α) := ⟨fun l => l.length ≤ 1048576 ∧ ∀ k, k < l.length → Sm.sm (nth l k)⟩
theorem c_laws_eqStringS (l l' : List ByteArray) : Fun Tryz.prog 40 none [encS l, encS l'] (.bool (decide (l = l'))) [] := by
 refine Fun.ofV vc_laws_eqStringS_ok ty_laws_eqStringS_ok rfl ?_ (fun hfit => ?_)
 ·exact ⟨ty_strS l, ty_strS l', trivial⟩
 have hl : l.length ≤ 9223372036854775807 := fits_encS hfit.1
 unfold vc_laws_eqStringS
 refine den_ite (fun h => ?_) (fun h => ?_)
 ·simp [E.den, cmpI] at h
  refine den_ret ?_
  have : l ≠ l' := fun e => h (by rw [e])
  simp [E.den, this]
 simp [E.den, cmpI] at h
 have h : l.length = l'.length := by omega
 refine den_for l.length (fun k => [.int .i64 k]) (fun k => ∀ i, i < k → nth l i = nth l' i) rfl (by omega) ?_
 intro k hk hI _
 simp only [cA]
 refine den_ite (fun h2 => ?_) (fun h2 => ?_)
 ·simp [E.den, cmpI] at h2
  refine den_cond (fun hg => ?_) (den_cond (fun hg => ?_) ?_)
  ·simp [E.den]; omega
  ·simp [E.den]; omega
  refine den_ite (fun h3 => ?_) (fun h3 => ?_)
  ·simp only [E.den, List.map_cons, List.map_nil, List.getD_cons_zero, List.getD_cons_succ, D.toI_int, D.toB_bool, D.toS_str, enc_toA, encS_toR, encS_len, len_str, cmpI_lss, row_str, cells_str, Int.toNat_natCast, cmpS_neq] at h3
   simp at h3
   exact den_ret (by have : l ≠ l' := fun e => h3 (by rw [e])
                     simp [E.den, this])
  simp only [E.den, List.map_cons, List.map_nil, List.getD_cons_zero, List.getD_cons_succ, D.toI_int, D.toB_bool, D.toS_str, enc_toA, encS_toR, encS_len, len_str, cmpI_lss, row_str, cells_str, Int.toNat_natCast, cmpS_neq] at h3
  simp at h3
  refine den_next h2 ?_ fun i hi => ?_
  ·simp [E.den]; rw [ar_add (by omega) (by omega)]
  rcases Nat.lt_or_ge i k with h' | h'
  ·exact hI i h'
  ·obtain rfl : i = k := by omega
   exact h3
 ·simp [E.den, cmpI] at h2
  obtain rfl : k = l.length := by omega
  exact den_ret (by simp [E.den, ext_nth h hI])
instance : Sm Layer := ⟨fun x => Sm.sm x.name⟩
instance : Sm Cell := ⟨fun x => Sm.sm x.key⟩
instance : Sm Core := ⟨fun x => Sm.sm x.kind ∧ Sm.sm x.cells⟩
instance : Sm Call := ⟨fun x => Sm.sm x.method ∧ Sm.sm x.key ∧ Sm.sm x.text⟩
theorem c_laws_eqCall (x y : Call) : Fun Tryz.prog 52 none [enc x, enc y] (.bool (decide (x = y))) [] := by
 refine Fun.ofV vc_laws_eqCall_ok ty_laws_eqCall_ok rfl ?_ (fun hfit => ?_)
 ·exact ⟨ty_Call x, ty_Call y, trivial⟩
 have e := eq_Call x y
 unfold vc_laws_eqCall
 refine den_ite (fun h => ?_) (fun h0 => ?_)
 ·simp [E.den, cmpI, cmpS_neq, cells_Call] at h
  exact den_ret (by simp [E.den, e, h])
 simp [E.den, cmpI, cmpS_neq, cells_Call] at h0
 refine den_ite (fun h => ?_) (fun h1 => ?_)
 ·simp [E.den, cmpI, cmpS_neq, cells_Call] at h
  exact den_ret (by simp [E.den, e, h])
 simp [E.den, cmpI, cmpS_neq, cells_Call] at h1
 refine den_ite (fun h => ?_) (fun h2 => ?_)
 ·simp [E.den, cmpI, cmpS_neq, cells_Call] at h
  exact den_ret (by simp [E.den, e, h])
 simp [E.den, cmpI, cmpS_neq, cells_Call] at h2
 refine den_ite (fun h => ?_) (fun h3 => ?_)
 ·simp [E.den, cmpI, cmpS_neq, cells_Call] at h
  exact den_ret (by simp [E.den, e, h])
 simp [E.den, cmpI, cmpS_neq, cells_Call] at h3
 exact den_ret (by simp [E.den, e, h0, h1, h2, h3])
instance : Sm Reply := ⟨fun x => Sm.sm x.text⟩
instance : Sm Part := ⟨fun x => Sm.sm x.core ∧ Sm.sm x.layers⟩
instance : Sm Ver := ⟨fun x => True⟩
theorem c_laws_eqVersion (x y : Ver) : Fun Tryz.prog 62 none [enc x, enc y] (.bool (decide (x = y))) [] := by
 refine Fun.ofV vc_laws_eqVersion_ok ty_laws_eqVersion_ok rfl ?_ (fun hfit => ?_)
 ·exact ⟨ty_Ver x, ty_Ver y, trivial⟩
 have e := eq_Ver x y
 unfold vc_laws_eqVersion
 refine den_ite (fun h => ?_) (fun h0 => ?_)
 ·simp [E.den, cmpI, cmpS_neq, cells_Ver] at h
  exact den_ret (by simp [E.den, e, h])
 simp [E.den, cmpI, cmpS_neq, cells_Ver] at h0
 refine den_ite (fun h => ?_) (fun h1 => ?_)
 ·simp [E.den, cmpI, cmpS_neq, cells_Ver] at h
  exact den_ret (by simp [E.den, e, h])
 simp [E.den, cmpI, cmpS_neq, cells_Ver] at h1
 exact den_ret (by simp [E.den, e, h0, h1])
instance : Sm Need := ⟨fun x => Sm.sm x.frm⟩
theorem c_laws_eqNeed (x y : Need) : Fun Tryz.prog 114 none [enc x, enc y] (.bool (decide (x = y))) [] := by
 refine Fun.ofV vc_laws_eqNeed_ok ty_laws_eqNeed_ok rfl ?_ (fun hfit => ?_)
 ·exact ⟨ty_Need x, ty_Need y, trivial⟩
 have e := eq_Need x y
 unfold vc_laws_eqNeed
 refine den_ite (fun h => ?_) (fun h0 => ?_)
 ·simp [E.den, cmpI, cmpS_neq, cells_Need] at h
  exact den_ret (by simp [E.den, e, h])
 simp [E.den, cmpI, cmpS_neq, cells_Need] at h0
 refine den_ite (fun h => ?_) (fun h1 => ?_)
 ·simp [E.den, cmpI, cmpS_neq, cells_Need] at h
  exact den_ret (by simp [E.den, e, h])
 simp [E.den, cmpI, cmpS_neq, cells_Need] at h1
 ((first | refine den_call ?_ (c_laws_eqVersion x.least y.least) (trivial) ?_ | refine den_callR ?_ (c_laws_eqVersion x.least y.least) (trivial) ?_ | refine den_call ?_ (.ofR (c_laws_eqVersion x.least y.least)) (trivial) ?_); (focus (simp only [VC.den, E.den, dEq, gsH_nil, and_true, cells_Need]; try exact rfl)); (simp only [cA]))
 refine den_ite (fun h => ?_) (fun h2 => ?_)
 ·simp [E.den] at h
  exact den_ret (by simp [E.den, e, h])
 simp [E.den] at h2
 exact den_ret (by simp [E.den, e, h0, h1, h2])
theorem c_laws_eqNeedS (l l' : List Need) : Fun Tryz.prog 63 none [encS l, encS l'] (.bool (decide (l = l'))) [] := by
 refine Fun.ofV vc_laws_eqNeedS_ok ty_laws_eqNeedS_ok rfl ?_ (fun hfit => ?_)
 ·exact ⟨ty_NeedS l, ty_NeedS l', trivial⟩
 have hl : l.length ≤ 9223372036854775807 := fits_encS hfit.1
 unfold vc_laws_eqNeedS
 refine den_ite (fun h => ?_) (fun h => ?_)
 ·simp [E.den, cmpI] at h
  refine den_ret ?_
  have : l ≠ l' := fun e => h (by rw [e])
  simp [E.den, this]
 simp [E.den, cmpI] at h
 have h : l.length = l'.length := by omega
 refine den_for l.length (fun k => [.int .i64 k]) (fun k => ∀ i, i < k → nth l i = nth l' i) rfl (by omega) ?_
 intro k hk hI _
 simp only [cA]
 refine den_ite (fun h2 => ?_) (fun h2 => ?_)
 ·simp [E.den, cmpI] at h2
  refine den_cond (fun hg => ?_) (den_cond (fun hg => ?_) ?_)
  ·simp [E.den]; omega
  ·simp [E.den]; omega
  ((first | refine den_call ?_ (c_laws_eqNeed (nth l k) (nth l' k)) (trivial) ?_ | refine den_callR ?_ (c_laws_eqNeed (nth l k) (nth l' k)) (trivial) ?_ | refine den_call ?_ (.ofR (c_laws_eqNeed (nth l k) (nth l' k))) (trivial) ?_); (focus (simp only [VC.den, E.den, dEq, gsH_nil, and_true, row_Need, Int.toNat_natCast]; try exact rfl)); (simp only [cA]))
  refine den_ite (fun h3 => ?_) (fun h3 => ?_)
  ·simp [E.den] at h3
   exact den_ret (by have : l ≠ l' := fun e => h3 (by rw [e])
                     simp [E.den, this])
  simp [E.den] at h3
  refine den_next h2 ?_ fun i hi => ?_
  ·simp [E.den]; rw [ar_add (by omega) (by omega)]
  rcases Nat.lt_or_ge i k with h' | h'
  ·exact hI i h'
  ·obtain rfl : i = k := by omega
   exact h3
 ·simp [E.den, cmpI] at h2
  obtain rfl : k = l.length := by omega
  exact den_ret (by simp [E.den, ext_nth h hI])
instance : Sm Entry := ⟨fun x => Sm.sm x.name ∧ Sm.sm x.recipe ∧ Sm.sm x.needs⟩
theorem c_laws_eqEntry (x y : Entry) : Fun Tryz.prog 18 none [enc x, enc y] (.bool (decide (x = y))) [] := by
 refine Fun.ofV vc_laws_eqEntry_ok ty_laws_eqEntry_ok rfl ?_ (fun hfit => ?_)
 ·exact ⟨ty_Entry x, ty_Entry y, trivial⟩
 have e := eq_Entry x y
 unfold vc_laws_eqEntry
 refine den_ite (fun h => ?_) (fun h0 => ?_)
 ·simp [E.den, cmpI, cmpS_neq, cells_Entry] at h
  exact den_ret (by simp [E.den, e, h])
 simp [E.den, cmpI, cmpS_neq, cells_Entry] at h0
 ((first | refine den_call ?_ (c_laws_eqStringS x.recipe y.recipe) (trivial) ?_ | refine den_callR ?_ (c_laws_eqStringS x.recipe y.recipe) (trivial) ?_ | refine den_call ?_ (.ofR (c_laws_eqStringS x.recipe y.recipe)) (trivial) ?_); (focus (simp only [VC.den, E.den, dEq, gsH_nil, and_true, cells_Entry]; try exact rfl)); (simp only [cA]))
 refine den_ite (fun h => ?_) (fun h1 => ?_)
 ·simp [E.den] at h
  exact den_ret (by simp [E.den, e, h])
 simp [E.den] at h1
 ((first | refine den_call ?_ (c_laws_eqVersion x.ver y.ver) (trivial) ?_ | refine den_callR ?_ (c_laws_eqVersion x.ver y.ver) (trivial) ?_ | refine den_call ?_ (.ofR (c_laws_eqVersion x.ver y.ver)) (trivial) ?_); (focus (simp only [VC.den, E.den, dEq, gsH_nil, and_true, cells_Entry]; try exact rfl)); (simp only [cA]))
 refine den_ite (fun h => ?_) (fun h2 => ?_)
 ·simp [E.den] at h
  exact den_ret (by simp [E.den, e, h])
 simp [E.den] at h2
 ((first | refine den_call ?_ (c_laws_eqNeedS x.needs y.needs) (trivial) ?_ | refine den_callR ?_ (c_laws_eqNeedS x.needs y.needs) (trivial) ?_ | refine den_call ?_ (.ofR (c_laws_eqNeedS x.needs y.needs)) (trivial) ?_); (focus (simp only [VC.den, E.den, dEq, gsH_nil, and_true, cells_Entry]; try exact rfl)); (simp only [cA]))
 refine den_ite (fun h => ?_) (fun h3 => ?_)
 ·simp [E.den] at h
  exact den_ret (by simp [E.den, e, h])
 simp [E.den] at h3
 exact den_ret (by simp [E.den, e, h0, h1, h2, h3])
instance : Sm Link := ⟨fun x => Sm.sm x.frm ∧ Sm.sm x.to⟩
instance : Sm Event := ⟨fun x => Sm.sm x.name ∧ Sm.sm x.call ∧ Sm.sm x.recipe⟩
theorem c_laws_eqEvent (x y : Event) : Fun Tryz.prog 13 none [enc x, enc y] (.bool (decide (x = y))) [] := by
 refine Fun.ofV vc_laws_eqEvent_ok ty_laws_eqEvent_ok rfl ?_ (fun hfit => ?_)
 ·exact ⟨ty_Event x, ty_Event y, trivial⟩
 have e := eq_Event x y
 unfold vc_laws_eqEvent
 refine den_ite (fun h => ?_) (fun h0 => ?_)
 ·simp [E.den, cmpI, cmpS_neq, cells_Event] at h
  exact den_ret (by simp [E.den, e, h])
 simp [E.den, cmpI, cmpS_neq, cells_Event] at h0
 refine den_ite (fun h => ?_) (fun h1 => ?_)
 ·simp [E.den, cmpI, cmpS_neq, cells_Event] at h
  exact den_ret (by simp [E.den, e, h])
 simp [E.den, cmpI, cmpS_neq, cells_Event] at h1
 ((first | refine den_call ?_ (c_laws_eqCall x.call y.call) (trivial) ?_ | refine den_callR ?_ (c_laws_eqCall x.call y.call) (trivial) ?_ | refine den_call ?_ (.ofR (c_laws_eqCall x.call y.call)) (trivial) ?_); (focus (simp only [VC.den, E.den, dEq, gsH_nil, and_true, cells_Event]; try exact rfl)); (simp only [cA]))
 refine den_ite (fun h => ?_) (fun h2 => ?_)
 ·simp [E.den] at h
  exact den_ret (by simp [E.den, e, h])
 simp [E.den] at h2
 ((first | refine den_call ?_ (c_laws_eqStringS x.recipe y.recipe) (trivial) ?_ | refine den_callR ?_ (c_laws_eqStringS x.recipe y.recipe) (trivial) ?_ | refine den_call ?_ (.ofR (c_laws_eqStringS x.recipe y.recipe)) (trivial) ?_); (focus (simp only [VC.den, E.den, dEq, gsH_nil, and_true, cells_Event]; try exact rfl)); (simp only [cA]))
 refine den_ite (fun h => ?_) (fun h3 => ?_)
 ·simp [E.den] at h
  exact den_ret (by simp [E.den, e, h])
 simp [E.den] at h3
 exact den_ret (by simp [E.den, e, h0, h1, h2, h3])
instance : Sm Host := ⟨fun x => Sm.sm x.entries ∧ Sm.sm x.parts ∧ Sm.sm x.up ∧ Sm.sm x.shut ∧ Sm.sm x.log⟩
end Go.Proofs.YtjmakbnblpjkhaaGreatDoor
/- Contracts of the laws' helpers that write marks into memory of one's own, walked by hand, whatever the package's variables hold; and of those that look for them. -/
namespace Go.Proofs.YtjmakbnblpjkhaaGreatDoor
open Go.RowKit Go
variable [GC]
def isMk (r : D) : Prop := ∃ s : ByteArray, r = .str s
structure MkSt where
 s : ByteArray
 n : Int
theorem d_markText (k : Int) (hk : k ≤ 1152921504606846976) : ∃ r, isMk r ∧ Fun Tryz.prog 104 none [.int .i64 k] r [] := by
 refine Fun.exV vc_laws_markText_ok rfl ty_laws_markText_ok ⟨rfl, trivial⟩ (.str ⟨#[]⟩) ⟨_, rfl⟩ fun hfit => ?_; unfold vc_laws_markText
 refine den_ite (fun _ => ⟨⟨_, rfl⟩, rfl⟩) (fun h => ?_)
 simp only [E.den, dEq, iEq, sEq] at h
 have h : 0 < k := by simpa using h
 refine den_loop MkSt (fun s => [.str s.s, .int .i64 s.n]) (fun s => 0 ≤ s.n ∧ (s.s.size : Int) + s.n ≤ k) (fun s => s.n.toNat) ⟨⟨#[]⟩, k⟩ (fun s s' h => by simp at h; rw [h.2]) rfl ⟨by simp only; omega, by simp [ByteArray.size]⟩ ?_
 rintro ⟨s, n⟩ ⟨hn, hs⟩ _
 simp only at hn hs
 simp only [cA]
 refine den_ite (fun h2 => ?_) (fun h2 => ?_)
 ·simp only [E.den, dEq, iEq, sEq] at h2
  have h2 : 0 < n := by simpa using h2
  refine den_cond (fun _ => ?_) (den_cond (fun _ => ?_) (den_cond (fun _ => ?_) ?_))
  ·simp [E.den, cmpI]
  ·simp only [E.den, dEq, iEq, sEq]
   simp only [bytesD, strOfNums_size, List.length_map, D.toR_sl, List.length_cons, List.length_nil, List.append_nil, List.nil_append]
   simp only [D.bool.injEq, decide_eq_true_eq]
   unfold maxLen; omega
  ·simp [E.den, cmpI]
  have hq : arI .quo .i64 n 10 = n / 10 := by
   show IntKind.i64.wrap (n.tdiv 10) = _
   rw [Int.tdiv_eq_ediv_of_nonneg (by omega), wrap_i64 (by omega) (by omega)]
  refine den_again (s' := (⟨bytesD (.sl [[.int .u8 (IntKind.u8.wrap (arI .add .i64 48 (arI .rem .i64 n 10)))]]) ++ s, n / 10⟩ : MkSt)) ?_ ⟨?_, ?_⟩ ?_
  ·simp only [E.den, dEq, iEq, sEq]
   rw [hq]
  ·simp only; omega
  ·simp only [ByteArray.size_append, bytesD, strOfNums_size, List.length_map, D.toR_sl, List.length_cons, List.length_nil, List.append_nil, List.nil_append]
   omega
  ·simp only; omega
 ·refine den_cond (fun _ => ?_) ⟨⟨_, rfl⟩, rfl⟩
  simp only [E.den, dEq, iEq, sEq]
  simp only [D.bool.injEq, decide_eq_true_eq]
  have : (⟨#[109]⟩ : ByteArray).size = 1 := rfl
  unfold maxLen; omega
open Classical in
noncomputable def mkT (k : Nat) : ByteArray := if h : ∃ s : ByteArray, Fun Tryz.prog 104 none [.int .i64 k] (.str s) [] then h.choose else ⟨#[]⟩
theorem c_markText (k : Nat) (hk : k ≤ 1152921504606846976) : Fun Tryz.prog 104 none [.int .i64 k] (.str (mkT k)) [] := by
 have h : ∃ s : ByteArray, Fun Tryz.prog 104 none [.int .i64 k] (.str s) [] := by
  obtain ⟨r, ⟨s, rfl⟩, h⟩ := d_markText k (by omega)
  exact ⟨s, h⟩
 unfold mkT
 rw [dif_pos h]
 exact h.choose_spec
theorem i64min : IntKind.i64.min = -9223372036854775808 := rfl
theorem i64max : IntKind.i64.max = 9223372036854775807 := rfl
theorem int_ok {w : World} {M : Addr → Prop} {n : Int} (h1 : -9223372036854775808 ≤ n) (h2 : n ≤ 9223372036854775807) : R w M (.int .i64 n) (.int .i64 n) :=
 ⟨rfl, by rw [i64min]; exact h1, by rw [i64max]; exact h2⟩
def Rd (w : World) : Prop := Rdy w (fun _ => False)
theorem Rd.alt {A : Addr → Prop} {w w' : World} (h : Rd w) (ha : Alt A w w') (hA : ∀ p, A p → NG ≤ p.block) : Rd w' :=
 ⟨fun _ h => h.elim, h.2.1.keep fun k hk => ha.blk k (Nat.lt_of_lt_of_le hk h.2.2) fun p hp hq => by have := hA p hq; omega, Nat.le_trans h.2.2 ha.size⟩
theorem Rd.below {w w' : World} (h : Rd w) (hb : Below w.heap.size w w') : Rd w' := Rdy.below h hb fun _ h => h.elim
theorem w_markText (k : Nat) (hk : k ≤ 1152921504606846976) (w : World) (hG : Rd w) : Calls Tryz.prog 104 #[.int .i64 k] w fun e w' => e = .returned (.string (mkT k)) ∧ (mkT k).size ≤ maxLen ∧ Below w.heap.size w w' := by
 have h := Fun.calls (c_markText k hk) hG (vs := [.int .i64 k]) ⟨_, [], rfl, int_ok (by omega) (by omega), rfl⟩
 refine h.mono ?_
 rintro e w' ⟨v, rfl, ⟨rfl, hs⟩, hb⟩
 exact ⟨rfl, hs, hb⟩
/-! Marks of texts -/
noncomputable def mS (k : Nat) (l : List ByteArray) (i : Nat) : List (List D) := rowsM l.length fun a => if a < i then [.str (mkT (k + a))] else Enc.cells (nth l a)
theorem mS_len (k : Nat) (l : List ByteArray) (i : Nat) : ∀ r ∈ mS k l i, r.length = 1 := fun r hr => by
 obtain ⟨a, _, rfl⟩ := rowsM_mem hr
 split <;> rfl
theorem mS_leaf (k : Nat) (l : List ByteArray) (i : Nat) : ∀ r ∈ mS k l i, ∀ d ∈ r, leafD d = true := fun r hr d hd => by
 obtain ⟨a, _, rfl⟩ := rowsM_mem hr
 split at hd <;> (simp [cells_str] at hd; subst hd; rfl)
theorem mS_zero (k : Nat) (l : List ByteArray) : mS k l 0 = l.map Enc.cells := by
 rw [rowsM_map]; exact rowsM_congr fun a _ => by simp
theorem m_StringS (l : List ByteArray) (k : Nat) (w : World) (M : Addr → Prop) (v : Value) (hr : R w M (encS l) v) (hfr : ∀ p, w.frozen? p = true → M p) (hG : Rd w) (hM : ∀ p, ¬ M p → NG ≤ p.block) (hk : k + l.length ≤ 1152921504606846976) :
  Calls Tryz.prog 53 #[v, .int .i64 k] w fun e w' => e = .returned (.int .i64 ((k + l.length : Nat) : Int)) ∧ Alt (fun p => ¬ M p) w w' ∧ R w' M (.sl (mS k l l.length)) v := by
 obtain ⟨a, len, cap, hv, hlen, hlc, hcm, hno, -⟩ := (show R w M (.sl (l.map Enc.cells)) v from hr)
 subst hv
 rw [List.length_map] at hlen
 subst hlen
 have hmx : (l.length : Int) ≤ 1152921504606846976 := by omega
 have HR := Lib.hid (show R w M (.sl (mS k l 0)) (.slice a l.length cap) by rw [mS_zero]; exact hr)
 have HF := Lib.hid hfr
 have HG := Lib.hid hG
 have HM := Lib.hid hM
 clear hr hfr hG hM
 go_enter Tryz.func53, Tryz.ntmps53
 go_wp2
 go_loopw [1, 5] (fun kk ii wr => Alt (fun p => ¬ M p) w wr ∧ ∃ i : Nat, i ≤ l.length ∧ kk = .int .i64 ((k + i : Nat) : Int) ∧ ii = .int .i64 (i : Int) ∧ R wr M (.sl (mS k l i)) (.slice a l.length cap)) (fun _ ii _ => l.length - (intOf ii).toNat)
 case atStart => exact ⟨Alt.refl _ _, 0, by omega, rfl, rfl, HR.out⟩
 case round =>
  obtain ⟨hA, i, hi, rfl, rfl, hRi⟩ := hrel
  have HA := Lib.hid hA
  have HRi := Lib.hid hRi
  clear hA hRi
  by_cases hlt : i < l.length
  ·obtain ⟨b, o, s, rfl⟩ : ∃ b o s, a = some ⟨b, o, s⟩ := by
    rcases a with _ | ⟨b, o, s⟩
    ·have := hno rfl; omega
    ·exact ⟨b, o, s, rfl⟩
   have hs : s = none := by
    obtain ⟨a', len', cap', e, q1, q2, q3, q4, q5⟩ := HRi.out
    cases e
    exact (q5 b o s rfl).1 (by omega)
   subst hs
   have hi0 : (0 : Int) ≤ (i : Int) := by omega
   have hi1 : (i : Int) < (l.length : Int) := by omega
   have hlt' : (i : Int) < (l.length : Int) := hi1
   go_wp2_with fail
   refine (w_markText (k + i) (by omega) _ (HG.out.alt HA.out HM.out)).mono ?_
   rintro e w1 ⟨rfl, hsz, hb1⟩
   have hR1 := R.keep (Keeps.below hb1 fun _ _ h => h) _ _ HRi.out
   obtain ⟨u, c1, c2, c3⟩ := flat_cells (mS_len k l i) hR1 (i := i) (j := 0) (rowsM_get hlt) (d := .str (nth l i)) (by rw [if_neg (by omega)]; rfl)
   have hu : u = .string (nth l i) := c3.1
   subst hu
   have hA1 : Alt (fun p => ¬ M p) w w1 := HA.out.trans (Alt.below hb1)
   have hf1 : w1.frozen? ⟨b, o + i * 1 + 0, none⟩ = false := by
    cases hf : w1.frozen? ⟨b, o + i * 1 + 0, none⟩ with
    | false => rfl
    | true =>
     exfalso
     refine c2 (HF.out _ ?_)
     rw [← hA1.fro _ ?_]
     ·exact hf
     ·obtain ⟨u0, d1, _, _⟩ := flat_cells (mS_len k l 0) HR.out (i := i) (j := 0) (rowsM_get hlt) (d := .str (nth l i)) (by rw [if_neg (by omega)]; rfl)
      exact block_lt_of_cell d1
   have hset := flat_set (mS_len k l i) (mS_leaf k l i) hR1 (j := 0) (rowsM_get hlt) (by decide) (x := .str (mkT (k + i))) (u := .string (mkT (k + i))) (fun _ _ => ⟨rfl, hsz⟩)
   have hAs := hA1.trans (Alt.set (A := fun p => ¬ M p) (v := .string (mkT (k + i))) c2 c1 (.inr (.inl ⟨_, _, rfl, rfl, hsz⟩)))
   simp only [Nat.mul_one, Nat.add_zero] at hset hAs c1 hf1
   have HS := Lib.hid (show R (w1.setCell ⟨b, o + i, none⟩ (.string (mkT (k + i)))) M (.sl (mS k l (i + 1))) (.slice (some ⟨b, o, none⟩) l.length cap) by
    have e : mS k l (i + 1) = (mS k l i).set i ((if i < i then [.str (mkT (k + i))] else Enc.cells (nth l i)).set 0 (.str (mkT (k + i)))) := by
     unfold mS
     rw [rowsM_set]
     refine rowsM_congr fun a _ => ?_
     by_cases ha : a = i
     ·subst ha; simp [cells_str]
     ·have : a < i + 1 ↔ a < i := by omega
      simp [ha, this]
    rw [e]; exact hset)
   have HAs := Lib.hid hAs
   clear hset hAs hA1 hR1 c2 c3 hb1 hsz
   go_wp2
   exact ⟨⟨HAs.out, i + 1, by omega, by go_num, by go_num, HS.out⟩, by simp [intOf]; omega⟩
  ·go_wp2
   go_ret
   obtain rfl : i = l.length := by omega
   exact ⟨rfl, HA.out, HRi.out⟩
/-! Rows of leaves, written cell by cell -/
def Flat (w : World) (M : Addr → Prop) (n : Nat) (rows : List (List D)) (v : Value) : Prop := R w M (.sl rows) v ∧ (∀ r ∈ rows, r.length = n) ∧ ∀ r ∈ rows, ∀ d ∈ r, leafD d = true
theorem Flat.keep {w w' : World} {M : Addr → Prop} {n : Nat} {rows : List (List D)} {v : Value} (h : Flat w M n rows v) (hb : Below w.heap.size w w') : Flat w' M n rows v := ⟨R.keep (Keeps.below hb fun _ _ h => h) _ _ h.1, h.2⟩
theorem set_all {α : Type} {p : α → Prop} {l : List α} {i : Nat} {x : α} (h : ∀ r ∈ l, p r) (hx : p x) : ∀ r ∈ l.set i x, p r := fun r hr => by
 rcases List.mem_or_eq_of_mem_set hr with h1 | rfl
 ·exact h r h1
 ·exact hx
theorem Flat.putS {w : World} {M : Addr → Prop} {n b o len cap i j : Nat} {rows : List (List D)} {r : List D} {t s : ByteArray} (h : Flat w M n rows (.slice (some ⟨b, o, none⟩) len cap)) (hi : rows[i]? = some r) (hj : r[j]? = some (.str t)) (hs : s.size ≤ maxLen) :
  w.cell? ⟨b, o + i * n + j, none⟩ = some (.string t) ∧ ¬ M ⟨b, o + i * n + j, none⟩ ∧ Flat (w.setCell ⟨b, o + i * n + j, none⟩ (.string s)) M n (rows.set i (r.set j (.str s))) (.slice (some ⟨b, o, none⟩) len cap) ∧ Alt (fun p => ¬ M p) w (w.setCell ⟨b, o + i * n + j, none⟩ (.string s)) := by
 obtain ⟨u, c1, c2, c3⟩ := flat_cells h.2.1 h.1 hi hj
 have hu : u = .string t := c3.1
 subst hu
 have hr := h.2.1 r (List.mem_of_getElem? hi)
 have hjn : j < n := by rw [← hr]; exact (List.getElem?_eq_some_iff.1 hj).1
 refine ⟨c1, c2, ⟨flat_set h.2.1 h.2.2 h.1 hi hjn fun _ _ => ⟨rfl, hs⟩, set_all h.2.1 (by simpa using hr), set_all h.2.2 fun d hd => ?_⟩, Alt.set (A := fun p => ¬ M p) c2 c1 (.inr (.inl ⟨_, _, rfl, rfl, hs⟩))⟩
 rcases List.mem_or_eq_of_mem_set hd with h1 | rfl
 ·exact h.2.2 r (List.mem_of_getElem? hi) d h1
 ·rfl
theorem Flat.putI {w : World} {M : Addr → Prop} {n b o len cap i j : Nat} {rows : List (List D)} {r : List D} {t x : Int} (h : Flat w M n rows (.slice (some ⟨b, o, none⟩) len cap)) (hi : rows[i]? = some r) (hj : r[j]? = some (.int .i64 t)) (h1 : -9223372036854775808 ≤ x) (h2 : x ≤ 9223372036854775807) :
  w.cell? ⟨b, o + i * n + j, none⟩ = some (.int .i64 t) ∧ ¬ M ⟨b, o + i * n + j, none⟩ ∧ Flat (w.setCell ⟨b, o + i * n + j, none⟩ (.int .i64 x)) M n (rows.set i (r.set j (.int .i64 x))) (.slice (some ⟨b, o, none⟩) len cap) ∧ Alt (fun p => ¬ M p) w (w.setCell ⟨b, o + i * n + j, none⟩ (.int .i64 x)) := by
 obtain ⟨u, c1, c2, c3⟩ := flat_cells h.2.1 h.1 hi hj
 have hu : u = .int .i64 t := c3.1
 subst hu
 have hr := h.2.1 r (List.mem_of_getElem? hi)
 have hjn : j < n := by rw [← hr]; exact (List.getElem?_eq_some_iff.1 hj).1
 refine ⟨c1, c2, ⟨flat_set h.2.1 h.2.2 h.1 hi hjn fun _ _ => int_ok h1 h2, set_all h.2.1 (by simpa using hr), set_all h.2.2 fun d hd => ?_⟩, Alt.set (A := fun p => ¬ M p) c2 c1 (.inr (.inr ⟨_, _, _, rfl, rfl, by rw [i64min]; exact h1, by rw [i64max]; exact h2⟩))⟩
 rcases List.mem_or_eq_of_mem_set hd with h3 | rfl
 ·exact h.2.2 r (List.mem_of_getElem? hi) d h3
 ·rfl
theorem free_of {A M : Addr → Prop} {w w' : World} {p : Addr} (h : Alt A w w') (hF : ∀ p, w.frozen? p = true → M p) (hp : ¬ M p) (hb : p.block < w.heap.size) : w'.frozen? p = false := by
 rw [h.fro p hb]
 cases hf : w.frozen? p with
 | false => rfl
 | true => exact absurd (hF p hf) hp
theorem set_at {α : Type} {l : List α} {i : Nat} {r x : α} (h : l[i]? = some r) : (l.set i x)[i]? = some x := List.getElem?_set_self (List.getElem?_eq_some_iff.1 h).1
/-! Marks of needs and of links -/
noncomputable def mN (k : Nat) (l : List Need) (i : Nat) : List (List D) := rowsM l.length fun a => if a < i then [.int .i64 ((k + 4 * a : Nat) : Int), .str (mkT (k + 4 * a + 1)), .int .i64 ((k + 4 * a + 1 + 1 : Nat) : Int), .int .i64 ((k + 4 * a + 1 + 1 + 1 : Nat) : Int)] else Enc.cells (nth l a)
theorem mN_flat (k : Nat) (l : List Need) (i : Nat) : (∀ r ∈ mN k l i, r.length = 4) ∧ ∀ r ∈ mN k l i, ∀ d ∈ r, leafD d = true := by
 constructor
 ·intro r hr
  obtain ⟨a, _, rfl⟩ := rowsM_mem hr
  split <;> rfl
 ·intro r hr d hd
  obtain ⟨a, _, rfl⟩ := rowsM_mem hr
  split at hd
  ·simp at hd; rcases hd with rfl | rfl | rfl | rfl <;> rfl
  ·simp [cells_Need] at hd; rcases hd with rfl | rfl | rfl | rfl <;> rfl
theorem mN_zero (k : Nat) (l : List Need) : mN k l 0 = l.map Enc.cells := by
 rw [rowsM_map]; exact rowsM_congr fun a _ => by simp
theorem mN_succ (k : Nat) (l : List Need) (i : Nat) : mN k l (i + 1) = (mN k l i).set i [.int .i64 ((k + 4 * i : Nat) : Int), .str (mkT (k + 4 * i + 1)), .int .i64 ((k + 4 * i + 1 + 1 : Nat) : Int), .int .i64 ((k + 4 * i + 1 + 1 + 1 : Nat) : Int)] := by
 unfold mN
 rw [rowsM_set]
 refine rowsM_congr fun a _ => ?_
 by_cases ha : a = i
 ·subst ha; simp
 ·have : a < i + 1 ↔ a < i := by omega
  simp [ha, this]
theorem m_NeedS (l : List Need) (k : Nat) (w : World) (M : Addr → Prop) (v : Value) (hr : R w M (encS l) v) (hfr : ∀ p, w.frozen? p = true → M p) (hG : Rd w) (hM : ∀ p, ¬ M p → NG ≤ p.block) (hk : k + 4 * l.length ≤ 1152921504606846970) :
  Calls Tryz.prog 64 #[v, .int .i64 k] w fun e w' => e = .returned (.int .i64 ((k + 4 * l.length : Nat) : Int)) ∧ Alt (fun p => ¬ M p) w w' ∧ R w' M (.sl (mN k l l.length)) v := by
 obtain ⟨a, len, cap, hv, hlen, hlc, hcm, hno, -⟩ := (show R w M (.sl (l.map Enc.cells)) v from hr)
 subst hv
 rw [List.length_map] at hlen
 subst hlen
 have hmx : (l.length : Int) ≤ 1152921504606846976 := by omega
 have HR := Lib.hid (show Flat w M 4 (mN k l 0) (.slice a l.length cap) from ⟨by rw [mN_zero]; exact hr, mN_flat k l 0⟩)
 have HF := Lib.hid hfr
 have HG := Lib.hid hG
 have HM := Lib.hid hM
 clear hr hfr hG hM
 go_enter Tryz.func64, Tryz.ntmps64
 go_wp2
 go_loopw [1, 5] (fun kk ii wr => Alt (fun p => ¬ M p) w wr ∧ ∃ i K : Nat, i ≤ l.length ∧ K = k + 4 * i ∧ kk = .int .i64 (K : Int) ∧ ii = .int .i64 (i : Int) ∧ Flat wr M 4 (mN k l i) (.slice a l.length cap)) (fun _ ii _ => l.length - (intOf ii).toNat)
 case atStart => exact ⟨Alt.refl _ _, 0, k, by omega, rfl, rfl, rfl, HR.out⟩
 case round =>
  obtain ⟨hA, i, K, hi, hK, rfl, rfl, hRi⟩ := hrel
  have HA := Lib.hid hA
  have HRi := Lib.hid hRi
  have HK := Lib.hid hK
  clear hA hRi
  by_cases hlt : i < l.length
  ·obtain ⟨b, o, s, rfl⟩ : ∃ b o s, a = some ⟨b, o, s⟩ := by
    rcases a with _ | ⟨b, o, s⟩
    ·have := hno rfl; omega
    ·exact ⟨b, o, s, rfl⟩
   have hs : s = none := by
    obtain ⟨a', len', cap', e, q1, q2, q3, q4, q5⟩ := HRi.out.1
    cases e
    exact (q5 b o s rfl).1 (by omega)
   subst hs
   have hi0 : (0 : Int) ≤ (i : Int) := by omega
   have hi1 : (i : Int) < (l.length : Int) := by omega
   have hKb : K + 4 ≤ 1152921504606846970 := by omega
   have hbw : b < w.heap.size := by
    obtain ⟨u0, d1, _, _⟩ := flat_cells HR.out.2.1 HR.out.1 (i := i) (j := 0) (rowsM_get hlt) (d := .int .i64 (nth l i).face) (by rw [if_neg (by omega)]; rfl)
    exact block_lt_of_cell d1
   have hrow : (mN k l i)[i]? = some (Enc.cells (nth l i)) := by
    unfold mN
    rw [rowsM_get hlt, if_neg (by omega)]
   obtain ⟨c0, n0, F0, A0⟩ := HRi.out.putI (j := 0) (x := (K : Int)) hrow rfl (by omega) (by omega)
   have hA0 := HA.out.trans A0
   have hf0 := free_of HA.out HF.out n0 hbw
   have HF0 := Lib.hid F0
   have HA0 := Lib.hid hA0
   clear F0 A0 n0 hA0 hK
   simp only [Nat.add_zero] at c0 hf0 HF0 HA0
   go_wp2_with fail
   refine (w_markText (K + 1) (by omega) _ (HG.out.alt HA0.out HM.out)).mono ?_
   rintro e w1 ⟨rfl, hsz, hb1⟩
   have F1 := HF0.out.keep hb1
   have hA1 := HA0.out.trans (Alt.below hb1)
   obtain ⟨c1, n1, F2, A2⟩ := F1.putS (j := 1) (s := mkT (K + 1)) (set_at hrow) rfl hsz
   obtain ⟨c2, n2, F3, A3⟩ := F2.putI (j := 2) (x := ((K + 1 + 1 : Nat) : Int)) (set_at (set_at hrow)) rfl (by omega) (by omega)
   obtain ⟨c3, n3, F4, A4⟩ := F3.putI (j := 3) (x := ((K + 1 + 1 + 1 : Nat) : Int)) (set_at (set_at (set_at hrow))) rfl (by omega) (by omega)
   have hf1 := free_of hA1 HF.out n1 hbw
   have hf2 := free_of (hA1.trans A2) HF.out n2 hbw
   have hf3 := free_of ((hA1.trans A2).trans A3) HF.out n3 hbw
   have HA4 := Lib.hid (((hA1.trans A2).trans A3).trans A4)
   have HF4 := Lib.hid F4
   rw [List.set_set, List.set_set, List.set_set] at HF4
   clear F1 F2 F3 F4 A2 A3 A4 hA1 n1 n2 n3 hb1 hsz
   simp only [Int.natCast_add, Int.natCast_one] at c1 c2 c3 hf1 hf2 hf3 HA4
   go_wp2
   refine ⟨⟨HA4.out, i + 1, K + 4, by omega, by have := HK.out; omega, by go_num, by go_num, ?_⟩, by simp [intOf]; omega⟩
   have e := HK.out
   subst e
   rw [mN_succ]
   exact HF4.out
  ·go_wp2
   go_ret
   obtain rfl : i = l.length := by omega
   subst hK
   exact ⟨rfl, HA.out, HRi.out.1⟩
/-! The marks are all there -/
theorem c_heldStringS (l : List ByteArray) (k : Nat) (hk : k + l.length ≤ 1152921504606846970) : Fun Tryz.prog 54 none [.sl (mS k l l.length), .int .i64 k] (.int .i64 ((k + l.length : Nat) : Int)) [] := by
 refine Fun.ofV vc_laws_heldStringS_ok ty_laws_heldStringS_ok rfl ?_ (fun hfit => ?_)
 ·refine ⟨?_, rfl, trivial⟩
  show RowsTy _ (tbl.tab _) _
  rw [tab_str]
  refine RowsTy.of fun r hr => ?_
  obtain ⟨a, ha, rfl⟩ := rowsM_mem hr
  rw [if_pos ha]; exact ⟨trivial, trivial⟩
 unfold vc_laws_heldStringS
 have hml : (mS k l l.length).length = l.length := rowsM_len _ _
 refine den_for l.length (fun i => [.int .i64 ((k + i : Nat) : Int), .int .i64 i]) (fun _ => True) rfl trivial ?_
 intro i hi _ _
 simp only [cA]
 refine den_ite (fun h2 => ?_) (fun h2 => ?_)
 ·simp only [E.den, dEq, iEq, sEq, lenD_sl, hml] at h2
  have h2 : i < l.length := by simpa using h2
  have hrow : (mS k l l.length)[i]? = some [.str (mkT (k + i))] := by
   unfold mS
   rw [rowsM_get h2, if_pos h2]
  refine den_cond (fun _ => ?_) ?_
  ·simp only [E.den, dEq, iEq, sEq, lenD_sl, hml]; simp; omega
  ((first | refine den_call ?_ (c_markText (k + i) (by omega)) (trivial) ?_ | refine den_callR ?_ (c_markText (k + i) (by omega)) (trivial) ?_ | refine den_call ?_ (.ofR (c_markText (k + i) (by omega))) (trivial) ?_); (focus (simp only [VC.den, E.den, dEq, gsH_nil, and_true]; try exact rfl)); (simp only [cA]))
  refine den_ite (fun h3 => ?_) (fun h3 => ?_)
  ·simp only [E.den, dEq, iEq, sEq, hrow, Option.getD_some] at h3
   simp at h3
  refine den_next h2 ?_ trivial
  simp only [E.den, dEq, iEq, sEq]
  rw [ar_add (by omega) (by omega), ar_add (by omega) (by omega)]; rfl
 ·simp only [E.den, dEq, iEq, sEq, lenD_sl, hml] at h2
  obtain rfl : i = l.length := by simp at h2; omega
  exact den_ret rfl
theorem c_heldNeedS (l : List Need) (k : Nat) (hk : k + 4 * l.length ≤ 1152921504606846970) : Fun Tryz.prog 65 none [.sl (mN k l l.length), .int .i64 k] (.int .i64 ((k + 4 * l.length : Nat) : Int)) [] := by
 refine Fun.ofV vc_laws_heldNeedS_ok ty_laws_heldNeedS_ok rfl ?_ (fun hfit => ?_)
 ·refine ⟨?_, rfl, trivial⟩
  show RowsTy _ (tbl.tab _) _
  rw [tab_Need]
  refine RowsTy.of fun r hr => ?_
  obtain ⟨a, ha, rfl⟩ := rowsM_mem hr
  rw [if_pos ha]; exact ⟨rfl, trivial, rfl, rfl, trivial⟩
 unfold vc_laws_heldNeedS
 have hml : (mN k l l.length).length = l.length := rowsM_len _ _
 refine den_for l.length (fun i => [.int .i64 ((k + 4 * i : Nat) : Int), .int .i64 i]) (fun _ => True) rfl trivial ?_
 intro i hi _ _
 simp only [cA]
 refine den_ite (fun h2 => ?_) (fun h2 => ?_)
 ·simp only [E.den, dEq, iEq, sEq, lenD_sl, hml] at h2
  have h2 : i < l.length := by simpa using h2
  have hrow : (mN k l l.length)[i]? = some [.int .i64 ((k + 4 * i : Nat) : Int), .str (mkT (k + 4 * i + 1)), .int .i64 ((k + 4 * i + 1 + 1 : Nat) : Int), .int .i64 ((k + 4 * i + 1 + 1 + 1 : Nat) : Int)] := by
   unfold mN
   rw [rowsM_get h2, if_pos h2]
  have e1 : arI .add .i64 ((k + 4 * i : Nat) : Int) 1 = ((k + 4 * i + 1 : Nat) : Int) := ar_add (by omega) (by omega)
  have e2 : arI .add .i64 ((k + 4 * i + 1 : Nat) : Int) 1 = ((k + 4 * i + 1 + 1 : Nat) : Int) := ar_add (by omega) (by omega)
  have e3 : arI .add .i64 ((k + 4 * i + 1 + 1 : Nat) : Int) 1 = ((k + 4 * i + 1 + 1 + 1 : Nat) : Int) := ar_add (by omega) (by omega)
  have e4 : arI .add .i64 ((k + 4 * i + 1 + 1 + 1 : Nat) : Int) 1 = ((k + 4 * (i + 1) : Nat) : Int) := by rw [ar_add (by omega) (by omega)]; omega
  refine den_cond (fun _ => ?_) ?_
  ·simp only [E.den, dEq, iEq, sEq, lenD_sl, hml]; simp; omega
  refine den_ite (fun h3 => ?_) (fun h3 => ?_)
  ·simp only [E.den, dEq, iEq, sEq, hrow, Option.getD_some] at h3
   simp at h3
  refine den_cond (fun _ => ?_) ?_
  ·simp only [E.den, dEq, iEq, sEq, lenD_sl, hml]; simp; omega
  ((first | refine den_call ?_ (c_markText (k + 4 * i + 1) (by omega)) (trivial) ?_ | refine den_callR ?_ (c_markText (k + 4 * i + 1) (by omega)) (trivial) ?_ | refine den_call ?_ (.ofR (c_markText (k + 4 * i + 1) (by omega))) (trivial) ?_); (focus (simp only [VC.den, E.den, dEq, gsH_nil, and_true, e1]; try exact rfl)); (simp only [cA]))
  refine den_ite (fun h3 => ?_) (fun h3 => ?_)
  ·simp only [E.den, dEq, iEq, sEq, hrow, Option.getD_some] at h3
   simp at h3
  refine den_cond (fun _ => ?_) ?_
  ·simp only [E.den, dEq, iEq, sEq, lenD_sl, hml]; simp; omega
  refine den_ite (fun h3 => ?_) (fun h3 => ?_)
  ·simp only [E.den, dEq, iEq, sEq, hrow, Option.getD_some, e1, e2] at h3
   simp at h3
  refine den_cond (fun _ => ?_) ?_
  ·simp only [E.den, dEq, iEq, sEq, lenD_sl, hml]; simp; omega
  refine den_ite (fun h3 => ?_) (fun h3 => ?_)
  ·simp only [E.den, dEq, iEq, sEq, hrow, Option.getD_some, e1, e2, e3] at h3
   simp at h3
  refine den_next h2 ?_ trivial
  simp only [E.den, dEq, iEq, sEq, e1, e2, e3, e4]
  rw [ar_add (by omega) (by omega)]; rfl
 ·simp only [E.den, dEq, iEq, sEq, lenD_sl, hml] at h2
  obtain rfl : i = l.length := by simp at h2; omega
  exact den_ret rfl
end Go.Proofs.YtjmakbnblpjkhaaGreatDoor
