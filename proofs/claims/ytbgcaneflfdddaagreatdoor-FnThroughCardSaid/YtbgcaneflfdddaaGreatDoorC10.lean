/- From 'it ends so' to 'it ends with this': a condition that is met has an outcome. No program in sight. -/
import Derived.Test.YtbgcaneflfdddaaGreatDoorC8
import Derived.Test.YtbgcaneflfdddaaGreatDoorC9
import Derived.PlainAid
import Derived.Test.YtbgcaneflfdddaaGreatDoorProg
import Derived.WalkKit
import Derived.Handy
import Derived.Deep.QuietTactic
import Derived.BigQuiet
import Derived.Lib.Hide
import Derived.Deep.Draws
import Derived.StillTailTactics
import Derived.Deep.RegionHeld3
import Derived.Laws.Rows
import Derived.Laws.ResultCell
import Derived.Laws.BitsLemmas
import Derived.Laws.BitsAllLaws
set_option linter.unusedVariables false
set_option linter.unusedSimpArgs false
set_option linter.unusedSectionVars false
set_option maxRecDepth 100000
namespace Go.Proofs.YtbgcaneflfdddaaGreatDoor
open Go.RowKit
variable [GC]
section
open Classical
variable {P : Program} {tab : Nat → List CT} {T : D → List D → Prop}
abbrev Out := List D → D × List D
theorem VC.exact {r0 : D × List D} (hT : T r0.1 r0.2) : ∀ (V : VC) (env : List D) (L : List ((List D → Prop) × Out)), (∀ x ∈ L, ∀ ys, T (x.2 ys).1 (x.2 ys).2) → V.den P tab env T (L.map (·.1)) →
  ∃ r : D × List D, T r.1 r.2 ∧ V.den P tab env (fun d bs => d = r.1 ∧ bs = r.2) (L.map fun x => fun ys => x.1 ys ∧ x.2 ys = r)
 | .fail _, _, _, _, h => h.elim
 | .ret e bs, env, L, _, h => by
  simp only [VC.den] at h
  exact ⟨(e.den env, bs.map (fun x => x.den env)), h, ⟨rfl, rfl⟩⟩
 | .rq (.cond gs c) k, env, L, hL, ⟨h1, h2⟩ => by
  obtain ⟨r, q1, q2⟩ := VC.exact hT k env L hL h2
  exact ⟨r, q1, h1, q2⟩
 | .rq (.call gs f bx args vt nb) k, env, L, hL, ⟨d, cs, h1, h2, h3, h4⟩ => by
  obtain ⟨r, q1, q2⟩ := VC.exact hT k _ L hL h4
  exact ⟨r, q1, d, cs, h1, h2, h3, q2⟩
 | .rq (.callR f bx args vt nb rt) k, env, L, hL, ⟨d, cs, h1, h2, h3, h4⟩ => by
  obtain ⟨r, q1, q2⟩ := VC.exact hT k _ L hL h4
  exact ⟨r, q1, d, cs, h1, h2, h3, q2⟩
 | .rq (.callV gs e args vt) k, env, L, hL, ⟨d, h1, h3, h4⟩ => by
  obtain ⟨r, q1, q2⟩ := VC.exact hT k _ L hL h4
  exact ⟨r, q1, d, h1, h3, q2⟩
 | .rq (.glob g vt ix) k, env, L, hL, ⟨d, h1, h2, h3, h4⟩ => by
  obtain ⟨r, q1, q2⟩ := VC.exact hT k _ L hL h4
  exact ⟨r, q1, d, h1, h2, h3, q2⟩
 | .rq (.new f args nb) k, env, L, hL, ⟨cs, h2, h3, h4⟩ => by
  obtain ⟨r, q1, q2⟩ := VC.exact hT k _ L hL h4
  exact ⟨r, q1, cs, h2, h3, q2⟩
 | .ite c a b, env, L, hL, ⟨h1, h2⟩ => by
  cases hc : (c.den env).toB with
  | true =>
   obtain ⟨r, q1, q2⟩ := VC.exact hT a env L hL (h1 hc)
   exact ⟨r, q1, ⟨fun _ => q2, fun h => absurd (hc.symm.trans h) (by simp)⟩⟩
  | false =>
   obtain ⟨r, q1, q2⟩ := VC.exact hT b env L hL (h2 hc)
   exact ⟨r, q1, ⟨fun h => absurd (hc.symm.trans h) (by simp), fun _ => q2⟩⟩
 | .again d es, env, L, hL, h => by
  simp only [VC.den, List.getElem?_map] at h
  cases hd : L[d]? with
  | none => rw [hd] at h; exact h.elim
  | some x =>
   rw [hd] at h
   refine ⟨x.2 (es.map (·.den env)), hL x (List.mem_of_getElem? hd) _, ?_⟩
   simp only [VC.den, List.getElem?_map, hd]
   exact ⟨h, rfl⟩
 | .loop tys inits body, env, L, hL, ⟨I, μ, hI, hb⟩ => by
  let D1 (xs : List D) (o : Out) (r : D × List D) : Prop := T r.1 r.2 ∧ body.den P tab (env ++ xs) (fun d bs => d = r.1 ∧ bs = r.2) ((fun ys => (I ys ∧ μ ys < μ xs) ∧ o ys = r) :: L.map fun x => fun ys => x.1 ys ∧ x.2 ys = r)
  let G : (xs : List D) → ((ys : List D) → μ ys < μ xs → D × List D) → D × List D := fun xs rec =>
   if h : ∃ r, D1 xs (fun ys => if hy : μ ys < μ xs then rec ys hy else r0) r then h.choose else r0
  let o : Out := (measure μ).wf.fix G
  have ho : ∀ xs, o xs = if h : ∃ r, D1 xs (fun ys => if μ ys < μ xs then o ys else r0) r then h.choose else r0 := fun xs => by
   show (measure μ).wf.fix G xs = _
   rw [WellFounded.fix_eq]
   rfl
  have hoT : ∀ xs, T (o xs).1 (o xs).2 := fun xs => by
   rw [ho]
   split
   ·rename_i h; exact h.choose_spec.1
   ·exact hT
  have hbody : ∀ xs, HasTys tab tys xs → FitsL xs → I xs → body.den P tab (env ++ xs) (fun d bs => d = (o xs).1 ∧ bs = (o xs).2) ((fun ys => (I ys ∧ o ys = o xs) ∧ μ ys < μ xs) :: L.map fun x => fun ys => x.1 ys ∧ x.2 ys = o xs) := by
   intro xs h1 h2 h3
   have hex : ∃ r, D1 xs (fun ys => if μ ys < μ xs then o ys else r0) r := by
    refine VC.exact hT body (env ++ xs) ((fun ys => I ys ∧ μ ys < μ xs, fun ys => if μ ys < μ xs then o ys else r0) :: L) ?_ (hb xs h1 h2 h3)
    intro x hx ys
    rcases List.mem_cons.1 hx with rfl | hx
    ·simp only; split
     ·exact hoT ys
     ·exact hT
    ·exact hL x hx ys
   have hox : o xs = hex.choose := by rw [ho, dif_pos hex]
   have hs := hex.choose_spec.2
   rw [← hox] at hs
   have he : (fun ys => (I ys ∧ μ ys < μ xs) ∧ (if μ ys < μ xs then o ys else r0) = o xs) = (fun ys => (I ys ∧ o ys = o xs) ∧ μ ys < μ xs) := by
    funext ys
    apply propext
    by_cases hy : μ ys < μ xs <;> simp [hy]
   rw [he] at hs
   exact hs
  refine ⟨o (inits.map (·.den env)), hoT _, fun xs => I xs ∧ o xs = o (inits.map (·.den env)), μ, ⟨hI, rfl⟩, ?_⟩
  rintro xs h1 h2 ⟨h3, h4⟩
  have := hbody xs h1 h2 h3
  rw [h4] at this
  exact this
theorem FunR.ex {f : FuncId} {tb : TB} {rb : RB} {bx : Option (List CT)} {V : VC} {Γ : List VT} (hV : vcOf P tb rb f bx = V) (hok : V.ok = true) (hΓ : tyOf P tb f bx = Γ) (htb : tbOk P tb tb = true) (hm : P.follows .mixedOrders = true)
  {bc : Option (List D)} {ds : List D} {r0 : D × List D} (hT : T r0.1 r0.2) (hbc : bc.map List.length = bx.map List.length) (hty : HasTys tb.tab Γ (ds ++ bc.getD [])) (hbx' : bx = none → ∀ d bs, T d bs → bs = [])
  (hden : FitsL ds → FitsL (bc.getD []) → V.den P tb.tab (ds ++ bc.getD []) T []) : ∃ r : D × List D, T r.1 r.2 ∧ FunR P f bc ds r.1 r.2 (rb.get f) := by
 by_cases hf : FitsL ds ∧ FitsL (bc.getD [])
 ·obtain ⟨r, q1, q2⟩ := VC.exact hT V _ [] (by simp) (hden hf.1 hf.2)
  exact ⟨r, q1, FunR.of hV hok hΓ htb hm hbc hty (fun h => hbx' h _ _ q1) fun _ _ => q2⟩
 ·exact ⟨r0, hT, FunR.of hV hok hΓ htb hm hbc hty (fun h => hbx' h _ _ hT) fun h1 h2 => absurd ⟨h1, h2⟩ hf⟩
theorem Fun.ex {f : FuncId} {tb : TB} {rb : RB} {bx : Option (List CT)} {V : VC} {Γ : List VT} (hV : vcOf P tb rb f bx = V) (hok : V.ok = true) (hΓ : tyOf P tb f bx = Γ) (htb : tbOk P tb tb = true) (hm : P.follows .mixedOrders = true)
  {bc : Option (List D)} {ds : List D} {r0 : D × List D} (hT : T r0.1 r0.2) (hbc : bc.map List.length = bx.map List.length) (hty : HasTys tb.tab Γ (ds ++ bc.getD [])) (hbx' : bx = none → ∀ d bs, T d bs → bs = [])
  (hden : FitsL ds → FitsL (bc.getD []) → V.den P tb.tab (ds ++ bc.getD []) T []) : ∃ r : D × List D, T r.1 r.2 ∧ Fun P f bc ds r.1 r.2 := by
 obtain ⟨r, h1, h2⟩ := FunR.ex hV hok hΓ htb hm hT hbc hty hbx' hden
 exact ⟨r, h1, .ofR h2⟩
end
end Go.Proofs.YtbgcaneflfdddaaGreatDoor
/- Contracts out of conditions, for the user: lists of data as lists of structures; loops; calls. -/
namespace Go.Proofs.YtbgcaneflfdddaaGreatDoor
open Go.RowKit Go
variable [GC]
theorem cA : (∀ {α : Type} {a : α} {r s : List α}, (a :: r) ++ s = a :: (r ++ s)) ∧ (∀ {α : Type} (r : List α), [] ++ r = r) := ⟨by simp, by simp⟩
theorem gE : (∀ {α : Type} {a b : α} {l : List α}, a ∈ b :: l ↔ a = b ∨ a ∈ l) ∧ (∀ {α : Type} {a : α}, ¬ a ∈ ([] : List α)) ∧ (∀ (p : Prop), (p ∨ False) = p) ∧ (∀ {α : Type} {p : α → Prop} {q : α → Prop} {a : α}, (∀ x, x = a ∨ q x → p x) ↔ p a ∧ ∀ x, q x → p x) ∧ (∀ {α : Type} {p : α → Prop} {a : α}, (∀ x, x = a → p x) ↔ p a) := ⟨List.mem_cons, List.not_mem_nil, or_false, forall_eq_or_imp, forall_eq⟩
theorem mo : Tryz.prog.follows .mixedOrders = true := by kernel_rfl
theorem FunR.ofV {f : FuncId} {V : VC} {Γ : List VT} (hV : vcOf Tryz.prog tbl rbt f none = V) (hΓ : tyOf Tryz.prog tbl f none = Γ) {rt : List (Nat × Nat)} (hrt : rbt.get f = rt) (hok : V.ok = true) {ds : List D} {r : D}
  (hty : HasTys tbl.tab Γ ds) (hden : FitsL ds → V.den Tryz.prog tbl.tab ds (fun d bs => d = r ∧ bs = []) []) : FunR Tryz.prog f none ds r [] rt :=
 hrt ▸ FunR.of hV hok hΓ tbl_ok mo rfl (by simpa using hty) (fun _ => rfl) (fun h _ => by simpa using hden h)
theorem Fun.ofV {f : FuncId} {V : VC} {Γ : List VT} (hV : vcOf Tryz.prog tbl rbt f none = V) (hΓ : tyOf Tryz.prog tbl f none = Γ) (hok : V.ok = true) {ds : List D} {r : D}
  (hty : HasTys tbl.tab Γ ds) (hden : FitsL ds → V.den Tryz.prog tbl.tab ds (fun d bs => d = r ∧ bs = []) []) : Fun Tryz.prog f none ds r [] :=
 Fun.of hV hok hΓ tbl_ok mo rfl (by simpa using hty) (fun _ => rfl) (fun h _ => by simpa using hden h)
theorem Fun.of_calls {P : Program} {f : FuncId} {ds : List D} {r : D} (hf : callable P f = true)
  (h : ∀ (w : World) (M : Addr → Prop) (vs : List Value), (∀ p, M p → p.block < w.heap.size) → Rs w M ds vs → Calls P f vs.toArray w fun e w' => ∃ v, e = .returned v ∧ R w' M r v ∧ Below w.heap.size w w') : Fun P f none ds r [] :=
 ⟨hf, fun w M g vs hM hr _ => (h w M vs hM.1 hr).mono fun e w' ⟨v, h1, h2, h3⟩ => ⟨v, h1, h2, Fr.of_below h3 (Nat.le_refl _), fun h => by cases h⟩⟩
theorem Fun.of_callsG {P : Program} {f : FuncId} {ds : List D} {r : D} (hf : callable P f = true)
  (h : ∀ (w : World) (M : Addr → Prop) (vs : List Value), Rdy w M → Rs w M ds vs → Calls P f vs.toArray w fun e w' => ∃ v, e = .returned v ∧ R w' M r v ∧ Below w.heap.size w w') : Fun P f none ds r [] :=
 ⟨hf, fun w M g vs hM hr _ => (h w M vs hM hr).mono fun e w' ⟨v, h1, h2, h3⟩ => ⟨v, h1, h2, Fr.of_below h3 (Nat.le_refl _), fun h => by cases h⟩⟩
inductive AllImp : List (List D → Prop) → List (List D → Prop) → Prop
 | nil : AllImp [] []
 | cons {p q : List D → Prop} {L L' : List (List D → Prop)} (h : ∀ ys, p ys → q ys) (t : AllImp L L') : AllImp (p :: L) (q :: L')
theorem AllImp.refl : ∀ L, AllImp L L
 | [] => .nil
 | _ :: L => .cons (fun _ h => h) (AllImp.refl L)
theorem AllImp.get {L L' : List (List D → Prop)} (h : AllImp L L') : ∀ {d : Nat} {p : List D → Prop}, L[d]? = some p → ∃ q, L'[d]? = some q ∧ ∀ ys, p ys → q ys := by
 induction h with
 | nil => intro d p hp; simp at hp
 | cons h t ih =>
  intro d p hp
  cases d with
  | zero => simp at hp; subst hp; exact ⟨_, rfl, h⟩
  | succ d => simp at hp; simpa using ih hp
theorem VC.den_mono {P : Program} {tab : Nat → List CT} {Q Q' : D → List D → Prop} (hQ : ∀ d bs, Q d bs → Q' d bs) : ∀ (V : VC) (env : List D) {L L' : List (List D → Prop)}, AllImp L L' → V.den P tab env Q L → V.den P tab env Q' L'
 | .fail _, _, _, _, _, h => h.elim
 | .ret e bs, env, _, _, _, h => hQ _ _ h
 | .rq (.cond gs c) k, env, _, _, hL, ⟨h1, h2⟩ => ⟨h1, VC.den_mono hQ k env hL h2⟩
 | .rq (.call gs f bx args vt nb) k, env, _, _, hL, ⟨d, cs, h1, h2, h3, h4⟩ => ⟨d, cs, h1, h2, h3, VC.den_mono hQ k _ hL h4⟩
 | .rq (.callR f bx args vt nb rt) k, env, _, _, hL, ⟨d, cs, h1, h2, h3, h4⟩ => ⟨d, cs, h1, h2, h3, VC.den_mono hQ k _ hL h4⟩
 | .rq (.callV gs e args vt) k, env, _, _, hL, ⟨d, h1, h3, h4⟩ => ⟨d, h1, h3, VC.den_mono hQ k _ hL h4⟩
 | .rq (.glob g vt ix) k, env, _, _, hL, ⟨d, h1, h2, h3, h4⟩ => ⟨d, h1, h2, h3, VC.den_mono hQ k _ hL h4⟩
 | .rq (.new f args nb) k, env, _, _, hL, ⟨cs, h2, h3, h4⟩ => ⟨cs, h2, h3, VC.den_mono hQ k _ hL h4⟩
 | .ite c a b, env, _, _, hL, ⟨h1, h2⟩ => ⟨fun h => VC.den_mono hQ a env hL (h1 h), fun h => VC.den_mono hQ b env hL (h2 h)⟩
 | .loop tys inits body, env, _, _, hL, ⟨I, μ, h1, h2⟩ => ⟨I, μ, h1, fun xs q1 q2 q3 => VC.den_mono hQ body _ (.cons (fun _ h => h) hL) (h2 xs q1 q2 q3)⟩
 | .again d es, env, L, L', hL, h => by
  simp only [VC.den] at h ⊢
  cases hd : L[d]? with
  | none => rw [hd] at h; exact h.elim
  | some p =>
   rw [hd] at h
   obtain ⟨q, h1, h2⟩ := hL.get hd
   rw [h1]; exact h2 _ h
class Enc (α : Type) extends Inhabited α where
 cells : α → List D
def nth {α : Type} [Inhabited α] (l : List α) (k : Nat) : α := l.getD k default
def enc {α : Type} [Enc α] (x : α) : D := .agg (Enc.cells x)
def encS {α : Type} [Enc α] (l : List α) : D := .sl (l.map Enc.cells)
theorem row_enc {α : Type} [Enc α] (l : List α) (k : Nat) {z : List D} (h : Enc.cells (default : α) = z) : D.agg (((l.map Enc.cells)[k]?).getD z) = enc (nth l k) := by
 unfold enc nth
 rw [List.getD_eq_getElem?_getD, List.getElem?_map]
 cases l[k]? <;> simp [h]
@[simp] theorem encS_toR {α : Type} [Enc α] (l : List α) : (encS l).toR = l.map Enc.cells := rfl
@[simp] theorem encS_len {α : Type} [Enc α] (l : List α) : lenD (encS l) = l.length := by simp [encS, lenD]
@[simp] theorem enc_toA {α : Type} [Enc α] (x : α) : (enc x).toA = Enc.cells x := rfl
theorem den_loop {P : Program} {tab : Nat → List CT} {env : List D} {Q : D → List D → Prop} {L : List (List D → Prop)} {tys : List VT} {inits : List E} {body : VC}
  (St : Type) (e : St → List D) (I : St → Prop) (μ : St → Nat) (s0 : St) (hμ : ∀ s s', e s = e s' → μ s = μ s') (h0 : inits.map (·.den env) = e s0) (hI : I s0)
  (hs : ∀ s, I s → FitsL (e s) → body.den P tab (env ++ e s) Q ((fun ys => ∃ s', ys = e s' ∧ I s' ∧ μ s' < μ s) :: L)) : (VC.loop tys inits body).den P tab env Q L := by
 classical
 let m : List D → Nat := fun xs => if h : ∃ s, xs = e s then μ h.choose else 0
 have hm : ∀ s, m (e s) = μ s := by
  intro s
  have hx : ∃ s', e s = e s' := ⟨s, rfl⟩
  show (if h : ∃ s', e s = e s' then μ h.choose else 0) = μ s
  rw [dif_pos hx]
  exact (hμ _ _ hx.choose_spec).symm
 refine ⟨fun xs => ∃ s, xs = e s ∧ I s, m, ⟨s0, h0, hI⟩, ?_⟩
 rintro xs _ hf ⟨s, rfl, hIs⟩
 have := hs s hIs hf
 have he : (fun ys => (∃ s, ys = e s ∧ I s) ∧ m ys < m (e s)) = (fun ys => ∃ s', ys = e s' ∧ I s' ∧ μ s' < μ s) := by
  funext ys
  apply propext
  constructor
  ·rintro ⟨⟨s', rfl, h⟩, h2⟩; exact ⟨s', rfl, h, by rwa [hm, hm] at h2⟩
  ·rintro ⟨s', rfl, h, h2⟩; exact ⟨⟨s', rfl, h⟩, by rwa [hm, hm]⟩
 rw [he]
 exact this
theorem wrap_i64 {n : Int} (h1 : -9223372036854775808 ≤ n) (h2 : n ≤ 9223372036854775807) : IntKind.i64.wrap n = n := by
 simp only [IntKind.wrap, IntKind.bits, IntKind.signed]
 simp
 omega
theorem den_call {P : Program} {tab : Nat → List CT} {env : List D} {Q : D → List D → Prop} {L : List (List D → Prop)} {gs : Gd} {f : FuncId} {args : List E} {vt : VT} {k : VC} {r : D} {xs : List D}
  (ha : args.map (·.den env) = xs) (hc : Fun P f none xs r []) (hty : HasVT tab vt r) (hk : k.den P tab (env ++ [r]) Q L) : (VC.rq (.call gs f none args vt []) k).den P tab env Q L :=
 ⟨r, [], hty, trivial, fun _ => ha ▸ hc, hk⟩
theorem den_callR {P : Program} {tab : Nat → List CT} {env : List D} {Q : D → List D → Prop} {L : List (List D → Prop)} {f : FuncId} {args : List E} {vt : VT} {rt : List (Nat × Nat)} {k : VC} {r : D} {xs : List D}
  (ha : args.map (·.den env) = xs) (hc : FunR P f none xs r [] rt) (hty : HasVT tab vt r) (hk : k.den P tab (env ++ [r]) Q L) : (VC.rq (.callR f none args vt [] rt) k).den P tab env Q L :=
 ⟨r, [], hty, trivial, ha ▸ hc, hk⟩
theorem den_cond {P : Program} {tab : Nat → List CT} {env : List D} {Q : D → List D → Prop} {L : List (List D → Prop)} {gs : Gd} {c : E} {k : VC}
  (h : gsH env gs → c.den env = .bool true) (hk : k.den P tab env Q L) : (VC.rq (.cond gs c) k).den P tab env Q L := ⟨h, hk⟩
theorem den_ite {P : Program} {tab : Nat → List CT} {env : List D} {Q : D → List D → Prop} {L : List (List D → Prop)} {c : E} {a b : VC}
  (h1 : (c.den env).toB = true → a.den P tab env Q L) (h2 : (c.den env).toB = false → b.den P tab env Q L) : (VC.ite c a b).den P tab env Q L := ⟨h1, h2⟩
theorem den_ret {P : Program} {tab : Nat → List CT} {env : List D} {L : List (List D → Prop)} {e : E} {r : D} (h : e.den env = r) : (VC.ret e []).den P tab env (fun d bs => d = r ∧ bs = []) L := ⟨h, rfl⟩
theorem den_callE {P : Program} {tab : Nat → List CT} {env : List D} {Q : D → List D → Prop} {L : List (List D → Prop)} {gs : Gd} {f : FuncId} {args : List E} {vt : VT} {k : VC} {T : D → Prop} {xs : List D}
  (ha : args.map (·.den env) = xs) (hc : ∃ r, T r ∧ Fun P f none xs r []) (hty : ∀ r, T r → HasVT tab vt r) (hk : ∀ r, T r → k.den P tab (env ++ [r]) Q L) : (VC.rq (.call gs f none args vt []) k).den P tab env Q L := by
 obtain ⟨r, h1, h2⟩ := hc
 exact ⟨r, [], hty r h1, trivial, fun _ => ha ▸ h2, hk r h1⟩
theorem FunR.exV {f : FuncId} {V : VC} {Γ : List VT} {ds : List D} {T : D → Prop} {rt : List (Nat × Nat)} (hV : vcOf Tryz.prog tbl rbt f none = V) (hrt : rbt.get f = rt) (hok : V.ok = true) (hΓ : tyOf Tryz.prog tbl f none = Γ) (hty : HasTys tbl.tab Γ ds) (r0 : D) (hT : T r0)
  (hden : FitsL ds → V.den Tryz.prog tbl.tab ds (fun d bs => T d ∧ bs = []) []) : ∃ r, T r ∧ FunR Tryz.prog f none ds r [] rt := by
 obtain ⟨⟨r, bs⟩, ⟨q1, q2⟩, q3⟩ := FunR.ex (T := fun d bs => T d ∧ bs = []) (r0 := (r0, [])) hV hok hΓ tbl_ok mo ⟨hT, rfl⟩ (bc := none) rfl (by simpa using hty) (fun _ d bs h => h.2) (fun h _ => by simpa using hden h)
 simp only at q2; subst q2
 exact ⟨r, q1, hrt ▸ q3⟩
theorem exR {f : FuncId} {xs : List D} {T : D → Prop} {rt : List (Nat × Nat)} (h : ∃ r, T r ∧ FunR Tryz.prog f none xs r [] rt) : ∃ r, T r ∧ Fun Tryz.prog f none xs r [] := by
 obtain ⟨r, h1, h2⟩ := h
 exact ⟨r, h1, .ofR h2⟩
theorem den_callRE {P : Program} {tab : Nat → List CT} {env : List D} {Q : D → List D → Prop} {L : List (List D → Prop)} {f : FuncId} {args : List E} {vt : VT} {rt : List (Nat × Nat)} {k : VC} {T : D → Prop} {xs : List D}
  (ha : args.map (·.den env) = xs) (hc : ∃ r, T r ∧ FunR P f none xs r [] rt) (hty : ∀ r, T r → HasVT tab vt r) (hk : ∀ r, T r → k.den P tab (env ++ [r]) Q L) : (VC.rq (.callR f none args vt [] rt) k).den P tab env Q L := by
 obtain ⟨r, h1, h2⟩ := hc
 exact ⟨r, [], hty r h1, trivial, ha ▸ h2, hk r h1⟩
theorem den_for {P : Program} {tab : Nat → List CT} {env : List D} {Q : D → List D → Prop} {L : List (List D → Prop)} {tys : List VT} {inits : List E} {body : VC}
  (n : Nat) (st : Nat → List D) (I : Nat → Prop) (h0 : inits.map (·.den env) = st 0) (hI : I 0)
  (hs : ∀ k, k ≤ n → I k → FitsL (st k) → body.den P tab (env ++ st k) Q ((fun ys => k < n ∧ ys = st (k + 1) ∧ I (k + 1)) :: L)) : (VC.loop tys inits body).den P tab env Q L := by
 classical
 let last : List D → Nat → Nat := fun xs m => Nat.rec 0 (fun j r => if xs = st (j + 1) ∧ I (j + 1) then j + 1 else r) m
 have last_le : ∀ xs m, last xs m ≤ m := by
  intro xs m
  induction m with
  | zero => exact Nat.le_refl _
  | succ m ih =>
   show (if xs = st (m + 1) ∧ I (m + 1) then m + 1 else last xs m) ≤ m + 1
   split <;> omega
 have last_ge : ∀ xs m k, k ≤ m → xs = st k → I k → k ≤ last xs m := by
  intro xs m
  induction m with
  | zero => intro k hk _ _; omega
  | succ m ih =>
   intro k hk hx hi
   show k ≤ (if xs = st (m + 1) ∧ I (m + 1) then m + 1 else last xs m)
   by_cases h : k = m + 1
   ·subst h; rw [if_pos ⟨hx, hi⟩]; exact Nat.le_refl _
   ·have := ih k (by omega) hx hi
    split <;> omega
 have last_is : ∀ xs m k, k ≤ m → xs = st k → I k → xs = st (last xs m) ∧ I (last xs m) := by
  intro xs m
  induction m with
  | zero =>
   intro k hk hx hi
   have : k = 0 := by omega
   subst this; exact ⟨hx, hi⟩
  | succ m ih =>
   intro k hk hx hi
   show xs = st (if xs = st (m + 1) ∧ I (m + 1) then m + 1 else last xs m) ∧ I (if xs = st (m + 1) ∧ I (m + 1) then m + 1 else last xs m)
   by_cases h : xs = st (m + 1) ∧ I (m + 1)
   ·rw [if_pos h]; exact h
   ·rw [if_neg h]
    refine ih k ?_ hx hi
    rcases Nat.lt_or_ge k (m + 1) with hlt | hge
    ·omega
    ·have : k = m + 1 := by omega
     subst this; exact absurd ⟨hx, hi⟩ h
 refine ⟨fun xs => ∃ k, k ≤ n ∧ xs = st k ∧ I k, fun xs => n - last xs n, ⟨0, Nat.zero_le _, h0, hI⟩, ?_⟩
 rintro xs _ hf ⟨k, hk, hx, hi⟩
 obtain ⟨h1, h2⟩ := last_is xs n k hk hx hi
 have h3 := last_le xs n
 generalize hj : last xs n = j at *
 subst h1
 have := hs j h3 h2 hf
 refine VC.den_mono (fun _ _ h => h) _ _ ?_ this
 refine .cons (fun ys hys => ?_) (.refl _)
 obtain ⟨q1, q2, q3⟩ := hys
 refine ⟨⟨j + 1, by omega, q2, q3⟩, ?_⟩
 have := last_ge ys n (j + 1) (by omega) q2 q3
 show n - last ys n < n - last (st j) n
 rw [hj]; omega
theorem den_next {P : Program} {tab : Nat → List CT} {env : List D} {Q : D → List D → Prop} {L : List (List D → Prop)} {es : List E} {xs : List D} {p q : Prop}
  (hp : p) (h : es.map (·.den env) = xs) (hq : q) : (VC.again 0 es).den P tab env Q ((fun ys => p ∧ ys = xs ∧ q) :: L) := ⟨hp, h, hq⟩
def ix (k : Nat) : List D := [.int .i64 k]
theorem ar_add {x y : Int} (h1 : -9223372036854775808 ≤ x + y) (h2 : x + y ≤ 9223372036854775807) : arI .add .i64 x y = x + y := wrap_i64 h1 h2
theorem ar_sub {x y : Int} (h1 : -9223372036854775808 ≤ x - y) (h2 : x - y ≤ 9223372036854775807) : arI .sub .i64 x y = x - y := wrap_i64 h1 h2
theorem rowsTy_map {α : Type} [Enc α] {tab : Nat → List CT} {ts : List CT} (h : ∀ x : α, RowTy tab ts (Enc.cells x)) (l : List α) : RowsTy tab ts (l.map Enc.cells) :=
 RowsTy.of (by intro r hr; obtain ⟨x, _, rfl⟩ := List.mem_map.1 hr; exact h x)
theorem fits_encS {α : Type} [Enc α] {l : List α} (h : Fits (encS l)) : l.length ≤ maxLen := by
 unfold encS Fits at h; simpa using h.1
theorem cmpI_lss (x y : Int) : cmpI .lss x y = decide (x < y) := rfl
theorem cmpI_leq (x y : Int) : cmpI .leq x y = decide (x ≤ y) := rfl
theorem cmpI_gtr (x y : Int) : cmpI .gtr x y = decide (x > y) := rfl
theorem cmpI_geq (x y : Int) : cmpI .geq x y = decide (x ≥ y) := rfl
theorem cmpI_eql (x y : Int) : cmpI .eql x y = (x == y) := rfl
theorem cmpI_neq (x y : Int) : cmpI .neq x y = (x != y) := rfl
theorem dEq : (∀ {α β : Type} {f : α → β} {a : α} {l : List α}, List.map f (a :: l) = f a :: List.map f l) ∧ (∀ {α β : Type} {f : α → β}, List.map f [] = []) ∧ (∀ {α β : Type} (f : α → β), Option.map f none = none) ∧ (∀ {α β : Type} (a : α) (f : α → β), Option.map f (some a) = some (f a)) ∧
  (∀ {α : Type} {x : α} {xs : List α} {d : α}, (x :: xs).getD 0 d = x) ∧ (∀ {α : Type} {x : α} {xs : List α} {n : Nat} {d : α}, (x :: xs).getD (n + 1) d = xs.getD n d) ∧ (∀ {α : Type} {a : α} {r s : List α}, (a :: r) ++ s = a :: (r ++ s)) ∧ (∀ {α : Type} (r : List α), [] ++ r = r) ∧ (∀ {α : Type} (r : List α), r ++ [] = r) ∧
  (∀ {α : Type} {a : α} {l : List α} {i : Nat}, (a :: l).drop (i + 1) = l.drop i) ∧ (∀ {α : Type} {l : List α}, l.drop 0 = l) ∧ (∀ {α : Type} {a : α} {l : List α} {i : Nat}, (a :: l).take (i + 1) = a :: l.take i) ∧ (∀ {α : Type} {l : List α}, l.take 0 = []) ∧
  (∀ (k : IntKind) (n : Int), (D.int k n).toI = n) ∧ (∀ b : Bool, (D.bool b).toB = b) ∧ (∀ s : ByteArray, (D.str s).toS = s) ∧ (∀ l : List D, (D.agg l).toA = l) ∧ (∀ l : List D, (D.tup l).toT = l) ∧ (∀ l : List (List D), (D.sl l).toR = l) ∧
  (∀ {α : Type} [Enc α] (x : α), (enc x).toA = Enc.cells x) ∧ (∀ {α : Type} [Enc α] (l : List α), (encS l).toR = l.map Enc.cells) ∧ (∀ {α : Type} [Enc α] (l : List α), lenD (encS l) = l.length) :=
 ⟨by simp, by simp, by simp, by simp, by simp, by simp, by simp, by simp, by simp, by simp, by simp, by simp, by simp, by simp, by simp, by simp, by simp, by simp, by simp, by simp, by simp, by simp⟩
theorem iEq : (∀ x y : Int, cmpI .lss x y = decide (x < y)) ∧ (∀ x y : Int, cmpI .leq x y = decide (x ≤ y)) ∧ (∀ x y : Int, cmpI .gtr x y = decide (x > y)) ∧ (∀ x y : Int, cmpI .geq x y = decide (x ≥ y)) ∧ (∀ x y : Int, cmpI .eql x y = (x == y)) ∧ (∀ x y : Int, cmpI .neq x y = (x != y)) ∧ (∀ n : Nat, (n : Int).toNat = n) ∧ (0 : Int).toNat = 0 :=
 ⟨cmpI_lss, cmpI_leq, cmpI_gtr, cmpI_geq, cmpI_eql, cmpI_neq, Int.toNat_natCast, rfl⟩
end Go.Proofs.YtbgcaneflfdddaaGreatDoor
/- The program's structures as plain types: their cells, their types, equality. Written by gen2.py. -/
namespace Go.Proofs.YtbgcaneflfdddaaGreatDoor
open Go.RowKit Go
variable [GC]
instance : Enc ByteArray := { cells := fun s => [.str s] }
instance : Enc Int := { cells := fun n => [.int .i64 n] }
theorem cells_str (s : ByteArray) : Enc.cells s = [.str s] := rfl
theorem cells_int (n : Int) : Enc.cells n = [.int .i64 n] := rfl
theorem row_str (l : List ByteArray) (k : Nat) : D.agg (((l.map Enc.cells)[k]?).getD [zeroD CT.str]) = enc (nth l k) := row_enc l k rfl
theorem row_int (l : List Int) (k : Nat) : D.agg (((l.map Enc.cells)[k]?).getD [zeroD (CT.int .i64)]) = enc (nth l k) := row_enc l k rfl
def byteZ (s : ByteArray) (k : Nat) : Int := ((s[k]?).map fun (c : UInt8) => (c.toNat : Int)).getD 0
theorem at_byte (s : ByteArray) (k : Nat) : ((s[k]?).map fun (c : UInt8) => (c.toNat : Int)).getD 0 = byteZ s k := rfl
theorem fits_str {s : ByteArray} (h : Fits (.str s)) : s.size ≤ 9223372036854775807 := by simpa [Fits, maxLen] using h
theorem len_str (s : ByteArray) : lenD (.str s) = s.size := rfl
theorem ty_str (s : ByteArray) : RowTy tbl.tab [.str] (Enc.cells s) := by simp [cells_str, RowTy, HasTy]
theorem tab_str : tbl.tab 9 = [.str] := by kernel_rfl
theorem ty_strS (l : List ByteArray) : HasTy tbl.tab (.sl 9) (encS l) := by
 show RowsTy _ (tbl.tab _) _
 rw [tab_str]; exact rowsTy_map ty_str l
theorem toList_eqB (a b : ByteArray) : (a.toList == b.toList) = decide (a = b) := by
 rw [Bool.eq_iff_iff]
 simp only [beq_iff_eq, decide_eq_true_eq]
 refine ⟨fun h => ?_, fun h => by rw [h]⟩
 rw [ByteArray.toList_eq, ByteArray.toList_eq] at h
 cases a; cases b; simp_all [Array.toList_inj]
theorem cmpS_eql (a b : ByteArray) : cmpS .eql a b = decide (a = b) := toList_eqB a b
theorem cmpS_neq (a b : ByteArray) : cmpS .neq a b = !decide (a = b) := by rw [← toList_eqB]; rfl
def ltB (a b : ByteArray) : Bool := Op.bytesLess a.toList b.toList
theorem cmpS_lss (a b : ByteArray) : cmpS .lss a b = ltB a b := rfl
theorem cmpS_geq (a b : ByteArray) : cmpS .geq a b = !ltB a b := rfl
theorem sEq : (∀ s : ByteArray, lenD (.str s) = s.size) ∧ (∀ (s : ByteArray) (k : Nat), ((s[k]?).map fun (c : UInt8) => (c.toNat : Int)).getD 0 = byteZ s k) ∧ (∀ a b : ByteArray, cmpS .eql a b = decide (a = b)) ∧ (∀ a b : ByteArray, cmpS .neq a b = !decide (a = b)) ∧ (∀ a b : ByteArray, cmpS .lss a b = ltB a b) ∧ (∀ a b : ByteArray, cmpS .geq a b = !ltB a b) := ⟨len_str, at_byte, cmpS_eql, cmpS_neq, cmpS_lss, cmpS_geq⟩
structure Layer where
 name : ByteArray
 count : Int
 deriving DecidableEq, Inhabited
instance : Enc Layer := { cells := fun v => [.str v.name, .int .i64 v.count] }
theorem cells_Layer (v : Layer) : Enc.cells v = [.str v.name, .int .i64 v.count] := rfl
theorem row_Layer (l : List Layer) (k : Nat) : D.agg (((l.map Enc.cells)[k]?).getD [zeroD (CT.str), zeroD (CT.int .i64)]) = enc (nth l k) := row_enc l k rfl
theorem eq_Layer (v u : Layer) : v = u ↔ v.name = u.name ∧ v.count = u.count := ⟨fun h => by subst h; simp, fun h => by cases v; cases u; simp_all⟩
theorem eqv_Layer (v u : Layer) : eqvL (Enc.cells v) (Enc.cells u) = decide (v = u) := by
 rw [Bool.eq_iff_iff]
 simp [cells_Layer, eqvL, eqvD, toList_eqB, eq_Layer, and_assoc]
theorem ty_Layer (v : Layer) : RowTy tbl.tab [.str, .int .i64] (Enc.cells v) := ⟨trivial, rfl, trivial⟩
theorem tab_Layer : tbl.tab 52 = [.str, .int .i64] := by kernel_rfl
theorem ty_LayerS (l : List Layer) : HasTy tbl.tab (.sl 52) (encS l) := by
 show RowsTy _ (tbl.tab _) _
 rw [tab_Layer]; exact rowsTy_map ty_Layer l
structure Cell where
 key : ByteArray
 val : Int
 deriving DecidableEq, Inhabited
instance : Enc Cell := { cells := fun v => [.str v.key, .int .i64 v.val] }
theorem cells_Cell (v : Cell) : Enc.cells v = [.str v.key, .int .i64 v.val] := rfl
theorem row_Cell (l : List Cell) (k : Nat) : D.agg (((l.map Enc.cells)[k]?).getD [zeroD (CT.str), zeroD (CT.int .i64)]) = enc (nth l k) := row_enc l k rfl
theorem eq_Cell (v u : Cell) : v = u ↔ v.key = u.key ∧ v.val = u.val := ⟨fun h => by subst h; simp, fun h => by cases v; cases u; simp_all⟩
theorem eqv_Cell (v u : Cell) : eqvL (Enc.cells v) (Enc.cells u) = decide (v = u) := by
 rw [Bool.eq_iff_iff]
 simp [cells_Cell, eqvL, eqvD, toList_eqB, eq_Cell, and_assoc]
theorem ty_Cell (v : Cell) : RowTy tbl.tab [.str, .int .i64] (Enc.cells v) := ⟨trivial, rfl, trivial⟩
theorem tab_Cell : tbl.tab 125 = [.str, .int .i64] := by kernel_rfl
theorem ty_CellS (l : List Cell) : HasTy tbl.tab (.sl 125) (encS l) := by
 show RowsTy _ (tbl.tab _) _
 rw [tab_Cell]; exact rowsTy_map ty_Cell l
structure Core where
 kind : ByteArray
 on : Bool
 broken : Bool
 cells : List Cell
 count : Int
 deriving DecidableEq, Inhabited
instance : Enc Core := { cells := fun v => [.str v.kind, .bool v.on, .bool v.broken, encS v.cells, .int .i64 v.count] }
theorem cells_Core (v : Core) : Enc.cells v = [.str v.kind, .bool v.on, .bool v.broken, encS v.cells, .int .i64 v.count] := rfl
theorem eq_Core (v u : Core) : v = u ↔ v.kind = u.kind ∧ v.on = u.on ∧ v.broken = u.broken ∧ v.cells = u.cells ∧ v.count = u.count := ⟨fun h => by subst h; simp, fun h => by cases v; cases u; simp_all⟩
theorem ty_Core (v : Core) : RowTy tbl.tab [.str, .bool, .bool, .sl 125, .int .i64] (Enc.cells v) := ⟨trivial, trivial, trivial, ty_CellS _, rfl, trivial⟩
structure Call where
 method : ByteArray
 key : ByteArray
 val : Int
 text : ByteArray
 deriving DecidableEq, Inhabited
instance : Enc Call := { cells := fun v => [.str v.method, .str v.key, .int .i64 v.val, .str v.text] }
theorem cells_Call (v : Call) : Enc.cells v = [.str v.method, .str v.key, .int .i64 v.val, .str v.text] := rfl
theorem row_Call (l : List Call) (k : Nat) : D.agg (((l.map Enc.cells)[k]?).getD [zeroD (CT.str), zeroD (CT.str), zeroD (CT.int .i64), zeroD (CT.str)]) = enc (nth l k) := row_enc l k rfl
theorem ty_Call (v : Call) : RowTy tbl.tab [.str, .str, .int .i64, .str] (Enc.cells v) := ⟨trivial, trivial, rfl, trivial, trivial⟩
theorem tab_Call : tbl.tab 39 = [.str, .str, .int .i64, .str] := by kernel_rfl
theorem ty_CallS (l : List Call) : HasTy tbl.tab (.sl 39) (encS l) := by
 show RowsTy _ (tbl.tab _) _
 rw [tab_Call]; exact rowsTy_map ty_Call l
structure Reply where
 code : Int
 val : Int
 text : ByteArray
 want : Int
 had : Int
 deriving DecidableEq, Inhabited
instance : Enc Reply := { cells := fun v => [.int .i64 v.code, .int .i64 v.val, .str v.text, .int .i64 v.want, .int .i64 v.had] }
theorem cells_Reply (v : Reply) : Enc.cells v = [.int .i64 v.code, .int .i64 v.val, .str v.text, .int .i64 v.want, .int .i64 v.had] := rfl
theorem eq_Reply (v u : Reply) : v = u ↔ v.code = u.code ∧ v.val = u.val ∧ v.text = u.text ∧ v.want = u.want ∧ v.had = u.had := ⟨fun h => by subst h; simp, fun h => by cases v; cases u; simp_all⟩
theorem eqv_Reply (v u : Reply) : eqvL (Enc.cells v) (Enc.cells u) = decide (v = u) := by
 rw [Bool.eq_iff_iff]
 simp [cells_Reply, eqvL, eqvD, toList_eqB, eq_Reply, and_assoc]
theorem ty_Reply (v : Reply) : RowTy tbl.tab [.int .i64, .int .i64, .str, .int .i64, .int .i64] (Enc.cells v) := ⟨rfl, rfl, trivial, rfl, rfl, trivial⟩
structure Part where
 core : Core
 layers : List Layer
 deriving DecidableEq, Inhabited
instance : Enc Part := { cells := fun v => [.str v.core.kind, .bool v.core.on, .bool v.core.broken, encS v.core.cells, .int .i64 v.core.count, encS v.layers] }
theorem cells_Part (v : Part) : Enc.cells v = [.str v.core.kind, .bool v.core.on, .bool v.core.broken, encS v.core.cells, .int .i64 v.core.count, encS v.layers] := rfl
theorem eq_Part (v u : Part) : v = u ↔ v.core = u.core ∧ v.layers = u.layers := ⟨fun h => by subst h; simp, fun h => by cases v; cases u; simp_all⟩
theorem ty_Part (v : Part) : RowTy tbl.tab [.str, .bool, .bool, .sl 125, .int .i64, .sl 52] (Enc.cells v) := ⟨trivial, trivial, trivial, ty_CellS _, rfl, ty_LayerS _, trivial⟩
theorem nth_mem {α : Type} [Inhabited α] {l : List α} {k : Nat} (h : k < l.length) : nth l k ∈ l := by
 simp [nth, List.getD, List.getElem?_eq_getElem h]
theorem ext_nth {α : Type} [Inhabited α] {l l' : List α} (hl : l.length = l'.length) (h : ∀ i, i < l.length → nth l i = nth l' i) : l = l' := by
 refine List.ext_getElem hl fun i h1 h2 => ?_
 have := h i h1
 simpa [nth, List.getD, List.getElem?_eq_getElem h1, List.getElem?_eq_getElem h2] using this
def allTo (p : Nat → Bool) : Nat → Bool
 | 0 => true
 | n + 1 => allTo p n && p n
theorem allTo_iff {p : Nat → Bool} : ∀ {n : Nat}, allTo p n = true ↔ ∀ i, i < n → p i = true
 | 0 => by simp [allTo]
 | n + 1 => by
  simp only [allTo, Bool.and_eq_true, allTo_iff]
  exact ⟨fun ⟨h1, h2⟩ i hi => by
   by_cases e : i = n
   ·subst e; exact h2
   ·exact h1 i (by omega), fun h => ⟨fun i hi => h i (by omega), h n (by omega)⟩⟩
theorem allTo_bad {p : Nat → Bool} {n k : Nat} (hk : k < n) (h : p k = false) : allTo p n = false := by
 rcases hb : allTo p n with _ | _
 ·rfl
 ·have := allTo_iff.1 hb k hk; rw [h] at this; cases this
end Go.Proofs.YtbgcaneflfdddaaGreatDoor
/- Versions. -/
namespace Go.Proofs.YtbgcaneflfdddaaGreatDoor
open Go.RowKit Go
variable [GC]
end Go.Proofs.YtbgcaneflfdddaaGreatDoor
/- Plain functions on versions. No program in sight. -/
namespace Go.Proofs.YtbgcaneflfdddaaGreatDoor
def isFaceB (f : Int) : Bool := decide (0 ≤ f) && decide (f ≤ 63)
theorem isFaceB_nat {f : Int} (h : isFaceB f = true) : ∃ n : Nat, f = n ∧ n < 64 := by
 unfold isFaceB at h; simp at h; exact ⟨f.toNat, by omega, by omega⟩
def cmpV (a b c d : Int) : Int := if a < c ∨ (a = c ∧ b < d) then -1 else if a = c ∧ b = d then 0 else 1
def sinceM : Nat → Int | 0 => 1 | 1 => 1 | 2 => 1 | 3 => 1 | 4 => 2 | 5 => 2 | _ => 0
def sinceN : Nat → Int | 0 => 0 | 1 => 0 | 2 => 1 | 3 => 2 | 4 => 0 | 5 => 1 | _ => 0
def allows (a b : Int) (k : Nat) : Bool := decide (cmpV (sinceM k) (sinceN k) a b ≤ 0)
end Go.Proofs.YtbgcaneflfdddaaGreatDoor
/- Plain functions on faces. No program in sight. -/
namespace Go.Proofs.YtbgcaneflfdddaaGreatDoor
end Go.Proofs.YtbgcaneflfdddaaGreatDoor
/- Faces and versions: what the program and the reference compute. -/
namespace Go.Proofs.YtbgcaneflfdddaaGreatDoor
open Go.RowKit Go
variable [GC]
theorem c_impl_IsFace (f : Int) : Fun Tryz.prog 69 none [.int .i64 f] (.bool (isFaceB f)) [] := by
 refine Fun.ofV vc_impl_IsFace_ok ty_impl_IsFace_ok rfl ?_ (fun hfit => ?_)
 ·simp [ty_impl_IsFace, HasTys, HasVT, HasV1, HasTy]
 simp only [vc_impl_IsFace, VC.den, E.den, dEq, gsH_nil, and_true]
 simp [cmpI, isFaceB]
theorem allow_shl : ∀ k : Fin 6, arI .shl .i64 1 ((k : Nat) : Int) = ((2 ^ (k : Nat) : Nat) : Int) := by decide +kernel
theorem bit_of2 : ∀ n : Fin 64, ∀ k : Fin 6, cmpI .eql (arI .rem .i64 (arI .shr .i64 ((n : Nat) : Int) ((k : Nat) : Int)) 2) 1 = n.val.testBit k.val := by decide +kernel
end Go.Proofs.YtbgcaneflfdddaaGreatDoor
/- General lemmas on worlds, cells and results, used by all walks of this seat. Nothing is assumed. -/
namespace Go.Proofs.YtbgcaneflfdddaaGreatDoor
open Go.RowKit
theorem bcell {B : Nat} {W w1 : World} (hb : Below B W w1) : (∀ b o, b < B → w1.cell? ⟨b, o, none⟩ = W.cell? ⟨b, o, none⟩) ∧ (∀ b o, b < B → w1.frozen? ⟨b, o, none⟩ = W.frozen? ⟨b, o, none⟩) :=
 ⟨fun b o h => hb.cell (p := ⟨b, o, none⟩) h, fun b o h => hb.frozen (p := ⟨b, o, none⟩) h⟩
theorem cell_keep {w w1 : World} {p : Addr} {v : Value} (hb : Below w.heap.size w w1) (h : w.cell? p = some v) : w1.cell? p = some v := by
 rw [hb.cell (block_lt_of_cell h)]; exact h
theorem bt {w a b : World} (h : Below w.heap.size w a) (k : Below a.heap.size a b) : Below w.heap.size w b := h.trans (k.mono h.size)
def RBlk (w : World) (g : Nat) (t : TypeId) (cs : Array Value) : Prop := w.heap[g]? = some (.cells cs t (0, 0))
section
variable {w w' : World} {g : Nat} {t : TypeId} {cs : Array Value}
theorem RBlk.lt (h : RBlk w g t cs) : g < w.heap.size := by
 rcases Nat.lt_or_ge g w.heap.size with hlt | hge
 ·exact hlt
 ·unfold RBlk at h; rw [Array.getElem?_eq_none hge] at h; cases h
theorem RBlk.cell (h : RBlk w g t cs) (i : Nat) : w.cell? ⟨g, i, none⟩ = cs[i]? := cell_of_row w g i cs t (0, 0) h
theorem RBlk.frozen (h : RBlk w g t cs) (i : Nat) : w.frozen? ⟨g, i, none⟩ = false := by
 unfold RBlk at h
 simp [World.frozen?, h]
theorem RBlk.new (w : World) (t : TypeId) (cs : Array Value) : RBlk (w.alloc (.cells cs t)) w.heap.size t cs := heap_alloc_new w _
theorem RBlk.alloc (h : RBlk w g t cs) (o : Obj) : RBlk (w.alloc o) g t cs := (Below.heap_alloc w o g h.lt).trans h
theorem RBlk.set_ (h : RBlk w g t cs) (i : Nat) (u : Value) : RBlk (w.setCell ⟨g, i, none⟩ u) g t (cs.setIfInBounds i u) := by
 unfold RBlk at h ⊢
 simp [World.setCell, Array.getElem?_modify, h]
theorem RBlk.far (h : RBlk w g t cs) {p : Addr} (hp : g ≠ p.block) (u : Value) : RBlk (w.setCell p u) g t cs := (Below.heap_setCell w p u g hp).trans h
theorem RBlk.below {B : Nat} (h : RBlk w g t cs) (hb : Below B w w') (hg : g < B) : RBlk w' g t cs := (hb.block g hg).trans h
end
theorem results_blk {P : Program} {fn : Func} {p : Tmp} {ty : TypeId} (h : fn.results = #[.cell p ty]) (tmps : Array Value) (w : World) {g : Nat} {t : TypeId} {cs : Array Value} (d : TypeDesc)
  (hp : tmps.getD p undef = .pointer (some ⟨g, 0, none⟩)) (hg : RBlk w g t cs) (hu : P.underlying ty = some d) (hd : (match d with | .struct _ | .array _ _ => true | _ => false) = true) (hi : (P.info? ty).map (·.size) = some cs.size) :
  (results fn tmps).run P w = .ok (.agg cs) w := results_cell_row h tmps w g t cs (0, 0) d hp hg hu hd hi
theorem ofInt_i64 (a : Nat) (ha : a < 9223372036854775808) : (BitVec.ofInt 64 (a : Int)).toNat = a := by
 rw [BitVec.ofInt_natCast, BitVec.toNat_ofNat]; exact Nat.mod_eq_of_lt (by omega)
theorem i64_and_nat (a b : Nat) (ha : a < 9223372036854775808) (hb : b < 9223372036854775808) : bits .and .i64 (a : Int) (b : Int) = ((a &&& b : Nat) : Int) := by
 have hx : a &&& b < 2 ^ 63 := Nat.and_lt_two_pow _ (by omega)
 show IntKind.i64.wrap ((BitVec.ofInt 64 (a : Int) &&& BitVec.ofInt 64 (b : Int)).toNat : Int) = _
 rw [BitVec.toNat_and, ofInt_i64 a ha, ofInt_i64 b hb, IntKind.wrap_i64]
 omega
end Go.Proofs.YtbgcaneflfdddaaGreatDoor
/- The reference's cursor: how it is made. -/
namespace Go.Proofs.YtbgcaneflfdddaaGreatDoor
open Go.RowKit
variable [GC]
def byteAt (rows : List (List D)) (k : Nat) : Int := match rows[k]? with
 | some [.int _ n] => n
 | _ => 0
def seedStep (h c : Int) : Int := bits .and .i64 (wrap64 (wrap64 (wrap64 (h * 167) + c) + 29)) 1073741823
def seedTo (rows : List (List D)) : Nat → Int
 | 0 => wrap64 (739391 + wrap64 (3 * rows.length))
 | k + 1 => seedStep (seedTo rows k) (byteAt rows k)
theorem l1New_walk (rows : List (List D)) (hty : ∀ r ∈ rows, ∃ n, r = [.int .u8 n]) (a : Option Addr) (cap : Nat) (w : World) (hl : rows.length ≤ maxLen) (hr : ∀ k, k < rows.length → ∃ b o, a = some ⟨b, o, none⟩ ∧ w.cell? ⟨b, o + k, none⟩ = some (.int .u8 (byteAt rows k)) ∧ 0 ≤ byteAt rows k ∧ byteAt rows k ≤ 255) :
  Calls Tryz.prog 50 #[.slice a rows.length cap] w fun e w' => ∃ h : Int, ∃ n : Nat, n = min rows.length 4000 ∧ h = seedTo rows n ∧ e = .returned (.pointer (some ⟨w.heap.size, 0, none⟩)) ∧ w'.heap[w.heap.size]? = some (.cells #[.slice a rows.length cap, .int .i64 0, .int .i64 h] 107 (0, 0)) ∧ Below w.heap.size w w' := by
 go_enter Tryz.func50, Tryz.ntmps50
 go_wp2_with fail
 go_loop [3, 4] (fun h i => ∃ k : Nat, k ≤ rows.length ∧ k ≤ 4000 ∧ i = .int .i64 k ∧ h = .int .i64 (seedTo rows k)) (fun _ i => 4001 - (intOf i).toNat)
 case atStart => exact ⟨0, by omega, by omega, rfl, rfl⟩
 case round =>
  obtain ⟨k, hk, hk', rfl, rfl⟩ := hrel
  by_cases hlt : k < rows.length
  ·obtain ⟨b, o, rfl, hc, hb⟩ := hr k hlt
   by_cases h4 : k < 4000
   ·go_wp2
    exact ⟨⟨k + 1, by omega, by omega, by simp, rfl⟩, by simp [intOf]; omega⟩
   ·obtain rfl : k = 4000 := by omega
    go_wp2
    go_ret
    refine ⟨rfl, ?_, by go_grown⟩
    exact heap_alloc_new _ _
  ·obtain rfl : k = rows.length := by omega
   go_wp2
   go_ret
   refine ⟨rfl, ?_, by go_grown⟩
   exact heap_alloc_new _ _
theorem seedTo_in (rows : List (List D)) : ∀ n, IntKind.i64.min ≤ seedTo rows n ∧ seedTo rows n ≤ IntKind.i64.max
 | 0 => by
  have e : IntKind.i64.min = -9223372036854775808 ∧ IntKind.i64.max = 9223372036854775807 := by decide
  rw [e.1, e.2]; unfold seedTo wrap64; omega
 | n + 1 => by
  show IntKind.i64.min ≤ IntKind.i64.wrap _ ∧ IntKind.i64.wrap _ ≤ IntKind.i64.max
  exact wrap_within _ _
theorem c_spec_l1New (rows : List (List D)) (hty : ∀ r ∈ rows, ∃ n, r = [.int .u8 n]) : FunN Tryz.prog 50 [.sl rows] [.sl rows, .int .i64 0, .int .i64 (seedTo rows (min rows.length 4000))] := by
 refine ⟨by kernel_rfl, fun w M vs hM0 hr => ?_⟩
 have hM := hM0.1
 obtain ⟨v, q, rfl, hv, rfl⟩ := hr
 have hv' := hv
 obtain ⟨a, len, cap, rfl, hlen, hlc, hcm, hnone, hcells⟩ := hv
 subst hlen
 refine (l1New_walk rows hty a cap w (by omega) fun k hk => ?_).mono ?_
 ·rcases a with _ | ⟨b, o, s⟩
  ·have := hnone rfl; omega
  ·obtain ⟨hs, hrw⟩ := hcells b o s rfl
   have hs := hs (by omega); subst hs
   have hk' : rows[k]? = some rows[k] := List.getElem?_eq_getElem hk
   obtain ⟨n, hn⟩ := hty rows[k] (List.getElem_mem hk)
   have hg := hrw.get (n := 1) (fun r hr => by obtain ⟨m, rfl⟩ := hty r hr; rfl) hk'
   rw [hn] at hg
   obtain ⟨⟨u, h1, _, h2, h3⟩, _⟩ := hg
   subst h2
   have hb : byteAt rows k = n := by unfold byteAt; rw [hk', hn]
   rw [hb]
   refine ⟨b, o, rfl, by simpa using h1, ?_⟩
   have e : IntKind.u8.min = 0 ∧ IntKind.u8.max = 255 := by decide
   rw [e.1, e.2] at h3; exact h3
 ·rintro e w' ⟨h, n, rfl, rfl, rfl, hblk, hb⟩
  refine ⟨w.heap.size, _, _, rfl, Nat.le_refl _, hblk, ?_, hb⟩
  refine ⟨_, _, rfl, R.keep (Keeps.below hb fun p hp h => ?_) _ _ hv', _, _, rfl, ⟨rfl, by decide⟩, _, _, rfl, ⟨rfl, seedTo_in _ _⟩, rfl⟩
  rcases h with h | h
  ·exact h
  ·omega
end Go.Proofs.YtbgcaneflfdddaaGreatDoor
/- What the reference draws: each draw ends, and what its answer is like. -/
namespace Go.Proofs.YtbgcaneflfdddaaGreatDoor
open Go.RowKit Go
variable [GC]
def curTy : List CT := [.sl 5, .int .i64, .int .i64]
theorem tab_u8 : tbl.tab 5 = [.int .u8] := by kernel_rfl
def Cur (cs : List D) : Prop := ∃ rows i h, cs = [.sl rows, .int .i64 i, .int .i64 h] ∧ RowsTy tbl.tab [.int .u8] rows ∧ 0 ≤ i
theorem Cur.ty {cs : List D} (h : Cur cs) : RowTy tbl.tab curTy cs := by
 obtain ⟨rows, i, h, rfl, h1, _⟩ := h
 refine ⟨?_, rfl, rfl, trivial⟩
 show RowsTy _ (tbl.tab _) _
 rw [tab_u8]; exact h1
def Dr (f : FuncId) (xs : List D) (T : D → Prop) : Prop := ∀ cs, Cur cs → ∃ r cs', T r ∧ Cur cs' ∧ Fun Tryz.prog f (some cs) xs r cs'
theorem Dr.of {f : FuncId} {V : VC} {Γ : List VT} {xs : List D} {T : D → Prop} (hV : vcOf Tryz.prog tbl rbt f (some curTy) = V) (hok : V.ok = true) (hΓ : tyOf Tryz.prog tbl f (some curTy) = Γ)
  (hty : ∀ cs, RowTy tbl.tab curTy cs → HasTys tbl.tab Γ (xs ++ cs)) (r0 : D) (hT : T r0)
  (hden : ∀ rows i h, FitsL xs → (rows.length : Int) ≤ 9223372036854775807 → RowsTy tbl.tab [.int .u8] rows → 0 ≤ i → V.den Tryz.prog tbl.tab (xs ++ [.sl rows, .int .i64 i, .int .i64 h]) (fun d bs => T d ∧ Cur bs) []) : Dr f xs T := by
 intro cs hc
 have hc' := hc
 obtain ⟨rows, i, h, rfl, h1, h2⟩ := hc
 obtain ⟨⟨r, cs'⟩, ⟨q1, q2⟩, q3⟩ := Fun.ex (T := fun d bs => T d ∧ Cur bs) (r0 := (r0, [.sl rows, .int .i64 i, .int .i64 h])) hV hok hΓ tbl_ok mo ⟨hT, hc'⟩ (bc := some [.sl rows, .int .i64 i, .int .i64 h]) (ds := xs) rfl (hty _ hc'.ty) (fun h => by cases h)
  (fun f1 f2 => hden rows i h f1 (by simp [FitsL, Fits, maxLen] at f2; omega) h1 h2)
 exact ⟨r, cs', q1, q2, q3⟩
def DrR (f : FuncId) (xs : List D) (T : D → Prop) (rt : List (Nat × Nat)) : Prop := ∀ cs, Cur cs → ∃ r cs', T r ∧ Cur cs' ∧ FunR Tryz.prog f (some cs) xs r cs' rt
theorem Dr.ofR {f : FuncId} {xs : List D} {T : D → Prop} {rt : List (Nat × Nat)} (h : DrR f xs T rt) : Dr f xs T := fun cs hc => by
 obtain ⟨r, cs', h1, h2, h3⟩ := h cs hc
 exact ⟨r, cs', h1, h2, .ofR h3⟩
theorem DrR.of {f : FuncId} {V : VC} {Γ : List VT} {xs : List D} {T : D → Prop} {rt : List (Nat × Nat)} (hV : vcOf Tryz.prog tbl rbt f (some curTy) = V) (hrt : rbt.get f = rt) (hok : V.ok = true) (hΓ : tyOf Tryz.prog tbl f (some curTy) = Γ)
  (hty : ∀ cs, RowTy tbl.tab curTy cs → HasTys tbl.tab Γ (xs ++ cs)) (r0 : D) (hT : T r0)
  (hden : ∀ rows i h, FitsL xs → (rows.length : Int) ≤ 9223372036854775807 → RowsTy tbl.tab [.int .u8] rows → 0 ≤ i → V.den Tryz.prog tbl.tab (xs ++ [.sl rows, .int .i64 i, .int .i64 h]) (fun d bs => T d ∧ Cur bs) []) : DrR f xs T rt := by
 intro cs hc
 have hc' := hc
 obtain ⟨rows, i, h, rfl, h1, h2⟩ := hc
 obtain ⟨⟨r, cs'⟩, ⟨q1, q2⟩, q3⟩ := FunR.ex (T := fun d bs => T d ∧ Cur bs) (r0 := (r0, [.sl rows, .int .i64 i, .int .i64 h])) hV hok hΓ tbl_ok mo ⟨hT, hc'⟩ (bc := some [.sl rows, .int .i64 i, .int .i64 h]) (ds := xs) rfl (hty _ hc'.ty) (fun h => by cases h)
  (fun f1 f2 => hden rows i h f1 (by simp [FitsL, Fits, maxLen] at f2; omega) h1 h2)
 exact ⟨r, cs', q1, q2, hrt ▸ q3⟩
theorem den_drawR {env : List D} {Q : D → List D → Prop} {L : List (List D → Prop)} {f : FuncId} {bx args : List E} {vt : VT} {k : VC} {xs cs : List D} {T : D → Prop} {rt : List (Nat × Nat)}
  (hb : bx.map (·.den env) = cs) (ha : args.map (·.den env) = xs) (hc : Cur cs) (hD : DrR f xs T rt) (hT : ∀ r, T r → HasVT tbl.tab vt r)
  (hk : ∀ r rows i h, T r → RowsTy tbl.tab [.int .u8] rows → 0 ≤ i → k.den Tryz.prog tbl.tab (env ++ [r, .sl rows, .int .i64 i, .int .i64 h]) Q L) : (VC.rq (.callR f (some bx) args vt curTy rt) k).den Tryz.prog tbl.tab env Q L := by
 obtain ⟨r, cs', q1, q2, q3⟩ := hD cs hc
 have hty := q2.ty
 obtain ⟨rows, i, h, rfl, h1, h2⟩ := q2
 exact ⟨r, _, hT r q1, hty, by rw [← hb, ← ha] at q3; exact q3, hk r rows i h q1 h1 h2⟩
theorem den_draw {env : List D} {Q : D → List D → Prop} {L : List (List D → Prop)} {gs : Gd} {f : FuncId} {bx args : List E} {vt : VT} {k : VC} {xs cs : List D} {T : D → Prop}
  (hb : bx.map (·.den env) = cs) (ha : args.map (·.den env) = xs) (hc : Cur cs) (hD : Dr f xs T) (hT : ∀ r, T r → HasVT tbl.tab vt r)
  (hk : ∀ r rows i h, T r → RowsTy tbl.tab [.int .u8] rows → 0 ≤ i → k.den Tryz.prog tbl.tab (env ++ [r, .sl rows, .int .i64 i, .int .i64 h]) Q L) : (VC.rq (.call gs f (some bx) args vt curTy) k).den Tryz.prog tbl.tab env Q L := by
 obtain ⟨r, cs', q1, q2, q3⟩ := hD cs hc
 have hty := q2.ty
 obtain ⟨rows, i, h, rfl, h1, h2⟩ := q2
 exact ⟨r, _, hT r q1, hty, fun _ => by rw [← hb, ← ha] at q3; exact q3, hk r rows i h q1 h1 h2⟩
def isI (r : D) : Prop := ∃ x, r = .int .i64 x
theorem and255 (x : Int) : 0 ≤ arI .and .i64 x 255 ∧ arI .and .i64 x 255 ≤ 255 := by
 have h : ((BitVec.ofInt 64 x &&& BitVec.ofInt 64 255).toNat : Int) ≤ 255 := by
  rw [BitVec.toNat_and]
  have : (BitVec.ofInt 64 x).toNat &&& (BitVec.ofInt 64 255).toNat ≤ (BitVec.ofInt 64 255).toNat := Nat.and_le_right
  have e : (BitVec.ofInt 64 255).toNat = 255 := by decide
  omega
 show 0 ≤ IntKind.i64.wrap ((BitVec.ofInt 64 x &&& BitVec.ofInt 64 255).toNat : Int) ∧ IntKind.i64.wrap ((BitVec.ofInt 64 x &&& BitVec.ofInt 64 255).toNat : Int) ≤ 255
 rw [wrap_i64 (by omega) (by omega)]; omega
theorem d_l1Byte : Dr 90 [] (fun r => ∃ x, r = .int .i64 x ∧ 0 ≤ x ∧ x ≤ 255) := by
 refine Dr.of vc_spec_l1Byte_ok rfl ty_spec_l1Byte_ok (fun cs h => ?_) (.int .i64 0) ⟨0, rfl, by omega, by omega⟩ fun rows i h f1 hl hr hi => ?_
 ·obtain ⟨rows, i, h, rfl, h1⟩ : ∃ a b c, cs = [a, b, c] ∧ RowTy tbl.tab curTy [a, b, c] := by
   match cs, h with | [a, b, c], h => exact ⟨a, b, c, rfl, h⟩
  exact ⟨h1.1, h1.2.1, h1.2.2.1, trivial⟩
 unfold vc_spec_l1Byte
 refine den_cond (fun _ => rfl) (den_cond (fun _ => rfl) (den_ite (fun h => ?_) (fun h => ?_)))
 ·simp [E.den, cmpI, lenD] at h
  refine den_cond (fun _ => ?_) ?_
  ·simp [E.den, lenD]; omega
  ·refine ⟨⟨_, rfl, and255 _⟩, rows, _, _, rfl, hr, ?_⟩
   simp only [E.den, List.getD_cons_zero, List.getD_cons_succ, List.nil_append, D.toI_int]
   rw [ar_add (by omega) (by omega)]; omega
 ·exact ⟨⟨_, rfl, and255 _⟩, rows, _, _, rfl, hr, hi⟩
theorem cur_tys {cs : List D} (h : RowTy tbl.tab curTy cs) : HasTys tbl.tab [.one (.c (.sl 5)), .one (.c (.int .i64)), .one (.c (.int .i64))] cs := by
 match cs, h with | [a, b, c], h => exact ⟨h.1, h.2.1, h.2.2.1, trivial⟩
def isB (r : D) : Prop := ∃ b, r = .bool b
def isBel (n : Int) (r : D) : Prop := ∃ x, r = .int .i64 x ∧ 0 ≤ x ∧ (0 < n → x < n)
theorem isI.ty {r : D} (h : isI r) : HasVT tbl.tab (.one (.c (.int .i64))) r := by obtain ⟨x, rfl⟩ := h; rfl
theorem isB.ty {r : D} (h : isB r) : HasVT tbl.tab (.one (.c .bool)) r := by obtain ⟨x, rfl⟩ := h; trivial
theorem isBel.ty {n : Int} {r : D} (h : isBel n r) : HasVT tbl.tab (.one (.c (.int .i64))) r := by obtain ⟨x, rfl, _⟩ := h; rfl
theorem byte_ty {r : D} (h : ∃ x, r = .int .i64 x ∧ 0 ≤ x ∧ x ≤ 255) : HasVT tbl.tab (.one (.c (.int .i64))) r := by obtain ⟨x, rfl, _⟩ := h; rfl
theorem rem_in {x n : Int} (hx : 0 ≤ x) (hn : 0 < n) : 0 ≤ arI .rem .i64 x n ∧ arI .rem .i64 x n < n := ⟨Int.tmod_nonneg _ hx, Int.tmod_lt_of_pos _ hn⟩
theorem ar_mul {x y : Int} (h1 : -9223372036854775808 ≤ x * y) (h2 : x * y ≤ 9223372036854775807) : arI .mul .i64 x y = x * y := wrap_i64 h1 h2
theorem d_l1Below (n : Int) : Dr 52 [.int .i64 n] (isBel n) := by
 refine Dr.of vc_spec_l1Below_ok rfl ty_spec_l1Below_ok (fun cs h => by exact ⟨rfl, cur_tys h⟩) (.int .i64 0) ⟨0, rfl, by omega, fun h => h⟩ fun rows i sd f1 hl hr hi => ?_; (simp only [cA]); unfold vc_spec_l1Below
 refine den_ite (fun h => ?_) (fun h => ?_)
 ·simp [E.den, cmpI] at h
  exact ⟨⟨_, rfl, by omega, by omega⟩, _, _, _, rfl, hr, hi⟩
 simp [E.den, cmpI] at h
 refine den_ite (fun h2 => ?_) (fun h2 => ?_)
 ·((first | apply den_draw | apply den_drawR); (iterate 2 (focus (simp only [VC.den, E.den, dEq, gsH_nil, and_true]; try exact rfl))); (focus (exact ⟨_, _, _, rfl, by assumption, by assumption⟩)); (focus (first | exact d_l1Byte | exact Dr.ofR (d_l1Byte))); (focus (exact fun _ h => byte_ty h)); rintro _ rows i sd ⟨x, rfl, hx⟩ hr hi; (simp only [cA]))
  refine den_cond (fun _ => ?_) ?_
  ·simp [E.den, cmpI]; omega
  exact ⟨⟨_, rfl, (rem_in hx.1 h).1, fun _ => (rem_in hx.1 h).2⟩, _, _, _, rfl, hr, hi⟩
 ·((first | apply den_draw | apply den_drawR); (iterate 2 (focus (simp only [VC.den, E.den, dEq, gsH_nil, and_true]; try exact rfl))); (focus (exact ⟨_, _, _, rfl, by assumption, by assumption⟩)); (focus (first | exact d_l1Byte | exact Dr.ofR (d_l1Byte))); (focus (exact fun _ h => byte_ty h)); rintro _ rows i sd ⟨x, rfl, hx⟩ hr hi; (simp only [cA]))
  ((first | apply den_draw | apply den_drawR); (iterate 2 (focus (simp only [VC.den, E.den, dEq, gsH_nil, and_true]; try exact rfl))); (focus (exact ⟨_, _, _, rfl, by assumption, by assumption⟩)); (focus (first | exact d_l1Byte | exact Dr.ofR (d_l1Byte))); (focus (exact fun _ h => byte_ty h)); rintro _ rows i sd ⟨y, rfl, hy⟩ hr hi; (simp only [cA]))
  ((first | apply den_draw | apply den_drawR); (iterate 2 (focus (simp only [VC.den, E.den, dEq, gsH_nil, and_true]; try exact rfl))); (focus (exact ⟨_, _, _, rfl, by assumption, by assumption⟩)); (focus (first | exact d_l1Byte | exact Dr.ofR (d_l1Byte))); (focus (exact fun _ h => byte_ty h)); rintro _ rows i sd ⟨z, rfl, hz⟩ hr hi; (simp only [cA]))
  refine den_cond (fun _ => ?_) ?_
  ·simp [E.den, cmpI]; omega
  have e : arI .add .i64 (arI .add .i64 (arI .mul .i64 x 65536) (arI .mul .i64 y 256)) z = x * 65536 + y * 256 + z := by
   rw [ar_mul (x := x) (by omega) (by omega), ar_mul (x := y) (by omega) (by omega), ar_add (x := x * 65536) (y := y * 256) (by omega) (by omega), ar_add (by omega) (by omega)]
  have h0 := rem_in (x := arI .add .i64 (arI .add .i64 (arI .mul .i64 x 65536) (arI .mul .i64 y 256)) z) (n := n) (by rw [e]; omega) h
  exact ⟨⟨_, rfl, h0.1, fun _ => h0.2⟩, _, _, _, rfl, hr, hi⟩
theorem d_l1Once (n : Int) : Dr 89 [.int .i64 n] isB := by
 refine Dr.of vc_spec_l1Once_ok rfl ty_spec_l1Once_ok (fun cs h => by exact ⟨rfl, cur_tys h⟩) (.bool false) ⟨_, rfl⟩ fun rows i sd f1 hl hr hi => ?_; (simp only [cA]); unfold vc_spec_l1Once
 ((first | apply den_draw | apply den_drawR); (iterate 2 (focus (simp only [VC.den, E.den, dEq, gsH_nil, and_true]; try exact rfl))); (focus (exact ⟨_, _, _, rfl, by assumption, by assumption⟩)); (focus (first | exact d_l1Below _ | exact Dr.ofR (d_l1Below _))); (focus (exact fun _ h => isBel.ty h)); rintro _ rows i sd ⟨x, rfl, hx⟩ hr hi; (simp only [cA]))
 exact ⟨⟨_, rfl⟩, _, _, _, rfl, hr, hi⟩
def intS (l : List Int) : D := .sl (l.map fun n => [.int .i64 n])
theorem tab_int : tbl.tab 3 = [.int .i64] := by kernel_rfl
theorem intS_ty (l : List Int) : HasVT tbl.tab (.one (.c (.sl 3))) (intS l) := by
 show RowsTy _ (tbl.tab _) _
 rw [tab_int]
 exact RowsTy.of fun r hr => by obtain ⟨n, _, rfl⟩ := List.mem_map.1 hr; exact ⟨rfl, trivial⟩
theorem d_l1Int (l : List Int) (h0 : 0 < l.length) : Dr 132 [intS l] isI := by
 refine Dr.of vc_spec_l1Int_ok rfl ty_spec_l1Int_ok (fun cs h => by exact ⟨intS_ty l, cur_tys h⟩) (.int .i64 0) ⟨_, rfl⟩ fun rows i sd f1 hl hr hi => ?_; (simp only [cA]); unfold vc_spec_l1Int
 have hn : (l.length : Int) ≤ 9223372036854775807 := by
  simp [FitsL, Fits, intS, maxLen] at f1; omega
 have hB : Dr 52 [.int .i64 (lenD (intS l))] (isBel l.length) := by
  have := d_l1Below l.length
  simpa [intS, lenD] using this
 ((first | apply den_draw | apply den_drawR); (iterate 2 (focus (simp only [VC.den, E.den, dEq, gsH_nil, and_true]; try exact rfl))); (focus (exact ⟨_, _, _, rfl, by assumption, by assumption⟩)); (focus (first | exact hB | exact Dr.ofR (hB))); (focus (exact fun _ h => isBel.ty h)); rintro _ rows i sd ⟨x, rfl, hx⟩ hr hi; (simp only [cA]))
 refine den_cond (fun _ => ?_) ?_
 ·simp [E.den, intS, lenD]; omega
 have hx2 := hx.2 (by omega)
 have e : l[x.toNat]? = some l[x.toNat] := List.getElem?_eq_getElem (by omega)
 refine ⟨⟨l[x.toNat], ?_⟩, _, _, _, rfl, hr, hi⟩
 simp [E.den, intS, e]
theorem d_l1Odd : Dr 103 [] isI := by
 refine Dr.of vc_spec_l1Odd_ok rfl ty_spec_l1Odd_ok (fun cs h => by exact cur_tys h) (.int .i64 0) ⟨_, rfl⟩ fun rows i sd f1 hl hr hi => ?_; (simp only [cA]); unfold vc_spec_l1Odd
 ((first | apply den_draw | apply den_drawR); (iterate 2 (focus (simp only [VC.den, E.den, dEq, gsH_nil, and_true]; try exact rfl))); (focus (exact ⟨_, _, _, rfl, by assumption, by assumption⟩)); (focus (first | exact d_l1Int [-1, 0, 1, 2, 3, 4, 5, 6, 7, 63, 64, 99, 100, 999, 1000, 9223372036854775807, -9223372036854775808] (by decide) | exact Dr.ofR (d_l1Int [-1, 0, 1, 2, 3, 4, 5, 6, 7, 63, 64, 99, 100, 999, 1000, 9223372036854775807, -9223372036854775808] (by decide)))); (focus (exact fun _ h => isI.ty h)); rintro _ rows i sd ⟨x, rfl⟩ hr hi; (simp only [cA]))
 exact ⟨⟨_, rfl⟩, _, _, _, rfl, hr, hi⟩
theorem rows_u8 {rows : List (List D)} (h : RowsTy tbl.tab [.int .u8] rows) : ∀ r ∈ rows, ∃ n, r = [.int .u8 n] := by
 intro r hr
 have := h.mem r hr
 match r, this with
 | [d], this => obtain ⟨n, rfl⟩ := hasTy_int this.1; exact ⟨n, rfl⟩
theorem den_newc {env : List D} {Q : D → List D → Prop} {L : List (List D → Prop)} {args : List E} {k : VC} {rows : List (List D)} (ha : args.map (·.den env) = [.sl rows]) (hr : RowsTy tbl.tab [.int .u8] rows)
  (hk : ∀ sd, k.den Tryz.prog tbl.tab (env ++ [.sl rows, .int .i64 0, .int .i64 sd]) Q L) : (VC.rq (.new 50 args curTy) k).den Tryz.prog tbl.tab env Q L :=
 ⟨_, Cur.ty ⟨rows, 0, _, rfl, hr, Int.le_refl _⟩, by rw [ha]; exact c_spec_l1New rows (rows_u8 hr), hk _⟩
end Go.Proofs.YtbgcaneflfdddaaGreatDoor
/- SinceOf of the program and of the reference. Nothing is assumed but what each theorem says. -/
namespace Go.Proofs.YtbgcaneflfdddaaGreatDoor
open Go.RowKit
end Go.Proofs.YtbgcaneflfdddaaGreatDoor
/- What faces a version allows: the program's and the reference's functions. -/
namespace Go.Proofs.YtbgcaneflfdddaaGreatDoor
open Go.RowKit Go
variable [GC]
theorem c_spec_l2Has (m k : Nat) (hm : m < 64) (hk : k < 6) : Fun Tryz.prog 100 none [.int .i64 m, .int .i64 k] (.bool (m.testBit k)) [] := by
 refine Fun.ofV vc_spec_l2Has_ok ty_spec_l2Has_ok rfl ?_ (fun hfit => ?_)
 ·simp [ty_spec_l2Has, HasTys, HasVT, HasV1, HasTy]
 unfold vc_spec_l2Has
 refine den_cond (fun _ => ?_) (den_cond (fun _ => rfl) (den_ret ?_))
 ·simp [E.den, cmpI]
 have hb := bit_of2 ⟨m, hm⟩ ⟨k, hk⟩
 simp only at hb
 simp only [E.den, List.getD_cons_zero, List.getD_cons_succ, D.toI_int, hb]
theorem c_spec_IsFace' (f : Int) : Fun Tryz.prog 99 none [.int .i64 f] (.bool (isFaceB f)) [] := by
 refine Fun.ofV vc_spec_IsFace_ok ty_spec_IsFace_ok rfl ?_ (fun hfit => ?_)
 ·simp [ty_spec_IsFace, HasTys, HasVT, HasV1, HasTy]
 simp only [vc_spec_IsFace, VC.den, E.den, dEq, gsH_nil, and_true]
 simp [cmpI, isFaceB]
def offersB (a b : Int) : Bool := isFaceB a && isFaceB b && cmpI .eql (arI .andNot .i64 b a) 0
theorem c_impl_Offers (a b : Int) : Fun Tryz.prog 24 none [.int .i64 a, .int .i64 b] (.bool (offersB a b)) [] := by
 refine Fun.ofV vc_impl_Offers_ok ty_impl_Offers_ok rfl ?_ (fun hfit => ?_)
 ·simp [ty_impl_Offers, HasTys, HasVT, HasV1, HasTy]
 unfold vc_impl_Offers
 (apply den_call; (focus (simp only [VC.den, E.den, dEq, gsH_nil, and_true]; try exact rfl)); (focus (exact c_impl_IsFace a)); (focus (simp [HasTys, HasVT, HasV1, HasTy, RowTy, HasVs, enc])); (simp only [cA]))
 (apply den_call; (focus (simp only [VC.den, E.den, dEq, gsH_nil, and_true]; try exact rfl)); (focus (exact c_impl_IsFace b)); (focus (simp [HasTys, HasVT, HasV1, HasTy, RowTy, HasVs, enc])); (simp only [cA]))
 exact den_ret rfl
theorem c_laws_big (rows : List (List D)) (hr : RowsTy tbl.tab (tbl.tab 5) rows) : Fun Tryz.prog 14 none [.sl rows] (.bool (decide ((rows.length : Int) > 4096))) [] := by
 refine Fun.ofV vc_laws_big_ok ty_laws_big_ok rfl ?_ (fun hfit => ?_)
 ·exact ⟨hr, trivial⟩
 exact den_ret rfl
end Go.Proofs.YtbgcaneflfdddaaGreatDoor
/- Names, kinds, faces: what the program and the reference compute. -/
namespace Go.Proofs.YtbgcaneflfdddaaGreatDoor
open Go.RowKit Go
variable [GC]
def letB (s : ByteArray) (k : Nat) : Bool := (decide (97 ≤ byteZ s k) && decide (byteZ s k ≤ 122)) || (!(k == 0) && (decide (48 ≤ byteZ s k) && decide (byteZ s k ≤ 57)))
def nameB (s : ByteArray) : Bool := decide (1 ≤ s.size) && decide (s.size ≤ 8) && allTo (letB s) s.size
theorem c_spec_l1Letter (b : Int) (f : Bool) : Fun Tryz.prog 128 none [.int .u8 b, .bool f] (.bool ((decide (97 ≤ b) && decide (b ≤ 122)) || (!f && (decide (48 ≤ b) && decide (b ≤ 57))))) [] := by
 refine Fun.ofV vc_spec_l1Letter_ok ty_spec_l1Letter_ok rfl ?_ (fun hfit => ?_)
 ·exact ⟨rfl, trivial, trivial⟩
 unfold vc_spec_l1Letter
 refine den_ret ?_
 simp [E.den, cmpI, Bool.and_assoc]
theorem c_spec_IsName (s : ByteArray) : Fun Tryz.prog 93 none [.str s] (.bool (nameB s)) [] := by
 refine Fun.ofV vc_spec_IsName_ok ty_spec_IsName_ok rfl ?_ (fun hfit => ?_)
 ·exact ⟨trivial, trivial⟩
 have hl := fits_str hfit.1
 unfold vc_spec_IsName
 refine den_for s.size (fun k => [.int .i64 k]) (fun k => allTo (letB s) k = true) rfl rfl ?_
 intro k hk hI _
 simp only [cA]
 refine den_ite (fun h2 => ?_) (fun h2 => ?_)
 ·simp only [E.den, dEq, iEq, sEq] at h2
  have h2 : k < s.size := by simp at h2; exact h2
  (refine den_cond (fun hg => ?_) ?_; (focus (simp only [gsH, gE, E.den, dEq, iEq, sEq] at hg ⊢; (try simp only [D.bool.injEq] at hg); (try simp only [D.bool.injEq]); grind)))
  ((first | refine den_call ?_ (c_spec_l1Letter (byteZ s k) ((k : Int) == 0)) (trivial) ?_ | refine den_callR ?_ (c_spec_l1Letter (byteZ s k) ((k : Int) == 0)) (trivial) ?_ | refine den_call ?_ (.ofR (c_spec_l1Letter (byteZ s k) ((k : Int) == 0))) (trivial) ?_); (focus (simp only [VC.den, E.den, dEq, gsH_nil, and_true, at_byte, cmpI_eql, Int.toNat_natCast]; try exact rfl)); (simp only [cA]))
  refine den_ite (fun h3 => ?_) (fun h3 => ?_)
  ·simp only [E.den, dEq, iEq, sEq] at h3
   have hb : letB s k = false := by
    simp at h3
    simp [letB]; omega
   refine den_ret ?_
   simp [E.den, nameB, allTo_bad h2 hb]
  ·simp only [E.den, dEq, iEq, sEq] at h3
   have hb : letB s k = true := by
    simp at h3
    simp [letB]; omega
   refine den_next h2 ?_ (show (allTo (letB s) k && letB s k) = true by rw [hI, hb]; rfl)
   simp only [E.den, dEq, iEq, sEq]
   rw [ar_add (by omega) (by omega)]; rfl
 ·simp only [E.den, dEq, iEq, sEq] at h2
  obtain rfl : k = s.size := by simp at h2; omega
  refine den_ret ?_
  simp only [nameB, hI, Bool.and_true]
  simp only [E.den, dEq, iEq, sEq]
  congr 1
  grind
theorem c_impl_IsName (s : ByteArray) : Fun Tryz.prog 67 none [.str s] (.bool (nameB s)) [] := by
 refine Fun.ofV vc_impl_IsName_ok ty_impl_IsName_ok rfl ?_ (fun hfit => ?_)
 ·exact ⟨trivial, trivial⟩
 have hl := fits_str hfit.1
 unfold vc_impl_IsName
 (refine den_cond (fun hg => ?_) ?_; (focus (simp only [gsH, gE, E.den, dEq, iEq, sEq] at hg ⊢; (try simp only [D.bool.injEq] at hg); (try simp only [D.bool.injEq]); grind)))
 (refine den_cond (fun hg => ?_) ?_; (focus (simp only [gsH, gE, E.den, dEq, iEq, sEq] at hg ⊢; (try simp only [D.bool.injEq] at hg); (try simp only [D.bool.injEq]); grind)))
 refine den_ite (fun h => ?_) (fun h => ?_)
 ·simp only [E.den, dEq, iEq, sEq] at h
  refine den_ret ?_
  simp only [E.den, D.bool.injEq]
  by_cases h0 : 1 ≤ s.size ∧ s.size ≤ 8
  ·have hb : letB s 0 = false := by
    simp at h
    simp [letB]; omega
   simp [nameB, allTo_bad (show 0 < s.size by omega) hb]
  ·have : (decide (1 ≤ s.size) && decide (s.size ≤ 8)) = false := by simp; omega
   simp [nameB, this]
 simp only [E.den, dEq, iEq, sEq] at h
 have h0 : 1 ≤ s.size ∧ s.size ≤ 8 := by grind
 refine den_for s.size (fun k => [.int .i64 k]) (fun k => allTo (letB s) k = true) rfl rfl ?_
 intro k hk hI _
 simp only [cA]
 refine den_ite (fun h2 => ?_) (fun h2 => ?_)
 ·simp only [E.den, dEq, iEq, sEq] at h2
  have h2 : k < s.size := by simp at h2; exact h2
  (refine den_cond (fun hg => ?_) ?_; (focus (simp only [gsH, gE, E.den, dEq, iEq, sEq] at hg ⊢; (try simp only [D.bool.injEq] at hg); (try simp only [D.bool.injEq]); grind)))
  (refine den_cond (fun hg => ?_) ?_; (focus (simp only [gsH, gE, E.den, dEq, iEq, sEq] at hg ⊢; (try simp only [D.bool.injEq] at hg); (try simp only [D.bool.injEq]); grind)))
  (refine den_cond (fun hg => ?_) ?_; (focus (simp only [gsH, gE, E.den, dEq, iEq, sEq] at hg ⊢; (try simp only [D.bool.injEq] at hg); (try simp only [D.bool.injEq]); grind)))
  (refine den_cond (fun hg => ?_) ?_; (focus (simp only [gsH, gE, E.den, dEq, iEq, sEq] at hg ⊢; (try simp only [D.bool.injEq] at hg); (try simp only [D.bool.injEq]); grind)))
  refine den_ite (fun h3 => ?_) (fun h3 => ?_)
  ·simp only [E.den, dEq, iEq, sEq] at h3
   have hb : letB s k = false := by
    simp at h3
    simp [letB]; omega
   refine den_ret ?_
   simp [E.den, nameB, allTo_bad h2 hb]
  ·simp only [E.den, dEq, iEq, sEq] at h3
   have hb : letB s k = true := by
    simp at h h3
    by_cases e : k = 0
    ·subst e; simp [letB]; omega
    ·simp [letB]; omega
   refine den_next h2 ?_ (show (allTo (letB s) k && letB s k) = true by rw [hI, hb]; rfl)
   simp only [E.den, dEq, iEq, sEq]
   rw [ar_add (by omega) (by omega)]; rfl
 ·simp only [E.den, dEq, iEq, sEq] at h2
  obtain rfl : k = s.size := by simp at h2; omega
  refine den_ret ?_
  simp [E.den, nameB, hI, h0]
def numB (n : Int) : Bool := decide (0 ≤ n) && decide (n ≤ 999)
theorem c_impl_isNumber (n : Int) : Fun Tryz.prog 65 none [.int .i64 n] (.bool (numB n)) [] := by
 refine Fun.ofV vc_impl_isNumber_ok ty_impl_isNumber_ok rfl ?_ (fun hfit => ?_)
 ·exact ⟨rfl, trivial⟩
 exact den_ret (by simp [E.den, cmpI, numB])
def kinds : List ByteArray := [⟨#[115, 116, 111, 110, 101]⟩, ⟨#[108, 97, 109, 112]⟩, ⟨#[115, 104, 101, 108, 102]⟩, ⟨#[109, 101, 116, 101, 114]⟩, ⟨#[100, 114, 97, 119, 101, 114]⟩, ⟨#[104, 111, 114, 110]⟩, ⟨#[118, 97, 117, 108, 116]⟩, ⟨#[114, 111, 98, 111, 116]⟩]
def kindFs : List Nat := [0, 1, 2, 5, 3, 9, 19, 63]
def kindAt (s : ByteArray) : Option Nat := if s = nth kinds 0 then some 0 else if s = nth kinds 1 then some 1 else if s = nth kinds 2 then some 2 else if s = nth kinds 3 then some 3 else if s = nth kinds 4 then some 4 else if s = nth kinds 5 then some 5 else if s = nth kinds 6 then some 6 else if s = nth kinds 7 then some 7 else none
def kindN (s : ByteArray) : Nat := match kindAt s with | some k => kindFs.getD k 0 | none => 0
def kindOk (s : ByteArray) : Bool := (kindAt s).isSome
theorem kindN_lt (s : ByteArray) : kindN s < 64 := by
 unfold kindN
 split
 ·rename_i k _
  by_cases h : k < 8
  ·obtain rfl | rfl | rfl | rfl | rfl | rfl | rfl | rfl : k = 0 ∨ k = 1 ∨ k = 2 ∨ k = 3 ∨ k = 4 ∨ k = 5 ∨ k = 6 ∨ k = 7 := by omega
   all_goals decide
  ·rw [List.getD, List.getElem?_eq_none (by simp [kindFs]; omega)]; decide
 ·decide
theorem kindAt_none {s : ByteArray} (h : ∀ j, j < 8 → nth kinds j ≠ s) : kindAt s = none := by
 unfold kindAt
 rw [if_neg (fun e => h 0 (by omega) e.symm), if_neg (fun e => h 1 (by omega) e.symm), if_neg (fun e => h 2 (by omega) e.symm), if_neg (fun e => h 3 (by omega) e.symm), if_neg (fun e => h 4 (by omega) e.symm), if_neg (fun e => h 5 (by omega) e.symm), if_neg (fun e => h 6 (by omega) e.symm), if_neg (fun e => h 7 (by omega) e.symm)]
theorem eight {k : Nat} (h : k < 8) : k = 0 ∨ k = 1 ∨ k = 2 ∨ k = 3 ∨ k = 4 ∨ k = 5 ∨ k = 6 ∨ k = 7 := by omega
theorem c_impl_KindFace (s : ByteArray) : Fun Tryz.prog 104 none [.str s] (.tup [.int .i64 (kindN s), .bool (kindOk s)]) [] := by
 refine Fun.ofV vc_impl_KindFace_ok ty_impl_KindFace_ok rfl ?_ (fun hfit => ?_)
 ·exact ⟨trivial, trivial⟩
 clear hfit
 unfold vc_impl_KindFace
 refine den_ite (fun h => ?_) (fun h0 => ?_)
 ·simp only [E.den, dEq, iEq, sEq] at h; simp at h; subst h; exact den_ret rfl
 refine den_ite (fun h => ?_) (fun h1 => ?_)
 ·simp only [E.den, dEq, iEq, sEq] at h; simp at h; subst h; exact den_ret rfl
 refine den_ite (fun h => ?_) (fun h2 => ?_)
 ·simp only [E.den, dEq, iEq, sEq] at h; simp at h; subst h; exact den_ret rfl
 refine den_ite (fun h => ?_) (fun h3 => ?_)
 ·simp only [E.den, dEq, iEq, sEq] at h; simp at h; subst h; exact den_ret rfl
 refine den_ite (fun h => ?_) (fun h4 => ?_)
 ·simp only [E.den, dEq, iEq, sEq] at h; simp at h; subst h; exact den_ret rfl
 refine den_ite (fun h => ?_) (fun h5 => ?_)
 ·simp only [E.den, dEq, iEq, sEq] at h; simp at h; subst h; exact den_ret rfl
 refine den_ite (fun h => ?_) (fun h6 => ?_)
 ·simp only [E.den, dEq, iEq, sEq] at h; simp at h; subst h; exact den_ret rfl
 refine den_ite (fun h => ?_) (fun h7 => ?_)
 ·simp only [E.den, dEq, iEq, sEq] at h; simp at h; subst h; exact den_ret rfl
 simp only [E.den, dEq, iEq, sEq] at h0 h1 h2 h3 h4 h5 h6 h7
 simp at h0 h1 h2 h3 h4 h5 h6 h7
 have hn : kindAt s = none := kindAt_none fun j hj => by
  obtain rfl | rfl | rfl | rfl | rfl | rfl | rfl | rfl := eight hj
  all_goals (intro e; first | exact h0 e.symm | exact h1 e.symm | exact h2 e.symm | exact h3 e.symm | exact h4 e.symm | exact h5 e.symm | exact h6 e.symm | exact h7 e.symm)
 exact den_ret (by simp [E.den, kindN, kindOk, hn])
theorem kindAt_nth : ∀ k : Fin 8, kindAt (nth kinds k.val) = some k.val := by decide +kernel
def kindE : E := .put (.put (.put (.put (.put (.put (.put (.put (.nilS 9) (.ag1 (.ls ⟨#[115, 116, 111, 110, 101]⟩))) (.ag1 (.ls ⟨#[108, 97, 109, 112]⟩))) (.ag1 (.ls ⟨#[115, 104, 101, 108, 102]⟩))) (.ag1 (.ls ⟨#[109, 101, 116, 101, 114]⟩))) (.ag1 (.ls ⟨#[100, 114, 97, 119, 101, 114]⟩))) (.ag1 (.ls ⟨#[104, 111, 114, 110]⟩))) (.ag1 (.ls ⟨#[118, 97, 117, 108, 116]⟩))) (.ag1 (.ls ⟨#[114, 111, 98, 111, 116]⟩))
def kindFE : E := .put (.put (.put (.put (.put (.put (.put (.put (.nilS 3) (.ag1 (.li .i64 0))) (.ag1 (.li .i64 1))) (.ag1 (.li .i64 2))) (.ag1 (.li .i64 5))) (.ag1 (.li .i64 3))) (.ag1 (.li .i64 9))) (.ag1 (.li .i64 19))) (.ag1 (.li .i64 63))
theorem kindE_den (env : List D) : kindE.den env = encS kinds := rfl
theorem kindFE_den (env : List D) : kindFE.den env = encS (kindFs.map fun (n : Nat) => (n : Int)) := rfl
theorem c_spec_KindFace (s : ByteArray) : Fun Tryz.prog 108 none [.str s] (.tup [.int .i64 (kindN s), .bool (kindOk s)]) [] := by
 refine Fun.ofV vc_spec_KindFace_ok ty_spec_KindFace_ok rfl ?_ (fun hfit => ?_)
 ·exact ⟨trivial, trivial⟩
 clear hfit
 show VC.den _ _ (.loop [.one (.c (.int .i64))] [.li .i64 0] (.ite (.ic .lss (.var 1) (.len kindE)) (.rq (.cond [] (.inb kindE (.var 1))) (.ite (.sc .eql (.cell (.row [.str] kindE (.var 1)) 0) (.var 0)) (.rq (.cond [] (.inb kindFE (.var 1))) (.ret (.tp1 (.tp1 .tp0 (.cell (.row [.int .i64] kindFE (.var 1)) 0)) (.lb true)) [])) (.again 0 [.ar .add .i64 (.var 1) (.li .i64 1)]))) (.ret (.tp1 (.tp1 .tp0 (.li .i64 0)) (.lb false)) []))) _ _ _
 have e8 : kinds.length = 8 := rfl
 refine den_for 8 (fun k => [.int .i64 k]) (fun k => ∀ j, j < k → nth kinds j ≠ s) rfl (by omega) ?_
 intro k hk hI _
 simp only [cA]
 refine den_ite (fun h2 => ?_) (fun h2 => ?_)
 ·simp only [E.den, dEq, iEq, sEq, kindE_den, e8] at h2
  have h2 : k < 8 := by simp at h2; omega
  refine den_cond (fun _ => ?_) ?_
  ·simp only [E.den, dEq, iEq, sEq, kindE_den, e8]
   simp; omega
  refine den_ite (fun h3 => ?_) (fun h3 => ?_)
  ·simp only [E.den, dEq, iEq, sEq, kindE_den, row_str, cells_str] at h3
   simp at h3
   refine den_cond (fun _ => ?_) ?_
   ·simp only [E.den, dEq, iEq, sEq, kindFE_den, List.length_map]
    simp [kindFs]; omega
   refine den_ret ?_
   simp only [E.den, dEq, iEq, sEq, kindFE_den, row_int, cells_int]
   have hn : kindAt s = some k := by rw [← h3]; exact kindAt_nth ⟨k, h2⟩
   simp only [kindN, kindOk, hn]
   obtain rfl | rfl | rfl | rfl | rfl | rfl | rfl | rfl : k = 0 ∨ k = 1 ∨ k = 2 ∨ k = 3 ∨ k = 4 ∨ k = 5 ∨ k = 6 ∨ k = 7 := by omega
   all_goals rfl
  ·simp only [E.den, dEq, iEq, sEq, kindE_den, row_str, cells_str] at h3
   simp at h3
   refine den_next h2 ?_ fun j hj => ?_
   ·simp only [E.den, dEq, iEq, sEq]
    rw [ar_add (by omega) (by omega)]; rfl
   ·rcases Nat.lt_or_ge j k with h | h
    ·exact hI j h
    ·obtain rfl : j = k := by omega
     exact h3
 ·simp only [E.den, dEq, iEq, sEq, kindE_den, e8] at h2
  obtain rfl : k = 8 := by simp at h2; omega
  refine den_ret ?_
  have hn := kindAt_none hI
  simp [E.den, kindN, kindOk, hn]
def layers : List ByteArray := [⟨#[112, 108, 97, 105, 110]⟩, ⟨#[114, 117, 110, 115]⟩, ⟨#[107, 101, 101, 112, 115]⟩, ⟨#[99, 111, 117, 110, 116, 115]⟩, ⟨#[108, 97, 122, 121]⟩, ⟨#[114, 101, 97, 100, 115]⟩, ⟨#[104, 101, 97, 114, 115]⟩, ⟨#[104, 101, 97, 108, 115]⟩, ⟨#[116, 119, 105, 99, 101]⟩]
def layN : List Nat := [0, 1, 2, 2, 3, 2, 1, 1, 4]
def layG : List Nat := [0, 1, 2, 6, 3, 2, 9, 33, 4]
def layAt (s : ByteArray) : Option Nat := if s = nth layers 0 then some 0 else if s = nth layers 1 then some 1 else if s = nth layers 2 then some 2 else if s = nth layers 3 then some 3 else if s = nth layers 4 then some 4 else if s = nth layers 5 then some 5 else if s = nth layers 6 then some 6 else if s = nth layers 7 then some 7 else if s = nth layers 8 then some 8 else none
def needN (s : ByteArray) : Nat := match layAt s with | some k => layN.getD k 0 | none => 0
def giveN (s : ByteArray) : Nat := match layAt s with | some k => layG.getD k 0 | none => 0
def layOk (s : ByteArray) : Bool := (layAt s).isSome
theorem nine {k : Nat} (h : k < 9) : k = 0 ∨ k = 1 ∨ k = 2 ∨ k = 3 ∨ k = 4 ∨ k = 5 ∨ k = 6 ∨ k = 7 ∨ k = 8 := by omega
theorem giveN_lt (s : ByteArray) : giveN s < 64 := by
 unfold giveN
 split
 ·rename_i k _
  by_cases h : k < 9
  ·obtain rfl | rfl | rfl | rfl | rfl | rfl | rfl | rfl | rfl := nine h
   all_goals decide
  ·rw [List.getD, List.getElem?_eq_none (by simp [layG]; omega)]; decide
 ·decide
theorem layAt_none {s : ByteArray} (h : ∀ j, j < 9 → nth layers j ≠ s) : layAt s = none := by
 unfold layAt
 rw [if_neg (fun e => h 0 (by omega) e.symm), if_neg (fun e => h 1 (by omega) e.symm), if_neg (fun e => h 2 (by omega) e.symm), if_neg (fun e => h 3 (by omega) e.symm), if_neg (fun e => h 4 (by omega) e.symm), if_neg (fun e => h 5 (by omega) e.symm), if_neg (fun e => h 6 (by omega) e.symm), if_neg (fun e => h 7 (by omega) e.symm), if_neg (fun e => h 8 (by omega) e.symm)]
theorem layAt_nth : ∀ k : Fin 9, layAt (nth layers k.val) = some k.val := by decide +kernel
def layD (s : ByteArray) : D := .tup [.int .i64 (needN s), .int .i64 (giveN s), .bool (layOk s)]
theorem c_impl_layerFaces (s : ByteArray) : Fun Tryz.prog 56 none [.str s] (layD s) [] := by
 refine Fun.ofV vc_impl_layerFaces_ok ty_impl_layerFaces_ok rfl ?_ (fun hfit => ?_)
 ·exact ⟨trivial, trivial⟩
 clear hfit
 unfold vc_impl_layerFaces
 refine den_ite (fun h => ?_) (fun h0 => ?_)
 ·simp only [E.den, dEq, iEq, sEq] at h; simp at h; subst h; exact den_ret rfl
 refine den_ite (fun h => ?_) (fun h1 => ?_)
 ·simp only [E.den, dEq, iEq, sEq] at h; simp at h; subst h; exact den_ret rfl
 refine den_ite (fun h => ?_) (fun h2 => ?_)
 ·refine den_ite (fun _ => ?_) (fun h' => ?_)
  ·simp only [E.den, dEq, iEq, sEq] at h; simp at h; subst h; exact den_ret rfl
  ·rw [h] at h'; cases h'
 refine den_ite (fun h => ?_) (fun h3 => ?_)
 ·simp only [E.den, dEq, iEq, sEq] at h; simp at h; subst h; exact den_ret rfl
 refine den_ite (fun h => ?_) (fun h4 => ?_)
 ·simp only [E.den, dEq, iEq, sEq] at h; simp at h; subst h; exact den_ret rfl
 refine den_ite (fun h => ?_) (fun h5 => ?_)
 ·simp only [E.den, dEq, iEq, sEq] at h; simp at h; subst h; exact den_ret rfl
 refine den_ite (fun h => ?_) (fun h6 => ?_)
 ·simp only [E.den, dEq, iEq, sEq] at h; simp at h; subst h; exact den_ret rfl
 refine den_ite (fun h => ?_) (fun h7 => ?_)
 ·simp only [E.den, dEq, iEq, sEq] at h; simp at h; subst h; exact den_ret rfl
 refine den_ite (fun h => ?_) (fun h8 => ?_)
 ·simp only [E.den, dEq, iEq, sEq] at h; simp at h; subst h; exact den_ret rfl
 simp only [E.den, dEq, iEq, sEq] at h0 h1 h2 h3 h4 h5 h6 h7 h8
 simp at h0 h1 h2 h3 h4 h5 h6 h7 h8
 have hn : layAt s = none := layAt_none fun j hj => by
  obtain rfl | rfl | rfl | rfl | rfl | rfl | rfl | rfl | rfl := nine hj
  all_goals (intro e; first | exact h0 e.symm | exact h1 e.symm | exact h2 e.symm | exact h3 e.symm | exact h4 e.symm | exact h5 e.symm | exact h6 e.symm | exact h7 e.symm | exact h8 e.symm)
 exact den_ret (by simp [E.den, layD, needN, giveN, layOk, hn])
def layE : E := .put (.put (.put (.put (.put (.put (.put (.put (.put (.nilS 9) (.ag1 (.ls ⟨#[112, 108, 97, 105, 110]⟩))) (.ag1 (.ls ⟨#[114, 117, 110, 115]⟩))) (.ag1 (.ls ⟨#[107, 101, 101, 112, 115]⟩))) (.ag1 (.ls ⟨#[99, 111, 117, 110, 116, 115]⟩))) (.ag1 (.ls ⟨#[108, 97, 122, 121]⟩))) (.ag1 (.ls ⟨#[114, 101, 97, 100, 115]⟩))) (.ag1 (.ls ⟨#[104, 101, 97, 114, 115]⟩))) (.ag1 (.ls ⟨#[104, 101, 97, 108, 115]⟩))) (.ag1 (.ls ⟨#[116, 119, 105, 99, 101]⟩))
def layNE : E := .put (.put (.put (.put (.put (.put (.put (.put (.put (.nilS 3) (.ag1 (.li .i64 0))) (.ag1 (.li .i64 1))) (.ag1 (.li .i64 2))) (.ag1 (.li .i64 2))) (.ag1 (.li .i64 3))) (.ag1 (.li .i64 2))) (.ag1 (.li .i64 1))) (.ag1 (.li .i64 1))) (.ag1 (.li .i64 4))
def layGE : E := .put (.put (.put (.put (.put (.put (.put (.put (.put (.nilS 3) (.ag1 (.li .i64 0))) (.ag1 (.li .i64 1))) (.ag1 (.li .i64 2))) (.ag1 (.li .i64 6))) (.ag1 (.li .i64 3))) (.ag1 (.li .i64 2))) (.ag1 (.li .i64 9))) (.ag1 (.li .i64 33))) (.ag1 (.li .i64 4))
theorem layE_den (env : List D) : layE.den env = encS layers := rfl
theorem layNE_den (env : List D) : layNE.den env = encS (layN.map fun (n : Nat) => (n : Int)) := rfl
theorem layGE_den (env : List D) : layGE.den env = encS (layG.map fun (n : Nat) => (n : Int)) := rfl
theorem c_spec_l4Row (s : ByteArray) : Fun Tryz.prog 59 none [.str s] (layD s) [] := by
 refine Fun.ofV vc_spec_l4Row_ok ty_spec_l4Row_ok rfl ?_ (fun hfit => ?_)
 ·exact ⟨trivial, trivial⟩
 clear hfit
 show VC.den _ _ (.loop [.one (.c (.int .i64))] [.li .i64 0] (.ite (.ic .lss (.var 1) (.len layE)) (.rq (.cond [] (.inb layE (.var 1))) (.ite (.sc .eql (.cell (.row [.str] layE (.var 1)) 0) (.var 0)) (.rq (.cond [] (.inb layNE (.var 1))) (.rq (.cond [] (.inb layGE (.var 1))) (.ret (.tp1 (.tp1 (.tp1 .tp0 (.cell (.row [.int .i64] layNE (.var 1)) 0)) (.cell (.row [.int .i64] layGE (.var 1)) 0)) (.lb true)) []))) (.again 0 [.ar .add .i64 (.var 1) (.li .i64 1)]))) (.ret (.tp1 (.tp1 (.tp1 .tp0 (.li .i64 0)) (.li .i64 0)) (.lb false)) []))) _ _ _
 have e9 : layers.length = 9 := rfl
 refine den_for 9 (fun k => [.int .i64 k]) (fun k => ∀ j, j < k → nth layers j ≠ s) rfl (by omega) ?_
 intro k hk hI _
 simp only [cA]
 refine den_ite (fun h2 => ?_) (fun h2 => ?_)
 ·simp only [E.den, dEq, iEq, sEq, layE_den, e9] at h2
  have h2 : k < 9 := by simp at h2; omega
  refine den_cond (fun _ => ?_) ?_
  ·simp only [E.den, dEq, iEq, sEq, layE_den, e9]
   simp; omega
  refine den_ite (fun h3 => ?_) (fun h3 => ?_)
  ·simp only [E.den, dEq, iEq, sEq, layE_den, row_str, cells_str] at h3
   simp at h3
   refine den_cond (fun _ => ?_) (den_cond (fun _ => ?_) ?_)
   ·simp only [E.den, dEq, iEq, sEq, layNE_den, List.length_map]
    simp [layN]; omega
   ·simp only [E.den, dEq, iEq, sEq, layGE_den, List.length_map]
    simp [layG]; omega
   refine den_ret ?_
   simp only [E.den, dEq, iEq, sEq, layNE_den, layGE_den, row_int, cells_int]
   have hn : layAt s = some k := by rw [← h3]; exact layAt_nth ⟨k, h2⟩
   simp only [layD, needN, giveN, layOk, hn]
   obtain rfl | rfl | rfl | rfl | rfl | rfl | rfl | rfl | rfl := nine h2
   all_goals rfl
  ·simp only [E.den, dEq, iEq, sEq, layE_den, row_str, cells_str] at h3
   simp at h3
   refine den_next h2 ?_ fun j hj => ?_
   ·simp only [E.den, dEq, iEq, sEq]
    rw [ar_add (by omega) (by omega)]; rfl
   ·rcases Nat.lt_or_ge j k with h | h
    ·exact hI j h
    ·obtain rfl : j = k := by omega
     exact h3
 ·simp only [E.den, dEq, iEq, sEq, layE_den, e9] at h2
  obtain rfl : k = 9 := by simp at h2; omega
  refine den_ret ?_
  have hn := layAt_none hI
  simp [E.den, layD, needN, giveN, layOk, hn]
theorem c_spec_LayerNeeds (s : ByteArray) : Fun Tryz.prog 71 none [.str s] (.tup [.int .i64 (needN s), .bool (layOk s)]) [] := by
 refine Fun.ofV vc_spec_LayerNeeds_ok ty_spec_LayerNeeds_ok rfl ?_ (fun hfit => ?_)
 ·exact ⟨trivial, trivial⟩
 unfold vc_spec_LayerNeeds
 ((first | refine den_call ?_ (c_spec_l4Row s) (⟨rfl, rfl, trivial, trivial⟩) ?_ | refine den_callR ?_ (c_spec_l4Row s) (⟨rfl, rfl, trivial, trivial⟩) ?_ | refine den_call ?_ (.ofR (c_spec_l4Row s)) (⟨rfl, rfl, trivial, trivial⟩) ?_); (focus (simp only [VC.den, E.den, dEq, gsH_nil, and_true]; try exact rfl)); (simp only [cA]))
 exact den_ret rfl
theorem off6 : ∀ n m : Fin 64, ((List.range 6).all fun k => !(m.val.testBit k && !n.val.testBit k)) = decide (m.val &&& n.val = m.val) := by decide +kernel
theorem offN_eq : ∀ n m : Fin 64, cmpI .eql (arI .andNot .i64 ((m.val : Nat) : Int) ((n.val : Nat) : Int)) 0 = decide (m.val &&& n.val = m.val) := by decide +kernel
theorem c_spec_Offers (a b : Int) : Fun Tryz.prog 60 none [.int .i64 a, .int .i64 b] (.bool (offersB a b)) [] := by
 refine Fun.ofV vc_spec_Offers_ok ty_spec_Offers_ok rfl ?_ (fun hfit => ?_)
 ·exact ⟨rfl, rfl, trivial⟩
 unfold vc_spec_Offers
 ((first | refine den_call ?_ (c_spec_IsFace' a) (trivial) ?_ | refine den_callR ?_ (c_spec_IsFace' a) (trivial) ?_ | refine den_call ?_ (.ofR (c_spec_IsFace' a)) (trivial) ?_); (focus (simp only [VC.den, E.den, dEq, gsH_nil, and_true]; try exact rfl)); (simp only [cA]))
 ((first | refine den_call ?_ (c_spec_IsFace' b) (trivial) ?_ | refine den_callR ?_ (c_spec_IsFace' b) (trivial) ?_ | refine den_call ?_ (.ofR (c_spec_IsFace' b)) (trivial) ?_); (focus (simp only [VC.den, E.den, dEq, gsH_nil, and_true]; try exact rfl)); (simp only [cA]))
 refine den_ite (fun h => ?_) (fun h => ?_)
 ·simp only [E.den, dEq, iEq, sEq] at h
  refine den_ret ?_
  simp only [E.den, D.bool.injEq]
  unfold offersB
  grind
 simp only [E.den, dEq, iEq, sEq] at h
 have ha : isFaceB a = true := by grind
 have hb : isFaceB b = true := by grind
 obtain ⟨n, rfl, hn⟩ := isFaceB_nat ha
 obtain ⟨m, rfl, hm⟩ := isFaceB_nat hb
 have ho : offersB (n : Int) (m : Int) = ((List.range 6).all fun k => !(m.testBit k && !n.testBit k)) := by
  unfold offersB
  rw [ha, hb, Bool.true_and, Bool.true_and, offN_eq ⟨n, hn⟩ ⟨m, hm⟩, off6 ⟨n, hn⟩ ⟨m, hm⟩]
 rw [ho]
 refine den_for 6 (fun k => [.int .i64 k]) (fun k => ∀ j, j < k → (!(m.testBit j && !n.testBit j)) = true) rfl (by omega) ?_
 intro k hk hI _
 simp only [cA]
 refine den_ite (fun h2 => ?_) (fun h2 => ?_)
 ·simp only [E.den, dEq, iEq, sEq] at h2
  have h2 : k < 6 := by simp at h2; omega
  ((first | refine den_call ?_ (c_spec_l2Has m k hm h2) (trivial) ?_ | refine den_callR ?_ (c_spec_l2Has m k hm h2) (trivial) ?_ | refine den_call ?_ (.ofR (c_spec_l2Has m k hm h2)) (trivial) ?_); (focus (simp only [VC.den, E.den, dEq, gsH_nil, and_true]; try exact rfl)); (simp only [cA]))
  ((first | refine den_call ?_ (c_spec_l2Has n k hn h2) (trivial) ?_ | refine den_callR ?_ (c_spec_l2Has n k hn h2) (trivial) ?_ | refine den_call ?_ (.ofR (c_spec_l2Has n k hn h2)) (trivial) ?_); (focus (simp only [VC.den, E.den, dEq, gsH_nil, and_true]; try exact rfl)); (simp only [cA]))
  refine den_ite (fun h3 => ?_) (fun h3 => ?_)
  ·simp only [E.den, dEq, iEq, sEq] at h3
   refine den_ret ?_
   simp only [E.den, D.bool.injEq]
   symm
   rw [List.all_eq_false]
   exact ⟨k, by simpa using h2, by rw [h3]; simp⟩
  ·simp only [E.den, dEq, iEq, sEq] at h3
   refine den_next h2 ?_ fun j hj => ?_
   ·simp only [E.den, dEq, iEq, sEq]
    rw [ar_add (by omega) (by omega)]; rfl
   ·rcases Nat.lt_or_ge j k with h | h
    ·exact hI j h
    ·obtain rfl : j = k := by omega
     rw [h3]; rfl
 ·simp only [E.den, dEq, iEq, sEq] at h2
  obtain rfl : k = 6 := by simp at h2; omega
  refine den_ret ?_
  simp only [E.den, D.bool.injEq]
  symm
  rw [List.all_eq_true]
  intro j hj
  exact hI j (by simpa using hj)
end Go.Proofs.YtbgcaneflfdddaaGreatDoor
