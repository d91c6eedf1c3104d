/- Contracts out of conditions, for the user: lists of data as lists of structures; loops; calls. -/
import Derived.Test.YtgaeigomhhbkfaaGreatV0
import Derived.Test.YtgaeigomhhbkfaaGreatV1
import Derived.Test.YtgaeigomhhbkfaaGreatV2
import Derived.Test.YtgaeigomhhbkfaaGreatV3
import Derived.Test.YtgaeigomhhbkfaaGreatAEx
namespace Go.Proofs.YtgaeigomhhbkfaaGreat
open Go.RowKit Go
set_option linter.unusedVariables false
set_option linter.unusedSimpArgs false
set_option linter.unusedSectionVars false
variable [GC]

theorem mo : Tryz.prog.follows .mixedOrders = true := by kernel_rfl
/-- The contract out of the condition. -/
theorem FunR.ofV {f : FuncId} {V : VC} {Γ : List VT} (hV : vcOf Tryz.prog tbl rbt f none = V) (hΓ : tyOf Tryz.prog tbl f none = Γ) {rt : List (Nat × Nat)} (hrt : rbt.get f = rt) (hok : V.ok = true) {ds : List D} {r : D}
    (hty : HasTys tbl.tab Γ ds) (hden : FitsL ds → V.den Tryz.prog tbl.tab ds (fun d bs => d = r ∧ bs = []) []) : FunR Tryz.prog f none ds r [] rt :=
  hrt ▸ FunR.of hV hok hΓ tbl_ok mo rfl (by simpa using hty) (fun _ => rfl) (fun h _ => by simpa using hden h)
theorem Fun.ofV {f : FuncId} {V : VC} {Γ : List VT} (hV : vcOf Tryz.prog tbl rbt f none = V) (hΓ : tyOf Tryz.prog tbl f none = Γ) (hok : V.ok = true) {ds : List D} {r : D}
    (hty : HasTys tbl.tab Γ ds) (hden : FitsL ds → V.den Tryz.prog tbl.tab ds (fun d bs => d = r ∧ bs = []) []) : Fun Tryz.prog f none ds r [] :=
  Fun.of hV hok hΓ tbl_ok mo rfl (by simpa using hty) (fun _ => rfl) (fun h _ => by simpa using hden h)
/-- The contract of a function with captured variables out of its condition. -/
theorem FunC.ofV {f : FuncId} {V : VC} {ct : List (List CT)} {Γ : List VT} (hV : vcOfC Tryz.prog tbl rbt f ct = V) (hΓ : tyOfC Tryz.prog tbl f ct = Γ) (hok : V.ok = true) {caps : List (List D)} {ds : List D} {r : D} (hcl : caps.length = ct.length)
    (hty : HasTys tbl.tab Γ (ds ++ caps.map .agg)) (hden : FitsL ds → FitsL (caps.map .agg) → V.den Tryz.prog tbl.tab (ds ++ caps.map .agg) (fun d bs => d = r ∧ bs = []) []) : FunC Tryz.prog f ds caps r :=
  FunC.of hV hok hΓ tbl_ok mo hcl hty hden
/-- A function value is called. -/
theorem den_callV {P : Program} {tab : Nat → List CT} {env : List D} {Q : D → List D → Prop} {L : List (List D → Prop)} {gs : Gd} {e : E} {args : List E} {vt : VT} {k : VC} {r : D} {x : D} {xs : List D}
    (he : e.den env = x) (ha : args.map (·.den env) = xs) (hc : FunV P x xs r) (hty : HasVT tab vt r) (hk : k.den P tab (env ++ [r]) Q L) : (VC.rq (.callV gs e args vt) k).den P tab env Q L :=
  ⟨r, hty, fun _ => by rw [he, ha]; exact hc, hk⟩
/-- A contract out of a walk that knows all worlds. -/
theorem Fun.of_calls {P : Program} {f : FuncId} {ds : List D} {r : D} (hf : callable P f = true)
    (h : ∀ (w : World) (M : Addr → Prop) (vs : List Value), (∀ p, M p → p.block < w.heap.size) → Rs w M ds vs → Calls P f vs.toArray w fun e w' => ∃ v, e = .returned v ∧ R w' M r v ∧ Below w.heap.size w w') : Fun P f none ds r [] :=
  ⟨hf, fun w M g vs hM hr _ => (h w M vs hM.1 hr).mono fun e w' ⟨v, h1, h2, h3⟩ => ⟨v, h1, h2, Fr.of_below h3 (Nat.le_refl _), fun h => by cases h⟩⟩
theorem Fun.of_callsG {P : Program} {f : FuncId} {ds : List D} {r : D} (hf : callable P f = true)
    (h : ∀ (w : World) (M : Addr → Prop) (vs : List Value), Rdy w M → Rs w M ds vs → Calls P f vs.toArray w fun e w' => ∃ v, e = .returned v ∧ R w' M r v ∧ Below w.heap.size w w') : Fun P f none ds r [] :=
  ⟨hf, fun w M g vs hM hr _ => (h w M vs hM hr).mono fun e w' ⟨v, h1, h2, h3⟩ => ⟨v, h1, h2, Fr.of_below h3 (Nat.le_refl _), fun h => by cases h⟩⟩
/-- Weaker promises. -/
inductive AllImp : List (List D → Prop) → List (List D → Prop) → Prop
  | nil : AllImp [] []
  | cons {p q : List D → Prop} {L L' : List (List D → Prop)} (h : ∀ ys, p ys → q ys) (t : AllImp L L') : AllImp (p :: L) (q :: L')
theorem AllImp.refl : ∀ L, AllImp L L
  | [] => .nil
  | _ :: L => .cons (fun _ h => h) (AllImp.refl L)
theorem AllImp.get {L L' : List (List D → Prop)} (h : AllImp L L') : ∀ {d : Nat} {p : List D → Prop}, L[d]? = some p → ∃ q, L'[d]? = some q ∧ ∀ ys, p ys → q ys := by
  induction h with
  | nil => intro d p hp; simp at hp
  | cons h t ih =>
    intro d p hp
    cases d with
    | zero => simp at hp; subst hp; exact ⟨_, rfl, h⟩
    | succ d => simp at hp; simpa using ih hp
theorem VC.den_mono {P : Program} {tab : Nat → List CT} {Q Q' : D → List D → Prop} (hQ : ∀ d bs, Q d bs → Q' d bs) : ∀ (V : VC) (env : List D) {L L' : List (List D → Prop)}, AllImp L L' → V.den P tab env Q L → V.den P tab env Q' L'
  | .fail _, _, _, _, _, h => h.elim
  | .ret e bs, env, _, _, _, h => hQ _ _ h
  | .rq (.cond gs c) k, env, _, _, hL, ⟨h1, h2⟩ => ⟨h1, VC.den_mono hQ k env hL h2⟩
  | .rq (.call gs f bx args vt nb) k, env, _, _, hL, ⟨d, cs, h1, h2, h3, h4⟩ => ⟨d, cs, h1, h2, h3, VC.den_mono hQ k _ hL h4⟩
  | .rq (.callR f bx args vt nb rt) k, env, _, _, hL, ⟨d, cs, h1, h2, h3, h4⟩ => ⟨d, cs, h1, h2, h3, VC.den_mono hQ k _ hL h4⟩
  | .rq (.callV gs e args vt) k, env, _, _, hL, ⟨d, h1, h3, h4⟩ => ⟨d, h1, h3, VC.den_mono hQ k _ hL h4⟩
  | .rq (.glob g vt ix) k, env, _, _, hL, ⟨d, h1, h2, h3, h4⟩ => ⟨d, h1, h2, h3, VC.den_mono hQ k _ hL h4⟩
  | .rq (.new f args nb) k, env, _, _, hL, ⟨cs, h2, h3, h4⟩ => ⟨cs, h2, h3, VC.den_mono hQ k _ hL h4⟩
  | .ite c a b, env, _, _, hL, ⟨h1, h2⟩ => ⟨fun h => VC.den_mono hQ a env hL (h1 h), fun h => VC.den_mono hQ b env hL (h2 h)⟩
  | .loop tys inits body, env, _, _, hL, ⟨I, μ, h1, h2⟩ => ⟨I, μ, h1, fun xs q1 q2 q3 => VC.den_mono hQ body _ (.cons (fun _ h => h) hL) (h2 xs q1 q2 q3)⟩
  | .again d es, env, L, L', hL, h => by
    simp only [VC.den] at h ⊢
    cases hd : L[d]? with
    | none => rw [hd] at h; exact h.elim
    | some p =>
      rw [hd] at h
      obtain ⟨q, h1, h2⟩ := hL.get hd
      rw [h1]; exact h2 _ h
/-- A structure of the program as its cells. -/
class Enc (α : Type) extends Inhabited α where
  cells : α → List D
def nth {α : Type} [Inhabited α] (l : List α) (k : Nat) : α := l.getD k default
def enc {α : Type} [Enc α] (x : α) : D := .agg (Enc.cells x)
def encS {α : Type} [Enc α] (l : List α) : D := .sl (l.map Enc.cells)
theorem row_enc {α : Type} [Enc α] (l : List α) (k : Nat) {z : List D} (h : Enc.cells (default : α) = z) : D.agg (((l.map Enc.cells)[k]?).getD z) = enc (nth l k) := by
  unfold enc nth
  rw [List.getD_eq_getElem?_getD, List.getElem?_map]
  cases l[k]? <;> simp [h]
@[simp] theorem encS_toR {α : Type} [Enc α] (l : List α) : (encS l).toR = l.map Enc.cells := rfl
@[simp] theorem encS_len {α : Type} [Enc α] (l : List α) : lenD (encS l) = l.length := by simp [encS, lenD]
@[simp] theorem enc_toA {α : Type} [Enc α] (x : α) : (enc x).toA = Enc.cells x := rfl
theorem lenD_sl (r : List (List D)) : lenD (.sl r) = r.length := rfl
theorem lenD_mem (n : Nat) : lenD (.mem n) = n := rfl
/-- A loop: its state, how it lies in the data, what holds, what grows less. -/
theorem den_loop {P : Program} {tab : Nat → List CT} {env : List D} {Q : D → List D → Prop} {L : List (List D → Prop)} {tys : List VT} {inits : List E} {body : VC}
    (St : Type) (e : St → List D) (I : St → Prop) (μ : St → Nat) (s0 : St) (hμ : ∀ s s', e s = e s' → μ s = μ s') (h0 : inits.map (·.den env) = e s0) (hI : I s0)
    (hs : ∀ s, I s → FitsL (e s) → body.den P tab (env ++ e s) Q ((fun ys => ∃ s', ys = e s' ∧ I s' ∧ μ s' < μ s) :: L)) : (VC.loop tys inits body).den P tab env Q L := by
  classical
  let m : List D → Nat := fun xs => if h : ∃ s, xs = e s then μ h.choose else 0
  have hm : ∀ s, m (e s) = μ s := by
    intro s
    have hx : ∃ s', e s = e s' := ⟨s, rfl⟩
    show (if h : ∃ s', e s = e s' then μ h.choose else 0) = μ s
    rw [dif_pos hx]
    exact (hμ _ _ hx.choose_spec).symm
  refine ⟨fun xs => ∃ s, xs = e s ∧ I s, m, ⟨s0, h0, hI⟩, ?_⟩
  rintro xs _ hf ⟨s, rfl, hIs⟩
  have := hs s hIs hf
  have he : (fun ys => (∃ s, ys = e s ∧ I s) ∧ m ys < m (e s)) = (fun ys => ∃ s', ys = e s' ∧ I s' ∧ μ s' < μ s) := by
    funext ys
    apply propext
    constructor
    · rintro ⟨⟨s', rfl, h⟩, h2⟩; exact ⟨s', rfl, h, by rwa [hm, hm] at h2⟩
    · rintro ⟨s', rfl, h, h2⟩; exact ⟨⟨s', rfl, h⟩, by rwa [hm, hm]⟩
  rw [he]
  exact this
theorem wrap_i64 {n : Int} (h1 : -9223372036854775808 ≤ n) (h2 : n ≤ 9223372036854775807) : IntKind.i64.wrap n = n := by
  simp only [IntKind.wrap, IntKind.bits, IntKind.signed]
  simp
  omega
/-- A call whose answer a contract gives. -/
theorem den_call {P : Program} {tab : Nat → List CT} {env : List D} {Q : D → List D → Prop} {L : List (List D → Prop)} {gs : Gd} {f : FuncId} {args : List E} {vt : VT} {k : VC} {r : D} {xs : List D}
    (ha : args.map (·.den env) = xs) (hc : Fun P f none xs r []) (hty : HasVT tab vt r) (hk : k.den P tab (env ++ [r]) Q L) : (VC.rq (.call gs f none args vt []) k).den P tab env Q L :=
  ⟨r, [], hty, trivial, fun _ => ha ▸ hc, hk⟩
/-- A call whose answer has rights. -/
theorem den_callR {P : Program} {tab : Nat → List CT} {env : List D} {Q : D → List D → Prop} {L : List (List D → Prop)} {f : FuncId} {args : List E} {vt : VT} {rt : List (Nat × Nat)} {k : VC} {r : D} {xs : List D}
    (ha : args.map (·.den env) = xs) (hc : FunR P f none xs r [] rt) (hty : HasVT tab vt r) (hk : k.den P tab (env ++ [r]) Q L) : (VC.rq (.callR f none args vt [] rt) k).den P tab env Q L :=
  ⟨r, [], hty, trivial, ha ▸ hc, hk⟩
/-- A call with something to show, which its guards give. -/
theorem den_callg {P : Program} {tab : Nat → List CT} {env : List D} {Q : D → List D → Prop} {L : List (List D → Prop)} {gs : Gd} {f : FuncId} {args : List E} {vt : VT} {k : VC} {r : D} {xs : List D}
    (ha : args.map (·.den env) = xs) (hc : gsH env gs → Fun P f none xs r []) (hty : HasVT tab vt r) (hk : k.den P tab (env ++ [r]) Q L) : (VC.rq (.call gs f none args vt []) k).den P tab env Q L :=
  ⟨r, [], hty, trivial, fun h => ha ▸ hc h, hk⟩
/-- A variable of the package, or a place in it, is looked at. -/
theorem den_glob {P : Program} {tab : Nat → List CT} {env : List D} {Q : D → List D → Prop} {L : List (List D → Prop)} {g : Nat} {vt : VT} {ix : Option (Gd × E × Nat)} {k : VC} (d : D)
    (h1 : GlobIs g d) (h2 : HasVT tab vt d) (h3 : IxOk env ix) (hk : k.den P tab (env ++ [d]) Q L) : (VC.rq (.glob g vt ix) k).den P tab env Q L := ⟨d, h2, h1, h3, hk⟩
theorem den_cond {P : Program} {tab : Nat → List CT} {env : List D} {Q : D → List D → Prop} {L : List (List D → Prop)} {gs : Gd} {c : E} {k : VC}
    (h : gsH env gs → c.den env = .bool true) (hk : k.den P tab env Q L) : (VC.rq (.cond gs c) k).den P tab env Q L := ⟨h, hk⟩
theorem den_ite {P : Program} {tab : Nat → List CT} {env : List D} {Q : D → List D → Prop} {L : List (List D → Prop)} {c : E} {a b : VC}
    (h1 : (c.den env).toB = true → a.den P tab env Q L) (h2 : (c.den env).toB = false → b.den P tab env Q L) : (VC.ite c a b).den P tab env Q L := ⟨h1, h2⟩
theorem den_ret {P : Program} {tab : Nat → List CT} {env : List D} {L : List (List D → Prop)} {e : E} {r : D} (h : e.den env = r) : (VC.ret e []).den P tab env (fun d bs => d = r ∧ bs = []) L := ⟨h, rfl⟩
theorem den_again {P : Program} {tab : Nat → List CT} {env : List D} {Q : D → List D → Prop} {L : List (List D → Prop)} {es : List E} {St : Type} {e : St → List D} {I : St → Prop} {μ : St → Nat} {m : Nat} (s' : St)
    (h : es.map (·.den env) = e s') (hI : I s') (hm : μ s' < m) : (VC.again 0 es).den P tab env Q ((fun ys => ∃ s', ys = e s' ∧ I s' ∧ μ s' < m) :: L) := ⟨s', h, hI, hm⟩
theorem Fun.exV {f : FuncId} {V : VC} {Γ : List VT} {ds : List D} {T : D → Prop} (hV : vcOf Tryz.prog tbl rbt f none = V) (hok : V.ok = true) (hΓ : tyOf Tryz.prog tbl f none = Γ) (hty : HasTys tbl.tab Γ ds) (r0 : D) (hT : T r0)
    (hden : FitsL ds → V.den Tryz.prog tbl.tab ds (fun d bs => T d ∧ bs = []) []) : ∃ r, T r ∧ Fun Tryz.prog f none ds r [] := by
  obtain ⟨⟨r, bs⟩, ⟨q1, q2⟩, q3⟩ := Fun.ex (T := fun d bs => T d ∧ bs = []) (r0 := (r0, [])) hV hok hΓ tbl_ok mo ⟨hT, rfl⟩ (bc := none) rfl (by simpa using hty) (fun _ d bs h => h.2) (fun h _ => by simpa using hden h)
  simp only at q2; subst q2
  exact ⟨r, q1, q3⟩
/-- A call of which only is known what its answer is like. -/
theorem den_callE {P : Program} {tab : Nat → List CT} {env : List D} {Q : D → List D → Prop} {L : List (List D → Prop)} {gs : Gd} {f : FuncId} {args : List E} {vt : VT} {k : VC} {T : D → Prop} {xs : List D}
    (ha : args.map (·.den env) = xs) (hc : ∃ r, T r ∧ Fun P f none xs r []) (hty : ∀ r, T r → HasVT tab vt r) (hk : ∀ r, T r → k.den P tab (env ++ [r]) Q L) : (VC.rq (.call gs f none args vt []) k).den P tab env Q L := by
  obtain ⟨r, h1, h2⟩ := hc
  exact ⟨r, [], hty r h1, trivial, fun _ => ha ▸ h2, hk r h1⟩
theorem FunR.exV {f : FuncId} {V : VC} {Γ : List VT} {ds : List D} {T : D → Prop} {rt : List (Nat × Nat)} (hV : vcOf Tryz.prog tbl rbt f none = V) (hrt : rbt.get f = rt) (hok : V.ok = true) (hΓ : tyOf Tryz.prog tbl f none = Γ) (hty : HasTys tbl.tab Γ ds) (r0 : D) (hT : T r0)
    (hden : FitsL ds → V.den Tryz.prog tbl.tab ds (fun d bs => T d ∧ bs = []) []) : ∃ r, T r ∧ FunR Tryz.prog f none ds r [] rt := by
  obtain ⟨⟨r, bs⟩, ⟨q1, q2⟩, q3⟩ := FunR.ex (T := fun d bs => T d ∧ bs = []) (r0 := (r0, [])) hV hok hΓ tbl_ok mo ⟨hT, rfl⟩ (bc := none) rfl (by simpa using hty) (fun _ d bs h => h.2) (fun h _ => by simpa using hden h)
  simp only at q2; subst q2
  exact ⟨r, q1, hrt ▸ q3⟩
theorem exR {f : FuncId} {xs : List D} {T : D → Prop} {rt : List (Nat × Nat)} (h : ∃ r, T r ∧ FunR Tryz.prog f none xs r [] rt) : ∃ r, T r ∧ Fun Tryz.prog f none xs r [] := by
  obtain ⟨r, h1, h2⟩ := h
  exact ⟨r, h1, .ofR h2⟩
theorem den_callRE {P : Program} {tab : Nat → List CT} {env : List D} {Q : D → List D → Prop} {L : List (List D → Prop)} {f : FuncId} {args : List E} {vt : VT} {rt : List (Nat × Nat)} {k : VC} {T : D → Prop} {xs : List D}
    (ha : args.map (·.den env) = xs) (hc : ∃ r, T r ∧ FunR P f none xs r [] rt) (hty : ∀ r, T r → HasVT tab vt r) (hk : ∀ r, T r → k.den P tab (env ++ [r]) Q L) : (VC.rq (.callR f none args vt [] rt) k).den P tab env Q L := by
  obtain ⟨r, h1, h2⟩ := hc
  exact ⟨r, [], hty r h1, trivial, ha ▸ h2, hk r h1⟩
/-- A loop of rounds 0 .. n; st k: its values at the k-th round's beginning; I k: what holds there. -/
theorem den_for {P : Program} {tab : Nat → List CT} {env : List D} {Q : D → List D → Prop} {L : List (List D → Prop)} {tys : List VT} {inits : List E} {body : VC}
    (n : Nat) (st : Nat → List D) (I : Nat → Prop) (h0 : inits.map (·.den env) = st 0) (hI : I 0)
    (hs : ∀ k, k ≤ n → I k → FitsL (st k) → body.den P tab (env ++ st k) Q ((fun ys => k < n ∧ ys = st (k + 1) ∧ I (k + 1)) :: L)) : (VC.loop tys inits body).den P tab env Q L := by
  classical
  -- the last round that has these values
  let last : List D → Nat → Nat := fun xs m => Nat.rec 0 (fun j r => if xs = st (j + 1) ∧ I (j + 1) then j + 1 else r) m
  have last_le : ∀ xs m, last xs m ≤ m := by
    intro xs m
    induction m with
    | zero => exact Nat.le_refl _
    | succ m ih =>
      show (if xs = st (m + 1) ∧ I (m + 1) then m + 1 else last xs m) ≤ m + 1
      split <;> omega
  have last_ge : ∀ xs m k, k ≤ m → xs = st k → I k → k ≤ last xs m := by
    intro xs m
    induction m with
    | zero => intro k hk _ _; omega
    | succ m ih =>
      intro k hk hx hi
      show k ≤ (if xs = st (m + 1) ∧ I (m + 1) then m + 1 else last xs m)
      by_cases h : k = m + 1
      · subst h; rw [if_pos ⟨hx, hi⟩]; exact Nat.le_refl _
      · have := ih k (by omega) hx hi
        split <;> omega
  have last_is : ∀ xs m k, k ≤ m → xs = st k → I k → xs = st (last xs m) ∧ I (last xs m) := by
    intro xs m
    induction m with
    | zero =>
      intro k hk hx hi
      have : k = 0 := by omega
      subst this; exact ⟨hx, hi⟩
    | succ m ih =>
      intro k hk hx hi
      show xs = st (if xs = st (m + 1) ∧ I (m + 1) then m + 1 else last xs m) ∧ I (if xs = st (m + 1) ∧ I (m + 1) then m + 1 else last xs m)
      by_cases h : xs = st (m + 1) ∧ I (m + 1)
      · rw [if_pos h]; exact h
      · rw [if_neg h]
        refine ih k ?_ hx hi
        rcases Nat.lt_or_ge k (m + 1) with hlt | hge
        · omega
        · have : k = m + 1 := by omega
          subst this; exact absurd ⟨hx, hi⟩ h
  refine ⟨fun xs => ∃ k, k ≤ n ∧ xs = st k ∧ I k, fun xs => n - last xs n, ⟨0, Nat.zero_le _, h0, hI⟩, ?_⟩
  rintro xs _ hf ⟨k, hk, hx, hi⟩
  obtain ⟨h1, h2⟩ := last_is xs n k hk hx hi
  have h3 := last_le xs n
  generalize hj : last xs n = j at *
  subst h1
  have := hs j h3 h2 hf
  refine VC.den_mono (fun _ _ h => h) _ _ ?_ this
  refine .cons (fun ys hys => ?_) (.refl _)
  obtain ⟨q1, q2, q3⟩ := hys
  refine ⟨⟨j + 1, by omega, q2, q3⟩, ?_⟩
  have := last_ge ys n (j + 1) (by omega) q2 q3
  show n - last ys n < n - last (st j) n
  rw [hj]; omega
theorem den_next {P : Program} {tab : Nat → List CT} {env : List D} {Q : D → List D → Prop} {L : List (List D → Prop)} {es : List E} {xs : List D} {p q : Prop}
    (hp : p) (h : es.map (·.den env) = xs) (hq : q) : (VC.again 0 es).den P tab env Q ((fun ys => p ∧ ys = xs ∧ q) :: L) := ⟨hp, h, hq⟩
/-- The state of a loop that counts. -/
def ix (k : Nat) : List D := [.int .i64 k]
theorem ix_inj (k k' : Nat) (h : ix k = ix k') : k = k' := by simp [ix] at h; omega
theorem ar_add {x y : Int} (h1 : -9223372036854775808 ≤ x + y) (h2 : x + y ≤ 9223372036854775807) : arI .add .i64 x y = x + y := wrap_i64 h1 h2
theorem ar_sub {x y : Int} (h1 : -9223372036854775808 ≤ x - y) (h2 : x - y ≤ 9223372036854775807) : arI .sub .i64 x y = x - y := wrap_i64 h1 h2
theorem rowsTy_map {α : Type} [Enc α] {tab : Nat → List CT} {ts : List CT} (h : ∀ x : α, RowTy tab ts (Enc.cells x)) (l : List α) : RowsTy tab ts (l.map Enc.cells) :=
  RowsTy.of (by intro r hr; obtain ⟨x, _, rfl⟩ := List.mem_map.1 hr; exact h x)
theorem fits_encS {α : Type} [Enc α] {l : List α} (h : Fits (encS l)) : l.length ≤ maxLen := by
  unfold encS Fits at h; simpa using h.1
theorem cmpI_lss (x y : Int) : cmpI .lss x y = decide (x < y) := rfl
theorem cmpI_leq (x y : Int) : cmpI .leq x y = decide (x ≤ y) := rfl
theorem cmpI_gtr (x y : Int) : cmpI .gtr x y = decide (x > y) := rfl
theorem cmpI_geq (x y : Int) : cmpI .geq x y = decide (x ≥ y) := rfl
theorem cmpI_eql (x y : Int) : cmpI .eql x y = (x == y) := rfl
theorem cmpI_neq (x y : Int) : cmpI .neq x y = (x != y) := rfl
/-- What most reckonings with data use, as one fact. -/
theorem dEq : (∀ {α β : Type} {f : α → β} {a : α} {l : List α}, List.map f (a :: l) = f a :: List.map f l) ∧ (∀ {α β : Type} {f : α → β}, List.map f [] = []) ∧ (∀ {α β : Type} (f : α → β), Option.map f none = none) ∧ (∀ {α β : Type} (a : α) (f : α → β), Option.map f (some a) = some (f a)) ∧
    (∀ {α : Type} {x : α} {xs : List α} {d : α}, (x :: xs).getD 0 d = x) ∧ (∀ {α : Type} {x : α} {xs : List α} {n : Nat} {d : α}, (x :: xs).getD (n + 1) d = xs.getD n d) ∧ (∀ {α : Type} {a : α} {r s : List α}, (a :: r) ++ s = a :: (r ++ s)) ∧ (∀ {α : Type} (r : List α), [] ++ r = r) ∧ (∀ {α : Type} (r : List α), r ++ [] = r) ∧
    (∀ {α : Type} {a : α} {l : List α} {i : Nat}, (a :: l).drop (i + 1) = l.drop i) ∧ (∀ {α : Type} {l : List α}, l.drop 0 = l) ∧ (∀ {α : Type} {a : α} {l : List α} {i : Nat}, (a :: l).take (i + 1) = a :: l.take i) ∧ (∀ {α : Type} {l : List α}, l.take 0 = []) ∧
    (∀ (k : IntKind) (n : Int), (D.int k n).toI = n) ∧ (∀ b : Bool, (D.bool b).toB = b) ∧ (∀ s : ByteArray, (D.str s).toS = s) ∧ (∀ l : List D, (D.agg l).toA = l) ∧ (∀ l : List D, (D.tup l).toT = l) ∧ (∀ l : List (List D), (D.sl l).toR = l) ∧
    (∀ {α : Type} [Enc α] (x : α), (enc x).toA = Enc.cells x) ∧ (∀ {α : Type} [Enc α] (l : List α), (encS l).toR = l.map Enc.cells) ∧ (∀ {α : Type} [Enc α] (l : List α), lenD (encS l) = l.length) :=
  ⟨by simp, by simp, by simp, by simp, by simp, by simp, by simp, by simp, by simp, by simp, by simp, by simp, by simp, by simp, by simp, by simp, by simp, by simp, by simp, by simp, by simp, by simp⟩
theorem iEq : (∀ x y : Int, cmpI .lss x y = decide (x < y)) ∧ (∀ x y : Int, cmpI .leq x y = decide (x ≤ y)) ∧ (∀ x y : Int, cmpI .gtr x y = decide (x > y)) ∧ (∀ x y : Int, cmpI .geq x y = decide (x ≥ y)) ∧ (∀ x y : Int, cmpI .eql x y = (x == y)) ∧ (∀ x y : Int, cmpI .neq x y = (x != y)) ∧ (∀ n : Nat, (n : Int).toNat = n) ∧ (0 : Int).toNat = 0 :=
  ⟨cmpI_lss, cmpI_leq, cmpI_gtr, cmpI_geq, cmpI_eql, cmpI_neq, Int.toNat_natCast, rfl⟩
end Go.Proofs.YtgaeigomhhbkfaaGreat
