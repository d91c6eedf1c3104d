/- Contracts out of conditions, for the user: lists of data as lists of structures; loops; calls. -/
import Derived.Test.YtjenbnoflaoekaaV0
import Derived.Test.YtjenbnoflaoekaaV1
import Derived.Test.YtjenbnoflaoekaaV2
import Derived.Test.YtjenbnoflaoekaaV3
namespace Go.Proofs.Ytjenbnoflaoekaa
open Go.RowKit Go
set_option linter.unusedVariables false
set_option linter.unusedSimpArgs false

theorem mo : Try.prog.follows .mixedOrders = true := by kernel_rfl
/-- The contract out of the condition. -/
theorem Fun.ofV {f : FuncId} {V : VC} {Γ : List VT} (hV : vcOf Try.prog tbl f none = V) (hΓ : tyOf Try.prog tbl f none = Γ) (hok : V.ok = true) {ds : List D} {r : D}
    (hty : HasTys tbl.tab Γ ds) (hden : FitsL ds → V.den Try.prog tbl.tab ds (fun d bs => d = r ∧ bs = []) []) : Fun Try.prog f none ds r [] :=
  Fun.of hV hok hΓ tbl_ok mo rfl (by simpa using hty) (fun _ => rfl) (fun h _ => by simpa using hden h)
/-- A structure of the program as its cells. -/
class Enc (α : Type) extends Inhabited α where
  cells : α → List D
def nth {α : Type} [Inhabited α] (l : List α) (k : Nat) : α := l.getD k default
def enc {α : Type} [Enc α] (x : α) : D := .agg (Enc.cells x)
def encS {α : Type} [Enc α] (l : List α) : D := .sl (l.map Enc.cells)
theorem row_enc {α : Type} [Enc α] (l : List α) (k : Nat) {z : List D} (h : Enc.cells (default : α) = z) : D.agg (((l.map Enc.cells)[k]?).getD z) = enc (nth l k) := by
  unfold enc nth
  rw [List.getD_eq_getElem?_getD, List.getElem?_map]
  cases l[k]? <;> simp [h]
@[simp] theorem encS_toR {α : Type} [Enc α] (l : List α) : (encS l).toR = l.map Enc.cells := rfl
@[simp] theorem encS_len {α : Type} [Enc α] (l : List α) : lenD (encS l) = l.length := by simp [encS, lenD]
@[simp] theorem enc_toA {α : Type} [Enc α] (x : α) : (enc x).toA = Enc.cells x := rfl
/-- A loop: its state, how it lies in the data, what holds, what grows less. -/
theorem den_loop {P : Program} {tab : Nat → List CT} {env : List D} {Q : D → List D → Prop} {L : List (List D → Prop)} {tys : List VT} {inits : List E} {body : VC}
    (St : Type) (e : St → List D) (I : St → Prop) (μ : St → Nat) (s0 : St) (hμ : ∀ s s', e s = e s' → μ s = μ s') (h0 : inits.map (·.den env) = e s0) (hI : I s0)
    (hs : ∀ s, I s → FitsL (e s) → body.den P tab (env ++ e s) Q ((fun ys => ∃ s', ys = e s' ∧ I s' ∧ μ s' < μ s) :: L)) : (VC.loop tys inits body).den P tab env Q L := by
  classical
  let m : List D → Nat := fun xs => if h : ∃ s, xs = e s then μ h.choose else 0
  have hm : ∀ s, m (e s) = μ s := by
    intro s
    have hx : ∃ s', e s = e s' := ⟨s, rfl⟩
    show (if h : ∃ s', e s = e s' then μ h.choose else 0) = μ s
    rw [dif_pos hx]
    exact (hμ _ _ hx.choose_spec).symm
  refine ⟨fun xs => ∃ s, xs = e s ∧ I s, m, ⟨s0, h0, hI⟩, ?_⟩
  rintro xs _ hf ⟨s, rfl, hIs⟩
  have := hs s hIs hf
  have he : (fun ys => (∃ s, ys = e s ∧ I s) ∧ m ys < m (e s)) = (fun ys => ∃ s', ys = e s' ∧ I s' ∧ μ s' < μ s) := by
    funext ys
    apply propext
    constructor
    · rintro ⟨⟨s', rfl, h⟩, h2⟩; exact ⟨s', rfl, h, by rwa [hm, hm] at h2⟩
    · rintro ⟨s', rfl, h, h2⟩; exact ⟨⟨s', rfl, h⟩, by rwa [hm, hm]⟩
  rw [he]
  exact this
theorem wrap_i64 {n : Int} (h1 : -9223372036854775808 ≤ n) (h2 : n ≤ 9223372036854775807) : IntKind.i64.wrap n = n := by
  simp only [IntKind.wrap, IntKind.bits, IntKind.signed]
  simp
  omega
/-- A call whose answer a contract gives. -/
theorem den_call {P : Program} {tab : Nat → List CT} {env : List D} {Q : D → List D → Prop} {L : List (List D → Prop)} {gs : Gd} {f : FuncId} {args : List E} {vt : VT} {k : VC} {r : D} {xs : List D}
    (ha : args.map (·.den env) = xs) (hc : Fun P f none xs r []) (hty : HasVT tab vt r) (hk : k.den P tab (env ++ [r]) Q L) : (VC.rq (.call gs f none args vt []) k).den P tab env Q L :=
  ⟨r, [], hty, trivial, fun _ => ha ▸ hc, hk⟩
/-- A call with something to show, which its guards give. -/
theorem den_callg {P : Program} {tab : Nat → List CT} {env : List D} {Q : D → List D → Prop} {L : List (List D → Prop)} {gs : Gd} {f : FuncId} {args : List E} {vt : VT} {k : VC} {r : D} {xs : List D}
    (ha : args.map (·.den env) = xs) (hc : gsH env gs → Fun P f none xs r []) (hty : HasVT tab vt r) (hk : k.den P tab (env ++ [r]) Q L) : (VC.rq (.call gs f none args vt []) k).den P tab env Q L :=
  ⟨r, [], hty, trivial, fun h => ha ▸ hc h, hk⟩
theorem den_cond {P : Program} {tab : Nat → List CT} {env : List D} {Q : D → List D → Prop} {L : List (List D → Prop)} {gs : Gd} {c : E} {k : VC}
    (h : gsH env gs → c.den env = .bool true) (hk : k.den P tab env Q L) : (VC.rq (.cond gs c) k).den P tab env Q L := ⟨h, hk⟩
theorem den_ite {P : Program} {tab : Nat → List CT} {env : List D} {Q : D → List D → Prop} {L : List (List D → Prop)} {c : E} {a b : VC}
    (h1 : (c.den env).toB = true → a.den P tab env Q L) (h2 : (c.den env).toB = false → b.den P tab env Q L) : (VC.ite c a b).den P tab env Q L := ⟨h1, h2⟩
theorem den_ret {P : Program} {tab : Nat → List CT} {env : List D} {L : List (List D → Prop)} {e : E} {r : D} (h : e.den env = r) : (VC.ret e []).den P tab env (fun d bs => d = r ∧ bs = []) L := ⟨h, rfl⟩
theorem den_again {P : Program} {tab : Nat → List CT} {env : List D} {Q : D → List D → Prop} {L : List (List D → Prop)} {es : List E} {St : Type} {e : St → List D} {I : St → Prop} {μ : St → Nat} {m : Nat} (s' : St)
    (h : es.map (·.den env) = e s') (hI : I s') (hm : μ s' < m) : (VC.again 0 es).den P tab env Q ((fun ys => ∃ s', ys = e s' ∧ I s' ∧ μ s' < m) :: L) := ⟨s', h, hI, hm⟩
/-- The state of a loop that counts. -/
def ix (k : Nat) : List D := [.int .i64 k]
theorem ix_inj (k k' : Nat) (h : ix k = ix k') : k = k' := by simp [ix] at h; omega
theorem ar_add {x y : Int} (h1 : -9223372036854775808 ≤ x + y) (h2 : x + y ≤ 9223372036854775807) : arI .add .i64 x y = x + y := wrap_i64 h1 h2
theorem ar_sub {x y : Int} (h1 : -9223372036854775808 ≤ x - y) (h2 : x - y ≤ 9223372036854775807) : arI .sub .i64 x y = x - y := wrap_i64 h1 h2
theorem rowsTy_map {α : Type} [Enc α] {tab : Nat → List CT} {ts : List CT} (h : ∀ x : α, RowTy tab ts (Enc.cells x)) (l : List α) : RowsTy tab ts (l.map Enc.cells) :=
  RowsTy.of (by intro r hr; obtain ⟨x, _, rfl⟩ := List.mem_map.1 hr; exact h x)
theorem fits_encS {α : Type} [Enc α] {l : List α} (h : Fits (encS l)) : l.length ≤ maxLen := by
  unfold encS Fits at h; simpa using h.1
theorem cmpI_lss (x y : Int) : cmpI .lss x y = decide (x < y) := rfl
theorem cmpI_leq (x y : Int) : cmpI .leq x y = decide (x ≤ y) := rfl
theorem cmpI_gtr (x y : Int) : cmpI .gtr x y = decide (x > y) := rfl
theorem cmpI_geq (x y : Int) : cmpI .geq x y = decide (x ≥ y) := rfl
theorem cmpI_eql (x y : Int) : cmpI .eql x y = (x == y) := rfl
theorem cmpI_neq (x y : Int) : cmpI .neq x y = (x != y) := rfl
end Go.Proofs.Ytjenbnoflaoekaa
