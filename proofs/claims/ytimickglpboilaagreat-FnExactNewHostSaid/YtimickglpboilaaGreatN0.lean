/- General lemmas on worlds, cells and results, used by all walks of this seat. Nothing is assumed. -/
import Derived.Test.YtimickglpboilaaGreatProg
import Derived.WalkKit
import Derived.Handy
import Derived.Deep.QuietTactic
import Derived.BigQuiet
import Derived.Lib.Hide
import Derived.Deep.Draws
import Derived.StillTailTactics
import Derived.Deep.RegionHeld3
import Derived.Laws.Rows
import Derived.Laws.ResultCell
import Derived.Laws.BitsLemmas
import Derived.Laws.BitsAllLaws
import Derived.Below
import Derived.Laws.BytesArg
import Derived.Laws.StructEq
set_option linter.unusedSectionVars false
set_option linter.unusedVariables false
set_option linter.unusedSimpArgs false
namespace Go.Proofs.YtimickglpboilaaGreat
open Go.RowKit
theorem cell_keep {w w1 : World} {p : Addr} {v : Value} (hb : Below w.heap.size w w1) (h : w.cell? p = some v) : w1.cell? p = some v := by
 rw [hb.cell (block_lt_of_cell h)]; exact h
theorem bt {w a b : World} (h : Below w.heap.size w a) (k : Below a.heap.size a b) : Below w.heap.size w b := h.trans (k.mono h.size)
def RBlk (w : World) (g : Nat) (t : TypeId) (cs : Array Value) : Prop := w.heap[g]? = some (.cells cs t (0, 0))
section
variable {w w' : World} {g : Nat} {t : TypeId} {cs : Array Value}
theorem RBlk.lt (h : RBlk w g t cs) : g < w.heap.size := by
 rcases Nat.lt_or_ge g w.heap.size with hlt | hge
 ·exact hlt
 ·unfold RBlk at h; rw [Array.getElem?_eq_none hge] at h; cases h
theorem RBlk.cell (h : RBlk w g t cs) (i : Nat) : w.cell? ⟨g, i, none⟩ = cs[i]? := cell_of_row w g i cs t (0, 0) h
theorem RBlk.frozen (h : RBlk w g t cs) (i : Nat) : w.frozen? ⟨g, i, none⟩ = false := by
 unfold RBlk at h
 simp [World.frozen?, h]
theorem RBlk.new (w : World) (t : TypeId) (cs : Array Value) : RBlk (w.alloc (.cells cs t)) w.heap.size t cs := heap_alloc_new w _
theorem RBlk.alloc (h : RBlk w g t cs) (o : Obj) : RBlk (w.alloc o) g t cs := (Below.heap_alloc w o g h.lt).trans h
theorem RBlk.set_ (h : RBlk w g t cs) (i : Nat) (u : Value) : RBlk (w.setCell ⟨g, i, none⟩ u) g t (cs.setIfInBounds i u) := by
 unfold RBlk at h ⊢
 simp [World.setCell, Array.getElem?_modify, h]
theorem RBlk.below {B : Nat} (h : RBlk w g t cs) (hb : Below B w w') (hg : g < B) : RBlk w' g t cs := (hb.block g hg).trans h
end
end Go.Proofs.YtimickglpboilaaGreat
/- What the package-level variables hold that the library's functions read, throughout a run: a class, for each law says it anew. ng: how many blocks are theirs. -/
namespace Go.Proofs.YtimickglpboilaaGreat
open Go.RowKit
class GC where
 inv : World → Prop
 ng : Nat
 keep : ∀ {w w' : World}, (∀ k, k < ng → w'.heap[k]? = w.heap[k]?) → inv w → inv w'
section
variable [GC]
def NG : Nat := GC.ng
def GInv (w : World) : Prop := GC.inv w
theorem GInv.keep {w w' : World} (h : ∀ k, k < NG → w'.heap[k]? = w.heap[k]?) (hw : GInv w) : GInv w' := GC.keep h hw
end
end Go.Proofs.YtimickglpboilaaGreat
/- Abstract data: what Go values hold, without memory; how a value reads as data in a world; what keeps a reading. No program in sight. -/
namespace Go.Proofs.YtimickglpboilaaGreat
open Go.RowKit
inductive D where
 | bool (b : Bool)
 | int (k : IntKind) (n : Int)
 | str (s : ByteArray)
 | agg (l : List D)
 | tup (l : List D)
 | sl (rows : List (List D))
 /-- A row that is someone's own: how long it is, and nothing of what it holds. -/
 | mem (n : Nat)
 /-- A function with what it has captured: for each captured variable its cells. -/
 | fn (f : Nat) (caps : List (List D))
 | un
instance : Inhabited D := ⟨.un⟩
mutual
def R (w : World) (M : Addr → Prop) : D → Value → Prop
 | .bool b, v => v = .bool b
 | .int k n, v => v = .int k n ∧ k.min ≤ n ∧ n ≤ k.max
 | .str s, v => v = .string s ∧ s.size ≤ maxLen
 | .agg l, v => ∃ cs : Array Value, v = .agg cs ∧ Rs w M l cs.toList
 | .tup l, v => ∃ cs : Array Value, v = .tuple cs ∧ Rs w M l cs.toList
 | .sl rows, v => ∃ a len cap, v = .slice a len cap ∧ len = rows.length ∧ len ≤ cap ∧ cap ≤ maxLen ∧ (a = none → cap = 0) ∧
   ∀ b o s, a = some ⟨b, o, s⟩ → (0 < len → s = none) ∧ Rws w M rows b o
 | .mem n, v => ∃ a cap, v = .slice a n cap ∧ n ≤ cap ∧ cap ≤ maxLen ∧ (a = none → cap = 0) ∧ ∀ b o s, a = some ⟨b, o, s⟩ → 0 < n → s = none
 | .fn f caps, v => ∃ ps : Array Value, v = .func (.func f) #[] ps ∧ Rps w M caps ps.toList
 | .un, _ => False
def Rs (w : World) (M : Addr → Prop) : List D → List Value → Prop
 | [], vs => vs = []
 | d :: l, vs => ∃ v r, vs = v :: r ∧ R w M d v ∧ Rs w M l r
def Rw (w : World) (M : Addr → Prop) : List D → Nat → Nat → Prop
 | [], _, _ => True
 | d :: l, b, o => (∃ v, w.cell? ⟨b, o, none⟩ = some v ∧ ¬ M ⟨b, o, none⟩ ∧ R w M d v) ∧ Rw w M l b (o + 1)
def Rws (w : World) (M : Addr → Prop) : List (List D) → Nat → Nat → Prop
 | [], _, _ => True
 | r :: l, b, o => Rw w M r b o ∧ Rws w M l b (o + r.length)
def Rps (w : World) (M : Addr → Prop) : List (List D) → List Value → Prop
 | [], vs => vs = []
 | r :: l, vs => ∃ b q, vs = .pointer (some ⟨b, 0, none⟩) :: q ∧ Rw w M r b 0 ∧ Rps w M l q
end
def Keeps (w : World) (M : Addr → Prop) (w' : World) (M' : Addr → Prop) : Prop := ∀ p v, w.cell? p = some v → ¬ M p → w'.cell? p = some v ∧ ¬ M' p
section
variable {w w' : World} {M M' : Addr → Prop}
mutual
theorem R.keep (h : Keeps w M w' M') : ∀ (d : D) (v : Value), R w M d v → R w' M' d v
 | .bool _, _, hr => hr
 | .int _ _, _, hr => hr
 | .str _, _, hr => hr
 | .agg l, v, ⟨cs, e, hr⟩ => ⟨cs, e, Rs.keep h l _ hr⟩
 | .tup l, v, ⟨cs, e, hr⟩ => ⟨cs, e, Rs.keep h l _ hr⟩
 | .sl rows, v, ⟨a, len, cap, e, h1, h2, h3, h4, h5⟩ => ⟨a, len, cap, e, h1, h2, h3, h4, fun b o s ha => ⟨(h5 b o s ha).1, Rws.keep h rows b o (h5 b o s ha).2⟩⟩
 | .mem _, _, hr => hr
 | .fn _ caps, v, ⟨ps, e, hr⟩ => ⟨ps, e, Rps.keep h caps _ hr⟩
 | .un, _, hr => hr
theorem Rs.keep (h : Keeps w M w' M') : ∀ (l : List D) (vs : List Value), Rs w M l vs → Rs w' M' l vs
 | [], _, hr => hr
 | d :: l, vs, ⟨v, r, e, h1, h2⟩ => ⟨v, r, e, R.keep h d v h1, Rs.keep h l r h2⟩
theorem Rw.keep (h : Keeps w M w' M') : ∀ (l : List D) (b o : Nat), Rw w M l b o → Rw w' M' l b o
 | [], _, _, _ => trivial
 | d :: l, b, o, ⟨⟨v, h1, h2, h3⟩, h4⟩ => ⟨⟨v, (h _ _ h1 h2).1, (h _ _ h1 h2).2, R.keep h d v h3⟩, Rw.keep h l b (o + 1) h4⟩
theorem Rws.keep (h : Keeps w M w' M') : ∀ (l : List (List D)) (b o : Nat), Rws w M l b o → Rws w' M' l b o
 | [], _, _, _ => trivial
 | r :: l, b, o, ⟨h1, h2⟩ => ⟨Rw.keep h r b o h1, Rws.keep h l b (o + r.length) h2⟩
theorem Rps.keep (h : Keeps w M w' M') : ∀ (l : List (List D)) (vs : List Value), Rps w M l vs → Rps w' M' l vs
 | [], _, hr => hr
 | r :: l, vs, ⟨b, q, e, h1, h2⟩ => ⟨b, q, e, Rw.keep h r b 0 h1, Rps.keep h l q h2⟩
end
theorem Rps.snoc {r : List D} {b : Nat} (h : Rw w M r b 0) : ∀ {l : List (List D)} {vs : List Value}, Rps w M l vs → Rps w M (l ++ [r]) (vs ++ [.pointer (some ⟨b, 0, none⟩)])
 | [], _, hr => by subst hr; exact ⟨b, [], rfl, h, rfl⟩
 | r' :: l, vs, ⟨b', q, e, h1, h2⟩ => by subst e; exact ⟨b', q ++ [_], rfl, h1, Rps.snoc h h2⟩
theorem Rps.length : ∀ {l : List (List D)} {vs : List Value}, Rps w M l vs → vs.length = l.length
 | [], _, h => by subst h; rfl
 | _ :: l, _, ⟨_, _, e, _, h2⟩ => by subst e; simp [Rps.length h2]
theorem Rps.get : ∀ {l : List (List D)} {vs : List Value}, Rps w M l vs → ∀ {i : Nat} {r : List D}, l[i]? = some r → ∃ b, vs[i]? = some (.pointer (some ⟨b, 0, none⟩)) ∧ Rw w M r b 0
 | [], _, _, i, r, hr => by simp at hr
 | r :: l, _, ⟨b, q, e, h1, h2⟩, 0, r', hr => by subst e; simp at hr; subst hr; exact ⟨b, rfl, h1⟩
 | r :: l, _, ⟨b, q, e, h1, h2⟩, i + 1, r', hr => by subst e; simp at hr; obtain ⟨u, hu, h3⟩ := Rps.get h2 hr; exact ⟨u, by simpa using hu, h3⟩
theorem Rs.length : ∀ {l : List D} {vs : List Value}, Rs w M l vs → vs.length = l.length
 | [], _, h => by subst h; rfl
 | d :: l, vs, ⟨v, r, e, h1, h2⟩ => by subst e; simp [Rs.length h2]
theorem Rs.get : ∀ {l : List D} {vs : List Value}, Rs w M l vs → ∀ {i : Nat} {d : D}, l[i]? = some d → ∃ v, vs[i]? = some v ∧ R w M d v
 | [], _, _, i, d, hd => by simp at hd
 | d :: l, vs, ⟨v, r, e, h1, h2⟩, 0, d', hd => by subst e; simp at hd; subst hd; exact ⟨v, rfl, h1⟩
 | d :: l, vs, ⟨v, r, e, h1, h2⟩, i + 1, d', hd => by subst e; simp at hd; obtain ⟨u, hu, hr⟩ := Rs.get h2 hd; exact ⟨u, by simpa using hu, hr⟩
theorem Rs.append : ∀ {l l' : List D} {vs vs' : List Value}, Rs w M l vs → Rs w M l' vs' → Rs w M (l ++ l') (vs ++ vs')
 | [], _, _, _, h, h' => by subst h; simpa using h'
 | d :: l, _, vs, vs', ⟨v, r, e, h1, h2⟩, h' => by subst e; exact ⟨v, r ++ vs', rfl, h1, Rs.append h2 h'⟩
theorem Rs.drop : ∀ {l : List D} {vs : List Value}, Rs w M l vs → ∀ n, Rs w M (l.drop n) (vs.drop n)
 | _, _, h, 0 => by simpa using h
 | [], _, h, n + 1 => by subst h; simp [Rs]
 | d :: l, vs, ⟨v, r, e, h1, h2⟩, n + 1 => by subst e; simpa using Rs.drop h2 n
theorem Rs.take : ∀ {l : List D} {vs : List Value}, Rs w M l vs → ∀ n, Rs w M (l.take n) (vs.take n)
 | _, _, h, 0 => by simp [Rs]
 | [], _, h, n + 1 => by subst h; simp [Rs]
 | d :: l, vs, ⟨v, r, e, h1, h2⟩, n + 1 => by subst e; exact ⟨v, r.take n, by simp, h1, Rs.take h2 n⟩
theorem Rs.one {d : D} {v : Value} (h : R w M d v) : Rs w M [d] [v] := ⟨v, [], rfl, h, rfl⟩
theorem Rw.get : ∀ {l : List D} {b o : Nat}, Rw w M l b o → ∀ {i : Nat} {d : D}, l[i]? = some d → ∃ v, w.cell? ⟨b, o + i, none⟩ = some v ∧ ¬ M ⟨b, o + i, none⟩ ∧ R w M d v
 | [], _, _, _, i, d, hd => by simp at hd
 | d :: l, b, o, ⟨h1, h2⟩, 0, d', hd => by simp at hd; subst hd; simpa using h1
 | d :: l, b, o, ⟨h1, h2⟩, i + 1, d', hd => by
  simp at hd
  have := Rw.get h2 hd
  rwa [show o + 1 + i = o + (i + 1) by omega] at this
theorem Rw.drop : ∀ {l : List D} {b o : Nat}, Rw w M l b o → ∀ n, Rw w M (l.drop n) b (o + n)
 | _, _, _, h, 0 => by simpa using h
 | [], _, _, h, n + 1 => by simp [Rw]
 | d :: l, b, o, ⟨h1, h2⟩, n + 1 => by
  have := Rw.drop h2 n
  simpa [Nat.add_assoc, Nat.add_comm 1 n] using this
theorem Rw.take : ∀ {l : List D} {b o : Nat}, Rw w M l b o → ∀ n, Rw w M (l.take n) b o
 | _, _, _, h, 0 => by simp [Rw]
 | [], _, _, h, n + 1 => by simp [Rw]
 | d :: l, b, o, ⟨h1, h2⟩, n + 1 => ⟨h1, Rw.take h2 n⟩
theorem Rw.of : ∀ {l : List D} {b o : Nat}, (∀ i d, l[i]? = some d → ∃ v, w.cell? ⟨b, o + i, none⟩ = some v ∧ ¬ M ⟨b, o + i, none⟩ ∧ R w M d v) → Rw w M l b o
 | [], _, _, _ => trivial
 | d :: l, b, o, h => ⟨by simpa using h 0 d rfl, Rw.of fun i d' hd => by
   have := h (i + 1) d' (by simpa using hd)
   rwa [show o + (i + 1) = o + 1 + i by omega] at this⟩
theorem Rw.cells : ∀ {l : List D} {b o : Nat}, Rw w M l b o → ∃ vs : List Value, vs.length = l.length ∧ Rs w M l vs ∧ ∀ i u, vs[i]? = some u → w.cell? ⟨b, o + i, none⟩ = some u
 | [], _, _, _ => ⟨[], rfl, rfl, fun i u h => by simp at h⟩
 | d :: l, b, o, ⟨⟨v, h1, h2, h3⟩, h4⟩ => by
  obtain ⟨vs, e, hr, hc⟩ := Rw.cells h4
  refine ⟨v :: vs, by simp [e], ⟨v, vs, rfl, h3, hr⟩, fun i u hu => ?_⟩
  cases i with
  | zero => simp at hu; subst hu; simpa using h1
  | succ i => simp at hu; have := hc i u hu; rwa [show o + 1 + i = o + (i + 1) by omega] at this
theorem Rws.get {n : Nat} : ∀ {rows : List (List D)} {b o : Nat}, Rws w M rows b o → (∀ r ∈ rows, r.length = n) → ∀ {i : Nat} {r : List D}, rows[i]? = some r → Rw w M r b (o + i * n)
 | [], _, _, _, _, i, r, hr => by simp at hr
 | r :: l, b, o, ⟨h1, h2⟩, hn, 0, r', hr => by simp at hr; subst hr; simpa using h1
 | r :: l, b, o, ⟨h1, h2⟩, hn, i + 1, r', hr => by
  simp at hr
  have e := hn r (by simp)
  have := Rws.get h2 (fun x hx => hn x (by simp [hx])) hr
  rw [e] at this
  rwa [show o + n + i * n = o + (i + 1) * n by rw [Nat.add_mul]; omega] at this
theorem Rws.of {n : Nat} : ∀ {rows : List (List D)} {b o : Nat}, (∀ r ∈ rows, r.length = n) → (∀ i r, rows[i]? = some r → Rw w M r b (o + i * n)) → Rws w M rows b o
 | [], _, _, _, _ => trivial
 | r :: l, b, o, hn, h => ⟨by simpa using h 0 r rfl, Rws.of (fun x hx => hn x (by simp [hx])) fun i r' hr => by
   have := h (i + 1) r' (by simpa using hr)
   rw [hn r (by simp)]
   rwa [show o + (i + 1) * n = o + n + i * n by rw [Nat.add_mul]; omega] at this⟩
end
section
variable [GC]
def Rdy (w : World) (M : Addr → Prop) : Prop := (∀ p, M p → p.block < w.heap.size) ∧ GInv w ∧ NG ≤ w.heap.size
end
theorem Keeps.below {w w' : World} {M M' : Addr → Prop} (hb : Below w.heap.size w w') (hM : ∀ p, p.block < w.heap.size → M' p → M p) : Keeps w M w' M' :=
 fun p v hp hm => ⟨by rw [hb.cell (block_lt_of_cell hp)]; exact hp, fun h => hm (hM p (block_lt_of_cell hp) h)⟩
inductive CT where
 | bool | int (k : IntKind) | str | sl (e : Nat) | mem | fn
 deriving DecidableEq
mutual
def HasTy (tab : Nat → List CT) : CT → D → Prop
 | .bool, .bool _ => True
 | .int k, .int k' _ => k = k'
 | .str, .str _ => True
 | .sl e, .sl rows => RowsTy tab (tab e) rows
 | .mem, .mem _ => True
 | .fn, .fn _ _ => True
 | _, _ => False
def RowTy (tab : Nat → List CT) : List CT → List D → Prop
 | [], [] => True
 | t :: ts, d :: ds => HasTy tab t d ∧ RowTy tab ts ds
 | _, _ => False
def RowsTy (tab : Nat → List CT) : List CT → List (List D) → Prop
 | _, [] => True
 | ts, r :: rs => RowTy tab ts r ∧ RowsTy tab ts rs
end
theorem RowTy.length {tab : Nat → List CT} : ∀ {ts : List CT} {l : List D}, RowTy tab ts l → l.length = ts.length
 | [], [], _ => rfl
 | t :: ts, d :: ds, h => by simp [RowTy] at h; simp [RowTy.length h.2]
 | [], _ :: _, h => by simp [RowTy] at h
 | _ :: _, [], h => by simp [RowTy] at h
theorem RowsTy.mem {tab : Nat → List CT} {ts : List CT} : ∀ {rows : List (List D)}, RowsTy tab ts rows → ∀ r ∈ rows, RowTy tab ts r
 | [], _, r, hr => by simp at hr
 | r :: l, h, r', hr => by
  simp [RowsTy] at h
  rcases List.mem_cons.1 hr with e | e
  ·subst e; exact h.1
  ·exact RowsTy.mem h.2 r' e
theorem RowsTy.of {tab : Nat → List CT} {ts : List CT} : ∀ {rows : List (List D)}, (∀ r ∈ rows, RowTy tab ts r) → RowsTy tab ts rows
 | [], _ => by simp [RowsTy]
 | r :: l, h => by simp only [RowsTy]; exact ⟨h r (by simp), RowsTy.of fun x hx => h x (by simp [hx])⟩
theorem RowsTy.len {tab : Nat → List CT} {ts : List CT} {rows : List (List D)} (h : RowsTy tab ts rows) : ∀ r ∈ rows, r.length = ts.length := fun r hr => (h.mem r hr).length
theorem RowTy.get {tab : Nat → List CT} : ∀ {ts : List CT} {l : List D}, RowTy tab ts l → ∀ {i : Nat} {t : CT}, ts[i]? = some t → ∃ d, l[i]? = some d ∧ HasTy tab t d
 | [], _, _, i, t, ht => by simp at ht
 | t :: ts, d :: ds, h, 0, t', ht => by simp [RowTy] at h; simp at ht; subst ht; exact ⟨d, rfl, h.1⟩
 | t :: ts, d :: ds, h, i + 1, t', ht => by simp [RowTy] at h; simp at ht; obtain ⟨x, hx, h2⟩ := RowTy.get h.2 ht; exact ⟨x, by simpa using hx, h2⟩
 | _ :: _, [], h, _, _, _ => by simp [RowTy] at h
theorem RowTy.append {tab : Nat → List CT} : ∀ {ts ts' : List CT} {l l' : List D}, RowTy tab ts l → RowTy tab ts' l' → RowTy tab (ts ++ ts') (l ++ l')
 | [], _, [], _, _, h' => by simpa using h'
 | t :: ts, _, d :: ds, _, h, h' => by simp [RowTy] at h; simp only [List.cons_append, RowTy]; exact ⟨h.1, RowTy.append h.2 h'⟩
 | [], _, _ :: _, _, h, _ => by simp [RowTy] at h
 | _ :: _, _, [], _, h, _ => by simp [RowTy] at h
theorem RowTy.drop {tab : Nat → List CT} : ∀ {ts : List CT} {l : List D}, RowTy tab ts l → ∀ n, RowTy tab (ts.drop n) (l.drop n)
 | _, _, h, 0 => by simpa using h
 | [], [], h, n + 1 => by simp [RowTy]
 | t :: ts, d :: ds, h, n + 1 => by simp [RowTy] at h; simpa using RowTy.drop h.2 n
 | [], _ :: _, h, _ + 1 => by simp [RowTy] at h
 | _ :: _, [], h, _ + 1 => by simp [RowTy] at h
theorem RowTy.take {tab : Nat → List CT} : ∀ {ts : List CT} {l : List D}, RowTy tab ts l → ∀ n, RowTy tab (ts.take n) (l.take n)
 | _, _, h, 0 => by simp [RowTy]
 | [], [], h, n + 1 => by simp [RowTy]
 | t :: ts, d :: ds, h, n + 1 => by simp [RowTy] at h; simp only [List.take_succ_cons, RowTy]; exact ⟨h.1, RowTy.take h.2 n⟩
 | [], _ :: _, h, _ + 1 => by simp [RowTy] at h
 | _ :: _, [], h, _ + 1 => by simp [RowTy] at h
mutual
def Fits : D → Prop
 | .int k n => k.min ≤ n ∧ n ≤ k.max
 | .str s => s.size ≤ maxLen
 | .agg l => FitsL l
 | .tup l => FitsL l
 | .sl rows => rows.length ≤ maxLen ∧ FitsR rows
 | _ => True
def FitsL : List D → Prop
 | [] => True
 | d :: l => Fits d ∧ FitsL l
def FitsR : List (List D) → Prop
 | [] => True
 | r :: l => FitsL r ∧ FitsR l
end
section
variable {w : World} {M : Addr → Prop}
mutual
theorem R.fits : ∀ (d : D) (v : Value), R w M d v → Fits d
 | .bool _, _, _ => trivial
 | .int _ _, _, h => h.2
 | .str _, _, h => h.2
 | .agg l, v, ⟨cs, e, hr⟩ => Rs.fits l _ hr
 | .tup l, v, ⟨cs, e, hr⟩ => Rs.fits l _ hr
 | .sl rows, v, ⟨a, len, cap, e, h1, h2, h3, h4, h5⟩ => ⟨by omega, by
   rcases a with _ | ⟨b, o, s⟩
   ·have : rows = [] := List.eq_nil_of_length_eq_zero (by have := h4 rfl; omega)
    subst this; trivial
   ·exact Rws.fits rows b o (h5 b o s rfl).2⟩
 | .mem _, _, _ => trivial
 | .fn _ _, _, _ => trivial
 | .un, _, h => h.elim
theorem Rs.fits : ∀ (l : List D) (vs : List Value), Rs w M l vs → FitsL l
 | [], _, _ => trivial
 | d :: l, vs, ⟨v, r, e, h1, h2⟩ => ⟨R.fits d v h1, Rs.fits l r h2⟩
theorem Rw.fits : ∀ (l : List D) (b o : Nat), Rw w M l b o → FitsL l
 | [], _, _, _ => trivial
 | d :: l, b, o, ⟨⟨v, h1, h2, h3⟩, h4⟩ => ⟨R.fits d v h3, Rw.fits l b (o + 1) h4⟩
theorem Rws.fits : ∀ (l : List (List D)) (b o : Nat), Rws w M l b o → FitsR l
 | [], _, _, _ => trivial
 | r :: l, b, o, ⟨h1, h2⟩ => ⟨Rw.fits r b o h1, Rws.fits l b (o + r.length) h2⟩
end
end
end Go.Proofs.YtimickglpboilaaGreat
/- Expressions over abstract data, their types and values. No program in sight. -/
namespace Go.Proofs.YtimickglpboilaaGreat
open Go.RowKit
def D.toI : D → Int | .int _ n => n | _ => 0
def D.toB : D → Bool | .bool b => b | _ => false
def D.toS : D → ByteArray | .str s => s | _ => .empty
def D.toA : D → List D | .agg l => l | _ => []
def D.toT : D → List D | .tup l => l | _ => []
def D.toR : D → List (List D) | .sl r => r | _ => []
@[simp] theorem D.toI_int (k : IntKind) (n : Int) : (D.int k n).toI = n := rfl
@[simp] theorem D.toB_bool (b : Bool) : (D.bool b).toB = b := rfl
@[simp] theorem D.toS_str (s : ByteArray) : (D.str s).toS = s := rfl
@[simp] theorem D.toA_agg (l : List D) : (D.agg l).toA = l := rfl
@[simp] theorem D.toT_tup (l : List D) : (D.tup l).toT = l := rfl
@[simp] theorem D.toR_sl (l : List (List D)) : (D.sl l).toR = l := rfl
def zeroD : CT → D
 | .bool => .bool false | .int k => .int k 0 | .str => .str .empty | .sl _ => .sl [] | .mem => .mem 0 | .fn => .fn 0 []
def lenD : D → Int
 | .str s => s.size
 | .sl r => r.length
 | .mem n => n
 | _ => 0
def arI (op : BinOp) (k : IntKind) (x y : Int) : Int :=
 match op with
 | .add => k.wrap (x + y) | .sub => k.wrap (x - y) | .mul => k.wrap (x * y)
 | .quo => k.wrap (x.tdiv y) | .rem => x.tmod y
 | .and => k.wrap (BitVec.ofInt k.bits x &&& BitVec.ofInt k.bits y).toNat
 | .or => k.wrap (BitVec.ofInt k.bits x ||| BitVec.ofInt k.bits y).toNat
 | .xor => k.wrap (BitVec.ofInt k.bits x ^^^ BitVec.ofInt k.bits y).toNat
 | .andNot => k.wrap (BitVec.ofInt k.bits x &&& ~~~(BitVec.ofInt k.bits y)).toNat
 | .shl => k.wrap (x * 2 ^ (min y.toNat k.bits))
 | .shr => x.fdiv (2 ^ (min y.toNat k.bits))
 | _ => 0
def cmpI (op : BinOp) (x y : Int) : Bool :=
 match op with
 | .eql => x == y | .neq => x != y | .lss => decide (x < y) | .leq => decide (x ≤ y) | .gtr => decide (x > y) | .geq => decide (x ≥ y)
 | _ => false
def cmpS (op : BinOp) (x y : ByteArray) : Bool :=
 match op with
 | .eql => x.toList == y.toList | .neq => !(x.toList == y.toList)
 | .lss => Op.bytesLess x.toList y.toList
 | .leq => Op.bytesLess x.toList y.toList || x.toList == y.toList
 | .gtr => !(Op.bytesLess x.toList y.toList || x.toList == y.toList)
 | .geq => !Op.bytesLess x.toList y.toList
 | _ => false
def cutD (d : D) (lo hi : Int) : D :=
 match d with
 | .str s => .str (s.extract lo.toNat hi.toNat)
 | .sl r => .sl ((r.drop lo.toNat).take (hi.toNat - lo.toNat))
 | _ => .un
def eqvD : D → D → Bool
 | .bool a, .bool b => a == b
 | .int _ a, .int _ b => a == b
 | .str a, .str b => a.toList == b.toList
 | _, _ => false
def eqvL : List D → List D → Bool
 | [], [] => true
 | a :: l, b :: r => eqvD a b && eqvL l r
 | _, _ => false
def bytesD (d : D) : ByteArray := strOfNums (d.toR.map fun r => (r.headD .un).toI)
inductive E where
 | var (i : Nat)
 | lb (x : Bool) | li (k : IntKind) (n : Int) | ls (x : ByteArray) | nilS (e : Nat)
 | ar (op : BinOp) (k : IntKind) (x y : E)
 | ic (op : BinOp) (x y : E)
 | sc (op : BinOp) (x y : E)
 | scat (x y : E) | sok (x y : E)
 | bc (x y : E)
 | ae (x y : E)
 | no (x : E)
 | an (x y : E) | or (x y : E)
 | conv (k : IntKind) (x : E)
 | len (x : E)
 | bstr (x : E)
 | ite (c x y : E)
 | row (ts : List CT) (x i : E)
 | at (x i : E)
 | cell (x : E) (j : Nat)
 | sub (x : E) (j n : Nat)
 | proj (x : E) (j : Nat)
 | ag0 | ag1 (x : E) | cat (x y : E)
 | tp0 | tp1 (x y : E)
 | cut (x lo hi : E)
 | app (x y : E)
 | put (x r : E)
 | inb (x i : E)
 | inc (x lo hi : E)
 | few (x y : E)
 | sel (t : CT) (x i : E)
 | mem (l : E)
 | rep (e : Nat) (ts : List CT) (n : E)
 | upd (x i r : E) (off : Nat)
 | fn0 (f : Nat)
 | fnC (x r : E)
 deriving DecidableEq
def setL {α : Type} : List α → Nat → List α → List α
 | cs, _, [] => cs
 | cs, off, x :: r => setL (cs.set off x) (off + 1) r
def updR (rows : List (List D)) (i off : Nat) (l : List D) : List (List D) := rows.set i (setL (rows.getD i []) off l)
def addC : D → D → D
 | .fn f caps, r => .fn f (caps ++ [r.toA])
 | _, _ => .un
def E.den (env : List D) : E → D
 | .fn0 f => .fn f []
 | .fnC x r => addC (x.den env) (r.den env)
 | .mem l => .mem (l.den env).toI.toNat
 | .rep _ ts n => .sl (List.replicate (n.den env).toI.toNat (ts.map zeroD))
 | .upd x i r off => .sl (updR (x.den env).toR (i.den env).toI.toNat off (r.den env).toA)
 | .sel t x i => ((x.den env).toA[(i.den env).toI.toNat]?).getD (zeroD t)
 | .var i => env.getD i .un
 | .lb x => .bool x | .li k n => .int k n | .ls x => .str x | .nilS _ => .sl []
 | .ar op k x y => .int k (arI op k (x.den env).toI (y.den env).toI)
 | .ic op x y => .bool (cmpI op (x.den env).toI (y.den env).toI)
 | .sc op x y => .bool (cmpS op (x.den env).toS (y.den env).toS)
 | .scat x y => .str ((x.den env).toS ++ (y.den env).toS)
 | .sok x y => .bool (decide ((x.den env).toS.size + (y.den env).toS.size ≤ maxLen))
 | .bc x y => .bool ((x.den env).toB == (y.den env).toB)
 | .ae x y => .bool (eqvL (x.den env).toA (y.den env).toA)
 | .no x => .bool (!(x.den env).toB)
 | .an x y => .bool ((x.den env).toB && (y.den env).toB)
 | .or x y => .bool ((x.den env).toB || (y.den env).toB)
 | .conv k x => .int k (k.wrap (x.den env).toI)
 | .len x => .int .i64 (lenD (x.den env))
 | .bstr x => .str (bytesD (x.den env))
 | .ite c x y => bif (c.den env).toB then x.den env else y.den env
 | .row ts x i => .agg (((x.den env).toR[(i.den env).toI.toNat]?).getD (ts.map zeroD))
 | .at x i => .int .u8 ((((x.den env).toS[(i.den env).toI.toNat]?).map (fun (c : UInt8) => (c.toNat : Int))).getD 0)
 | .cell x j => (x.den env).toA.getD j .un
 | .sub x j n => .agg (((x.den env).toA.drop j).take n)
 | .proj x j => (x.den env).toT.getD j .un
 | .ag0 => .agg []
 | .ag1 x => .agg [x.den env]
 | .cat x y => .agg ((x.den env).toA ++ (y.den env).toA)
 | .tp0 => .tup []
 | .tp1 x y => .tup ((x.den env).toT ++ [y.den env])
 | .cut x lo hi => cutD (x.den env) (lo.den env).toI (hi.den env).toI
 | .app x y => .sl ((x.den env).toR ++ (y.den env).toR)
 | .put x r => .sl ((x.den env).toR ++ [(r.den env).toA])
 | .inb x i => .bool (decide (0 ≤ (i.den env).toI ∧ (i.den env).toI < lenD (x.den env)))
 | .inc x lo hi => .bool (decide (0 ≤ (lo.den env).toI ∧ (lo.den env).toI ≤ (hi.den env).toI ∧ (hi.den env).toI ≤ lenD (x.den env)))
 | .few x y => .bool (decide ((x.den env).toR.length + (y.den env).toR.length ≤ 4294967296))
inductive V1 where
 | c (t : CT) | agg (l : List CT)
 deriving DecidableEq
inductive VT where
 | one (v : V1) | tup (l : List V1)
 deriving DecidableEq
def V1.cells : V1 → List CT | .c t => [t] | .agg l => l
def HasV1 (tab : Nat → List CT) : V1 → D → Prop
 | .c t, d => HasTy tab t d
 | .agg ts, .agg l => RowTy tab ts l
 | .agg _, _ => False
def HasVs (tab : Nat → List CT) : List V1 → List D → Prop
 | [], [] => True
 | v :: vs, d :: ds => HasV1 tab v d ∧ HasVs tab vs ds
 | _, _ => False
def HasVT (tab : Nat → List CT) : VT → D → Prop
 | .one v, d => HasV1 tab v d
 | .tup vs, .tup l => HasVs tab vs l
 | .tup _, _ => False
theorem HasVs.get {tab : Nat → List CT} : ∀ {vs : List V1} {l : List D}, HasVs tab vs l → ∀ {i : Nat} {v : V1}, vs[i]? = some v → ∃ d, l[i]? = some d ∧ HasV1 tab v d
 | [], _, _, i, t, ht => by simp at ht
 | t :: ts, d :: ds, h, 0, t', ht => by simp [HasVs] at h; simp at ht; subst ht; exact ⟨d, rfl, h.1⟩
 | t :: ts, d :: ds, h, i + 1, t', ht => by simp [HasVs] at h; simp at ht; obtain ⟨x, hx, h2⟩ := HasVs.get h.2 ht; exact ⟨x, by simpa using hx, h2⟩
 | _ :: _, [], h, _, _, _ => by simp [HasVs] at h
theorem HasVs.snoc {tab : Nat → List CT} {v : V1} {d : D} (hd : HasV1 tab v d) : ∀ {vs : List V1} {l : List D}, HasVs tab vs l → HasVs tab (vs ++ [v]) (l ++ [d])
 | [], [], _ => by simp [HasVs, hd]
 | t :: ts, e :: ds, h => by simp [HasVs] at h; simp only [List.cons_append, HasVs]; exact ⟨h.1, HasVs.snoc hd h.2⟩
 | [], _ :: _, h => by simp [HasVs] at h
 | _ :: _, [], h => by simp [HasVs] at h
def isInt : Option VT → Option IntKind
 | some (.one (.c (.int k))) => some k
 | _ => none
def isC (t : CT) (o : Option VT) : Bool := o == some (.one (.c t))
def E.inf (tab : Nat → List CT) (Γ : List VT) : E → Option VT
 | .mem l => if (isInt (l.inf tab Γ)).isSome then some (.one (.c .mem)) else none
 | .fn0 _ => some (.one (.c .fn))
 | .fnC x r => match x.inf tab Γ, r.inf tab Γ with | some (.one (.c .fn)), some (.one (.agg _)) => some (.one (.c .fn)) | _, _ => none
 | .rep e ts n => if tab e = ts ∧ (isInt (n.inf tab Γ)).isSome then some (.one (.c (.sl e))) else none
 | .upd x i r off => match x.inf tab Γ, r.inf tab Γ with
  | some (.one (.c (.sl e))), some (.one (.agg us)) => if us = ((tab e).drop off).take us.length ∧ (isInt (i.inf tab Γ)).isSome then some (.one (.c (.sl e))) else none
  | _, _ => none
 | .sel t x i => match x.inf tab Γ with | some (.one (.agg ts)) => if ts.all (fun u => decide (u = t)) = true ∧ (isInt (i.inf tab Γ)).isSome = true then some (.one (.c t)) else none | _ => none
 | .var i => Γ[i]?
 | .lb _ => some (.one (.c .bool))
 | .li k n => if k.min ≤ n ∧ n ≤ k.max then some (.one (.c (.int k))) else none
 | .ls x => if x.size ≤ maxLen then some (.one (.c .str)) else none
 | .nilS e => some (.one (.c (.sl e)))
 | .ar _ k x y => if (isInt (x.inf tab Γ)).isSome ∧ (isInt (y.inf tab Γ)).isSome then some (.one (.c (.int k))) else none
 | .ic _ x y => if (isInt (x.inf tab Γ)).isSome ∧ (isInt (y.inf tab Γ)).isSome then some (.one (.c .bool)) else none
 | .sc _ x y => if isC .str (x.inf tab Γ) ∧ isC .str (y.inf tab Γ) then some (.one (.c .bool)) else none
 | .scat x y => if isC .str (x.inf tab Γ) ∧ isC .str (y.inf tab Γ) then some (.one (.c .str)) else none
 | .sok _ _ => some (.one (.c .bool))
 | .bc x y => if isC .bool (x.inf tab Γ) ∧ isC .bool (y.inf tab Γ) then some (.one (.c .bool)) else none
 | .ae _ _ => some (.one (.c .bool))
 | .no x => if isC .bool (x.inf tab Γ) then some (.one (.c .bool)) else none
 | .an x y | .or x y => if isC .bool (x.inf tab Γ) ∧ isC .bool (y.inf tab Γ) then some (.one (.c .bool)) else none
 | .conv k x => if (isInt (x.inf tab Γ)).isSome then some (.one (.c (.int k))) else none
 | .len x => match x.inf tab Γ with | some (.one (.c .str)) | some (.one (.c (.sl _))) | some (.one (.c .mem)) => some (.one (.c (.int .i64))) | _ => none
 | .bstr x => match x.inf tab Γ with | some (.one (.c (.sl e))) => if tab e = [.int .u8] then some (.one (.c .str)) else none | _ => none
 | .ite c x y => if isC .bool (c.inf tab Γ) ∧ x.inf tab Γ = y.inf tab Γ then x.inf tab Γ else none
 | .row ts x i => match x.inf tab Γ with
  | some (.one (.c (.sl e))) => if tab e = ts ∧ (isInt (i.inf tab Γ)).isSome then some (.one (.agg ts)) else none
  | _ => none
 | .at x i => if isC .str (x.inf tab Γ) ∧ (isInt (i.inf tab Γ)).isSome then some (.one (.c (.int .u8))) else none
 | .cell x j => match x.inf tab Γ with | some (.one (.agg ts)) => (ts[j]?).map (fun t => .one (.c t)) | _ => none
 | .sub x j n => match x.inf tab Γ with | some (.one (.agg ts)) => if j + n ≤ ts.length then some (.one (.agg ((ts.drop j).take n))) else none | _ => none
 | .proj x j => match x.inf tab Γ with | some (.tup vs) => (vs[j]?).map .one | _ => none
 | .ag0 => some (.one (.agg []))
 | .ag1 x => match x.inf tab Γ with | some (.one (.c t)) => some (.one (.agg [t])) | _ => none
 | .cat x y => match x.inf tab Γ, y.inf tab Γ with | some (.one (.agg a)), some (.one (.agg b)) => some (.one (.agg (a ++ b))) | _, _ => none
 | .tp0 => some (.tup [])
 | .tp1 x y => match x.inf tab Γ, y.inf tab Γ with | some (.tup a), some (.one b) => some (.tup (a ++ [b])) | _, _ => none
 | .cut x lo hi => if (isInt (lo.inf tab Γ)).isSome ∧ (isInt (hi.inf tab Γ)).isSome then
   match x.inf tab Γ with | some (.one (.c .str)) => some (.one (.c .str)) | some (.one (.c (.sl e))) => some (.one (.c (.sl e))) | _ => none
  else none
 | .app x y => match x.inf tab Γ, y.inf tab Γ with | some (.one (.c (.sl e))), some (.one (.c (.sl f))) => if e = f then some (.one (.c (.sl e))) else none | _, _ => none
 | .put x r => match x.inf tab Γ, r.inf tab Γ with | some (.one (.c (.sl e))), some (.one (.agg ts)) => if tab e = ts then some (.one (.c (.sl e))) else none | _, _ => none
 | .inb _ _ | .inc _ _ _ | .few _ _ => some (.one (.c .bool))
def EnvTy (tab : Nat → List CT) (Γ : List VT) (env : List D) : Prop := ∀ (i : Nat) (t : VT), Γ[i]? = some t → HasVT tab t (env.getD i .un)
theorem zeros_ty {tab : Nat → List CT} : ∀ ts : List CT, RowTy tab ts (ts.map zeroD)
 | [] => by simp [RowTy]
 | t :: ts => by
  simp only [List.map_cons, RowTy]
  refine ⟨?_, zeros_ty ts⟩
  cases t <;> simp [zeroD, HasTy, RowsTy]
theorem hasTy_int {tab : Nat → List CT} {k : IntKind} {d : D} (h : HasTy tab (.int k) d) : ∃ n, d = .int k n := by
 cases d <;> simp [HasTy] at h
 subst h; exact ⟨_, rfl⟩
theorem hasTy_bool {tab : Nat → List CT} {d : D} (h : HasTy tab .bool d) : ∃ b, d = .bool b := by
 cases d <;> simp [HasTy] at h; exact ⟨_, rfl⟩
theorem hasTy_str {tab : Nat → List CT} {d : D} (h : HasTy tab .str d) : ∃ s, d = .str s := by
 cases d <;> simp [HasTy] at h; exact ⟨_, rfl⟩
theorem hasTy_fn {tab : Nat → List CT} {d : D} (h : HasTy tab .fn d) : ∃ f caps, d = .fn f caps := by
 cases d <;> simp [HasTy] at h; exact ⟨_, _, rfl⟩
theorem hasTy_sl {tab : Nat → List CT} {e : Nat} {d : D} (h : HasTy tab (.sl e) d) : ∃ r, d = .sl r ∧ RowsTy tab (tab e) r := by
 cases d <;> simp [HasTy] at h; exact ⟨_, rfl, h⟩
theorem hasV1_agg {tab : Nat → List CT} {ts : List CT} {d : D} (h : HasV1 tab (.agg ts) d) : ∃ l, d = .agg l ∧ RowTy tab ts l := by
 cases d <;> simp [HasV1] at h; exact ⟨_, rfl, h⟩
theorem hasVT_tup {tab : Nat → List CT} {vs : List V1} {d : D} (h : HasVT tab (.tup vs) d) : ∃ l, d = .tup l ∧ HasVs tab vs l := by
 cases d <;> simp [HasVT] at h; exact ⟨_, rfl, h⟩
theorem isInt_some {o : Option VT} (h : (isInt o).isSome = true) : ∃ k, o = some (.one (.c (.int k))) := by
 unfold isInt at h; split at h
 ·exact ⟨_, rfl⟩
 ·simp at h
theorem isC_some {t : CT} {o : Option VT} (h : isC t o = true) : o = some (.one (.c t)) := by simpa [isC] using h
theorem zero_ty (tab : Nat → List CT) (t : CT) : HasTy tab t (zeroD t) := by
 cases t <;> simp [zeroD, HasTy, RowsTy]
theorem rowTy_get? {tab : Nat → List CT} : ∀ {ts : List CT} {l : List D}, l.length = ts.length → (∀ (i : Nat) (t : CT) (d : D), ts[i]? = some t → l[i]? = some d → HasTy tab t d) → RowTy tab ts l
 | [], [], _, _ => by simp [RowTy]
 | t :: ts, d :: ds, hl, h => by
  simp only [RowTy]
  exact ⟨h 0 t d rfl rfl, rowTy_get? (by simpa using hl) fun i t' d' h1 h2 => h (i + 1) t' d' (by simpa using h1) (by simpa using h2)⟩
 | [], _ :: _, h, _ => by simp at h
 | _ :: _, [], h, _ => by simp at h
theorem length_setL {α : Type} : ∀ (l : List α) (cs : List α) (off : Nat), (setL cs off l).length = cs.length
 | [], _, _ => rfl
 | x :: r, cs, off => by simp [setL, length_setL r]
theorem setL_get? {α : Type} : ∀ (l : List α) (cs : List α) (off i : Nat), (setL cs off l)[i]? = if off ≤ i ∧ i < off + l.length ∧ i < cs.length then l[i - off]? else cs[i]?
 | [], cs, off, i => by simp [setL]; omega
 | x :: r, cs, off, i => by
  rw [setL, setL_get? r]
  simp only [List.length_set, List.length_cons, List.getElem?_set]
  by_cases e : off = i
  ·subst e
   by_cases h : off < cs.length
   ·rw [if_neg (by omega), if_pos rfl, if_pos h, if_pos (by omega), Nat.sub_self]; rfl
   ·rw [if_neg (by omega), if_pos rfl, if_neg h, if_neg (by omega), List.getElem?_eq_none (by omega)]
  ·rw [if_neg e]
   by_cases h : off + 1 ≤ i ∧ i < off + 1 + r.length ∧ i < cs.length
   ·rw [if_pos h, if_pos (by omega), show i - off = (i - (off + 1)) + 1 by omega]; rfl
   ·rw [if_neg h, if_neg (by omega)]
theorem RowTy.get? {tab : Nat → List CT} {ts : List CT} {l : List D} (h : RowTy tab ts l) {i : Nat} {t : CT} {d : D} (h1 : ts[i]? = some t) (h2 : l[i]? = some d) : HasTy tab t d := by
 obtain ⟨d', h3, h4⟩ := h.get h1
 rw [h2] at h3; cases h3; exact h4
theorem setL_ty {tab : Nat → List CT} {ts us : List CT} {l r : List D} {off : Nat} (hu : us = (ts.drop off).take us.length) (hl : RowTy tab ts l) (hr : RowTy tab us r) : RowTy tab ts (setL l off r) := by
 refine rowTy_get? (by rw [length_setL, hl.length]) fun i t d h1 h2 => ?_
 rw [setL_get?] at h2
 split at h2
 ·rename_i h
  have : us[i - off]? = some t := by
   rw [hu, List.getElem?_take, List.getElem?_drop, if_pos (by rw [← hr.length]; omega), show off + (i - off) = i by omega, h1]
  exact hr.get? this h2
 ·exact hl.get? h1 h2
theorem updR_ty {tab : Nat → List CT} {ts us : List CT} {rows : List (List D)} {r : List D} {i off : Nat} (hu : us = (ts.drop off).take us.length) (hl : RowsTy tab ts rows) (hr : RowTy tab us r) : RowsTy tab ts (updR rows i off r) := by
 refine RowsTy.of fun z hz => ?_
 unfold updR at hz
 rcases List.mem_or_eq_of_mem_set hz with h | h
 ·exact hl.mem z h
 ·subst h
  by_cases hi : i < rows.length
  ·refine setL_ty hu (hl.mem _ ?_) hr
   simp [List.getD, List.getElem?_eq_getElem hi]
  ·rw [List.set_eq_of_length_le (by omega)] at hz
   exact hl.mem _ hz
theorem E.inf_ok {tab : Nat → List CT} {Γ : List VT} {env : List D} (h : EnvTy tab Γ env) : ∀ (e : E) (t : VT), e.inf tab Γ = some t → HasVT tab t (e.den env)
 | .sel c x i, t, ht => by
  simp only [E.inf] at ht
  split at ht
  ·rename_i ts he
   split at ht
   ·rename_i hc
    simp at ht; subst ht
    obtain ⟨l, hl, hlt⟩ := hasV1_agg (E.inf_ok h x _ he)
    simp only [E.den, hl, D.toA_agg, HasVT, HasV1]
    cases hg : l[(i.den env).toI.toNat]? with
    | none => exact zero_ty tab c
    | some d =>
     have hlt2 : (i.den env).toI.toNat < ts.length := by rw [← hlt.length]; exact (List.getElem?_eq_some_iff.1 hg).1
     obtain ⟨d', hd', hty⟩ := hlt.get (List.getElem?_eq_getElem hlt2)
     rw [hg] at hd'; cases hd'
     have := List.all_eq_true.1 hc.1 _ (List.getElem_mem hlt2)
     simp at this
     rw [this] at hty
     exact hty
   ·simp at ht
  ·simp at ht
 | .mem l, t, ht => by simp [E.inf] at ht; obtain ⟨_, rfl⟩ := ht; simp [E.den, HasVT, HasV1, HasTy]
 | .fn0 f, t, ht => by simp [E.inf] at ht; subst ht; simp [E.den, HasVT, HasV1, HasTy]
 | .fnC x r, t, ht => by
  simp only [E.inf] at ht
  split at ht
  ·rename_i us hx hr
   simp at ht; subst ht
   obtain ⟨f, caps, hf⟩ := hasTy_fn (E.inf_ok h x _ hx)
   simp only [E.den, hf, addC, HasVT, HasV1, HasTy]
  ·simp at ht
 | .rep e ts n, t, ht => by
  simp only [E.inf] at ht
  split at ht
  ·rename_i hc
   simp at ht; subst ht
   simp only [E.den, HasVT, HasV1, HasTy]
   refine RowsTy.of fun z hz => ?_
   rw [List.eq_of_mem_replicate hz, hc.1]
   exact zeros_ty _
  ·simp at ht
 | .upd x i r off, t, ht => by
  simp only [E.inf] at ht
  split at ht
  ·rename_i e us hx hr
   split at ht
   ·rename_i hc
    simp at ht; subst ht
    obtain ⟨q, hq, hqt⟩ := hasTy_sl (E.inf_ok h x _ hx)
    obtain ⟨l, hl, hlt⟩ := hasV1_agg (E.inf_ok h r _ hr)
    simp only [E.den, hq, hl, D.toR_sl, D.toA_agg, HasVT, HasV1, HasTy]
    exact updR_ty hc.1 hqt hlt
   ·simp at ht
  ·simp at ht
 | .var i, t, ht => h i t ht
 | .lb _, t, ht => by simp [E.inf] at ht; subst ht; simp [E.den, HasVT, HasV1, HasTy]
 | .li _ _, t, ht => by simp [E.inf] at ht; obtain ⟨_, rfl⟩ := ht; simp [E.den, HasVT, HasV1, HasTy]
 | .ls _, t, ht => by simp [E.inf] at ht; obtain ⟨_, rfl⟩ := ht; simp [E.den, HasVT, HasV1, HasTy]
 | .nilS _, t, ht => by simp [E.inf] at ht; subst ht; simp [E.den, HasVT, HasV1, HasTy, RowsTy]
 | .ar _ _ _ _, t, ht => by simp [E.inf] at ht; obtain ⟨_, rfl⟩ := ht; simp [E.den, HasVT, HasV1, HasTy]
 | .ic _ _ _, t, ht => by simp [E.inf] at ht; obtain ⟨_, rfl⟩ := ht; simp [E.den, HasVT, HasV1, HasTy]
 | .sc _ _ _, t, ht => by simp [E.inf] at ht; obtain ⟨_, rfl⟩ := ht; simp [E.den, HasVT, HasV1, HasTy]
 | .scat _ _, t, ht => by simp [E.inf] at ht; obtain ⟨_, rfl⟩ := ht; simp [E.den, HasVT, HasV1, HasTy]
 | .sok _ _, t, ht => by simp [E.inf] at ht; subst ht; simp [E.den, HasVT, HasV1, HasTy]
 | .bc _ _, t, ht => by simp [E.inf] at ht; obtain ⟨_, rfl⟩ := ht; simp [E.den, HasVT, HasV1, HasTy]
 | .ae _ _, t, ht => by simp [E.inf] at ht; subst ht; simp [E.den, HasVT, HasV1, HasTy]
 | .no _, t, ht => by simp [E.inf] at ht; obtain ⟨_, rfl⟩ := ht; simp [E.den, HasVT, HasV1, HasTy]
 | .an _ _, t, ht => by simp [E.inf] at ht; obtain ⟨_, rfl⟩ := ht; simp [E.den, HasVT, HasV1, HasTy]
 | .or _ _, t, ht => by simp [E.inf] at ht; obtain ⟨_, rfl⟩ := ht; simp [E.den, HasVT, HasV1, HasTy]
 | .conv _ _, t, ht => by simp [E.inf] at ht; obtain ⟨_, rfl⟩ := ht; simp [E.den, HasVT, HasV1, HasTy]
 | .len x, t, ht => by
  simp only [E.inf] at ht
  split at ht <;> first | (simp at ht; done) | (simp at ht; subst ht; simp [E.den, HasVT, HasV1, HasTy])
 | .bstr x, t, ht => by
  simp only [E.inf] at ht
  split at ht
  ·split at ht
   ·simp at ht; subst ht; simp [E.den, HasVT, HasV1, HasTy]
   ·simp at ht
  ·simp at ht
 | .ite c x y, t, ht => by
  simp only [E.inf] at ht
  split at ht
  ·rename_i hc
   have h1 := E.inf_ok h x t ht
   have h2 := E.inf_ok h y t (hc.2 ▸ ht)
   simp only [E.den]
   cases (c.den env).toB <;> simpa
  ·simp at ht
 | .row ts x i, t, ht => by
  simp only [E.inf] at ht
  split at ht
  ·rename_i e he
   split at ht
   ·rename_i hc
    simp at ht; subst ht
    have h1 := E.inf_ok h x _ he
    obtain ⟨r, hr, hrt⟩ := hasTy_sl h1
    simp only [E.den, hr, D.toR_sl, HasVT, HasV1]
    rw [← hc.1]
    cases hg : r[(i.den env).toI.toNat]? with
    | none => simp; exact zeros_ty _
    | some z => simp; exact hrt.mem z (List.mem_of_getElem? hg)
   ·simp at ht
  ·simp at ht
 | .at _ _, t, ht => by simp [E.inf] at ht; obtain ⟨_, rfl⟩ := ht; simp [E.den, HasVT, HasV1, HasTy]
 | .cell x j, t, ht => by
  simp only [E.inf] at ht
  split at ht
  ·rename_i ts he
   simp at ht
   obtain ⟨c, hc, rfl⟩ := ht
   obtain ⟨l, hl, hlt⟩ := hasV1_agg (E.inf_ok h x _ he)
   obtain ⟨d, hd, hdt⟩ := hlt.get hc
   simp [E.den, hl, List.getD, hd, HasVT, HasV1, hdt]
  ·simp at ht
 | .sub x j n, t, ht => by
  simp only [E.inf] at ht
  split at ht
  ·rename_i ts he
   split at ht
   ·simp at ht; subst ht
    obtain ⟨l, hl, hlt⟩ := hasV1_agg (E.inf_ok h x _ he)
    simp only [E.den, hl, D.toA_agg, HasVT, HasV1]
    exact (hlt.drop j).take n
   ·simp at ht
  ·simp at ht
 | .proj x j, t, ht => by
  simp only [E.inf] at ht
  split at ht
  ·rename_i vs he
   simp at ht
   obtain ⟨c, hc, rfl⟩ := ht
   obtain ⟨l, hl, hlt⟩ := hasVT_tup (E.inf_ok h x _ he)
   obtain ⟨d, hd, hdt⟩ := hlt.get hc
   simp [E.den, hl, List.getD, hd, HasVT, hdt]
  ·simp at ht
 | .ag0, t, ht => by simp [E.inf] at ht; subst ht; simp [E.den, HasVT, HasV1, RowTy]
 | .ag1 x, t, ht => by
  simp only [E.inf] at ht
  split at ht
  ·rename_i c he
   simp at ht; subst ht
   have := E.inf_ok h x _ he
   simp only [E.den, HasVT, HasV1, RowTy]
   exact ⟨this, trivial⟩
  ·simp at ht
 | .cat x y, t, ht => by
  simp only [E.inf] at ht
  split at ht
  ·rename_i a b ha hb
   simp at ht; subst ht
   obtain ⟨l, hl, hlt⟩ := hasV1_agg (E.inf_ok h x _ ha)
   obtain ⟨m, hm, hmt⟩ := hasV1_agg (E.inf_ok h y _ hb)
   simp only [E.den, hl, hm, D.toA_agg, HasVT, HasV1]
   exact hlt.append hmt
  ·simp at ht
 | .tp0, t, ht => by simp [E.inf] at ht; subst ht; simp [E.den, HasVT, HasVs]
 | .tp1 x y, t, ht => by
  simp only [E.inf] at ht
  split at ht
  ·rename_i a b ha hb
   simp at ht; subst ht
   obtain ⟨l, hl, hlt⟩ := hasVT_tup (E.inf_ok h x _ ha)
   have hy := E.inf_ok h y _ hb
   simp only [E.den, hl, D.toT_tup, HasVT]
   exact hlt.snoc hy
  ·simp at ht
 | .cut x lo hi, t, ht => by
  simp only [E.inf] at ht
  split at ht
  ·split at ht
   ·rename_i he
    simp at ht; subst ht
    obtain ⟨s, hs⟩ := hasTy_str (E.inf_ok h x _ he)
    simp [E.den, hs, cutD, HasVT, HasV1, HasTy]
   ·rename_i e he
    simp at ht; subst ht
    obtain ⟨r, hr, hrt⟩ := hasTy_sl (E.inf_ok h x _ he)
    simp only [E.den, hr, cutD, HasVT, HasV1, HasTy]
    exact RowsTy.of fun z hz => hrt.mem z (List.mem_of_mem_drop (List.mem_of_mem_take hz))
   ·simp at ht
  ·simp at ht
 | .app x y, t, ht => by
  simp only [E.inf] at ht
  split at ht
  ·rename_i e f he hf
   split at ht
   ·rename_i hef
    simp at ht; subst ht; subst hef
    obtain ⟨r, hr, hrt⟩ := hasTy_sl (E.inf_ok h x _ he)
    obtain ⟨q, hq, hqt⟩ := hasTy_sl (E.inf_ok h y _ hf)
    simp only [E.den, hr, hq, D.toR_sl, HasVT, HasV1, HasTy]
    exact RowsTy.of fun z hz => (List.mem_append.1 hz).elim (hrt.mem z) (hqt.mem z)
   ·simp at ht
  ·simp at ht
 | .put x r, t, ht => by
  simp only [E.inf] at ht
  split at ht
  ·rename_i e ts he hr
   split at ht
   ·rename_i hts
    simp at ht; subst ht; subst hts
    obtain ⟨q, hq, hqt⟩ := hasTy_sl (E.inf_ok h x _ he)
    obtain ⟨l, hl, hlt⟩ := hasV1_agg (E.inf_ok h r _ hr)
    simp only [E.den, hq, hl, D.toR_sl, D.toA_agg, HasVT, HasV1, HasTy]
    exact RowsTy.of fun z hz => (List.mem_append.1 hz).elim (hqt.mem z) (fun e => by simp at e; subst e; exact hlt)
   ·simp at ht
  ·simp at ht
 | .inb _ _, t, ht => by simp [E.inf] at ht; subst ht; simp [E.den, HasVT, HasV1, HasTy]
 | .inc _ _ _, t, ht => by simp [E.inf] at ht; subst ht; simp [E.den, HasVT, HasV1, HasTy]
 | .few _ _, t, ht => by simp [E.inf] at ht; subst ht; simp [E.den, HasVT, HasV1, HasTy]
end Go.Proofs.YtimickglpboilaaGreat
/- A symbolic executor over the operations of a function: what each operation does to a state of expressions, and the condition that is left to be shown. Definitions alone. No program in sight. -/
namespace Go.Proofs.YtimickglpboilaaGreat
open Go.RowKit
structure TI where
 vt : VT
 fs : List (Nat × Nat)
 bytes : Nat
 eq : Bool := false
abbrev TB := List (Nat × TI)
def TB.get : TB → Nat → Option TI
 | [], _ => none
 | (t, i) :: r, T => bif Nat.beq t T then some i else TB.get r T
def TI.cells (i : TI) : List CT := match i.vt with | .one v => v.cells | .tup _ => []
def TB.tab (tb : TB) (e : Nat) : List CT := match tb.get e with | some i => i.cells | none => []
def zeroV : CT → Value → Bool
 | .bool, .bool b => !b
 | .int k, .int k' n => k == k' && n == 0
 | .str, .string s => s.size == 0
 | .sl _, .slice none 0 0 => true
 | _, _ => false
def zerosV : List CT → List Value → Bool
 | [], [] => true
 | t :: ts, v :: vs => zeroV t v && zerosV ts vs
 | _, _ => false
def zeroOk : V1 → Option Value → Bool
 | .c t, some v => zeroV t v
 | .agg ts, some (.agg cs) => zerosV ts cs.toList
 | _, _ => false
def fieldsOk (tb : TB) : List (Nat × Nat) → List Field → Bool
 | [], [] => true
 | (o, t) :: r, f :: fs => o == f.offset && t == f.type && (match tb.get t with | some i => (match i.vt with | .one _ => true | .tup _ => false) | none => false) && fieldsOk tb r fs
 | _, _ => false
def descOk (tb : TB) (v : V1) (fs : List (Nat × Nat)) (d : Option TypeDesc) : Bool :=
 match v, d with
 | .c .bool, some .bool => true
 | .c (.int k), some (.int k') => k == k'
 | .c .str, some .string => true
 | .c (.sl e), some (.slice e') => e == e'
 | .agg _, some (.struct fields) => fieldsOk tb fs fields.toList
 | _, _ => false
def contig (tb : TB) : Nat → List CT → List (Nat × Nat) → Bool
 | _, ts, [] => ts.isEmpty
 | o, ts, (o', t) :: r => Nat.beq o o' && match tb.get t with
  | some i => decide (ts.take i.cells.length = i.cells) && contig tb (o + i.cells.length) (ts.drop i.cells.length) r
  | none => false
def eqTy (P : Program) (tb : TB) : Nat → Nat → Bool
 | 0, _ => false
 | d + 1, T => match tb.get T with
  | none => false
  | some ti => match ti.vt with
   | .one (.c (.sl _)) => false
   | .one (.c _) => true
   | .one (.agg ts) => !P.stoodInHeld T && (P.fieldsOf T).toList.all (fun f => !(f.name == "_")) && ti.fs.all (fun x => eqTy P tb d x.2) && contig tb 0 ts ti.fs
   | .tup _ => false
def tiOk (P : Program) (tb : TB) (T : Nat) (ti : TI) : Bool :=
 match ti.vt with
 | .tup _ => (match ti.fs with
  | [] => true
  | [(n, e)] => (match P.underlying T with | some (.array n' e') => Nat.beq n n' && Nat.beq e e' | _ => false) && (match P.info? T with | some i => Nat.beq i.size n | none => false)
  | _ => false)
 | .one v => match P.info? T with
  | none => false
  | some i => i.size == v.cells.length && i.bytes == ti.bytes && zeroOk v i.zero && descOk tb v ti.fs (P.underlying T) && (!ti.eq || (eqTy P tb 8 T && !P.eqGuardType P.depth T))
def tbOk (P : Program) (tb : TB) : TB → Bool
 | [] => true
 | (T, ti) :: r => tiOk P tb T ti && tbOk P tb r
abbrev Gd := List (E × Bool)
inductive KK where
 | d | own (g : Nat) | full
 deriving DecidableEq
inductive K where
 | d | own (g : Nat) | full | ag (ks : List KK)
 deriving DecidableEq
def KK.k : KK → K
 | .d => .d | .own g => .own g | .full => .full
def K.kk : K → KK
 | .own g => .own g | .full => .full | _ => .d
def K.nth : K → Nat → K
 | .ag ks, j => (ks.getD j .d).k
 | _, _ => .d
def packK (ks : List K) : K := bif ks.all (fun k => decide (k.kk = .d)) then .d else .ag (ks.map K.kk)
def subK (k : K) (off : Nat) : Option V1 → K
 | some (.c _) => k.nth off
 | some (.agg ts) => packK ((List.range ts.length).map fun j => k.nth (off + j))
 | none => .d
def offT : List V1 → Nat → Nat
 | v :: r, i + 1 => v.cells.length + offT r i
 | _, _ => 0
structure LV where
 n : Nat
 body : Option (E × Option (Nat × List Nat)) := none
 deriving DecidableEq
inductive ST where
 | un
 | v (gs : Gd) (k : K) (e : E)
 | ptr (gs : Gd) (id off : Nat)
 | ro (gs : Gd) (e : E) (off : Nat)
 | box (cs : List (K × E))
 | live (n : LV)
 | gp (gs : Gd) (g : Nat) (x i : E)
 | mp (gs : Gd) (g n : Nat) (i : E) (off : Nat)
 | iv (gs : Gd) (g gv n : Nat) (i : E) (off : Nat) (l : E)
 | ip (gs : Gd) (g gv n : Nat) (i : E) (off : Nat) (j : E) (m o2 : Nat)
 deriving DecidableEq
abbrev Sg := List (Nat × ST)
def Sg.get : Sg → Nat → ST
 | [], _ => .un
 | (l, s) :: r, x => bif Nat.beq l x then s else Sg.get r x
def gdIn (g gs : Gd) : Bool := g.all fun x => gs.contains x
def under (gs : Gd) : ST → Option ST
 | .v g k e => bif gdIn g gs then some (.v gs k e) else none
 | .ptr g id off => bif gdIn g gs then some (.ptr gs id off) else none
 | .ro g e off => bif gdIn g gs then some (.ro gs e off) else none
 | _ => none
def undV (gs : Gd) (s : Option ST) : Option (K × E) :=
 match s.bind (under gs) with
 | some (.v _ k e) => some (k, e)
 | _ => none
inductive Rq where
 | cond (gs : Gd) (c : E)
 | call (gs : Gd) (f : Nat) (bx : Option (List E)) (args : List E) (vt : VT) (nb : List CT)
 | callR (f : Nat) (bx : Option (List E)) (args : List E) (vt : VT) (nb : List CT) (rt : List (Nat × Nat))
 | new (f : Nat) (args : List E) (nb : List CT)
 | callV (gs : Gd) (e : E) (args : List E) (vt : VT)
 | glob (g : Nat) (vt : VT) (ix : Option (Gd × E × Nat))
structure Eff where
 wr : List (Nat × ST)
 rq : List Rq
abbrev RB := List (Nat × List (Nat × Nat))
def RB.get : RB → Nat → List (Nat × Nat)
 | [], _ => []
 | (f, r) :: q, x => bif Nat.beq f x then r else RB.get q x
structure Cx where
 tb : TB
 nt : Nat
 rb : RB := []
def stride : Nat := 8
def rtAt : Nat → List (Nat × Nat) → Nat → KK
 | _, [], _ => .d
 | g, (q, _) :: r, p => bif Nat.beq q p then .own g else rtAt (g + 1) r p
def cellsT : VT → Nat
 | .one v => v.cells.length
 | .tup vs => (vs.map fun v => v.cells.length).sum
def rtK (g : Nat) (rt : List (Nat × Nat)) : VT → K
 | .one (.c _) => (rtAt g rt 0).k
 | vt => .ag ((List.range (cellsT vt)).map (rtAt g rt))
def rtLive : Nat → List (Nat × Nat) → List (Nat × ST)
 | _, [] => []
 | g, (_, m) :: r => (3 * g + 2, .live ⟨m, none⟩) :: rtLive (g + 1) r
def constST (tb : TB) (T : Nat) : Value → Option ST
 | .bool b => some (.v [] .d (.lb b))
 | .int k n => if k.min ≤ n ∧ n ≤ k.max then some (.v [] .d (.li k n)) else none
 | .string s => if s.size ≤ maxLen then some (.v [] .d (.ls s)) else none
 | .slice none 0 0 => match tb.get T with
  | some ⟨.one (.c (.sl e)), _, _, _⟩ => some (.v [] .full (.nilS e))
  | _ => none
 | _ => none
def opd (tb : TB) (σ : Nat → ST) (T : Nat) : Operand → Option ST
 | .tmp t => some (σ (3 * t))
 | .const v => constST tb T v
 | _ => none
def gsOf (tab : Nat → List CT) (Γ : List VT) (ops : Array Oper) (σ : Nat → ST) (o : Oper) : Option Gd :=
 match o.guard with
 | none => some []
 | some (j, b) => match (ops[j]?).bind (·.dst) with
  | some d => match σ (3 * d) with
   | .v gs _ c => bif isC .bool (c.inf tab Γ) then some (gs ++ [(c, b)]) else none
   | _ => none
  | none => none
def wv (dst : Option Nat) (st : ST) : List (Nat × ST) := match dst with | some d => [(3 * d, st)] | none => []
def mk : List E → E
 | [] => .ag0
 | e :: r => .cat (.ag1 e) (mk r)
def pack (tab : Nat → List CT) (Γ : List VT) (es : List E) : E :=
 match es with
 | .cell x i :: r => match x.inf tab Γ with
  | some (.one (.agg us)) => if es = (List.range' i es.length).map (.cell x) ∧ i + es.length ≤ us.length then (if i = 0 ∧ es.length = us.length then x else .sub x i es.length) else mk es
  | _ => mk es
 | _ => mk es
def apart (k : K) (n : Nat) (e : E) : List (K × E) := (List.range n).map fun j => (k.nth j, .cell e j)
def setAll {α : Type} (cs : List α) (off : Nat) : List α → List α
 | [] => cs
 | x :: r => setAll (cs.set off x) (off + 1) r
def zeroE : CT → K × E
 | .bool => (.d, .lb false) | .int k => (.d, .li k 0) | .str => (.d, .ls .empty) | .sl e => (.full, .nilS e) | .mem => (.d, .mem (.li .i64 0)) | .fn => (.d, .fn0 0)
def eMove (gs : Gd) (dst : Option Nat) (s : Option ST) : Option Eff := (s.bind (under gs)).map fun s => ⟨wv dst s, []⟩
def eLoad (tab : Nat → List CT) (Γ : List VT) (gs : Gd) (dst : Option Nat) (σ : Nat → ST) (ti : TI) (s : Option ST) : Option Eff :=
 match s.bind (under gs) with
 | some (.ptr _ id off) => match σ (3 * id + 1) with
  | .box cs => match ti.vt with
   | .one (.c _) => match cs[off]? with
    | some (k, e) => some ⟨wv dst (.v gs k e), []⟩
    | none => none
   | .one (.agg ts) => if off + ts.length ≤ cs.length then some ⟨wv dst (.v gs (packK (((cs.drop off).take ts.length).map (·.1))) (pack tab Γ (((cs.drop off).take ts.length).map (·.2)))), []⟩ else none
   | _ => none
  | _ => none
 | some (.ro _ e off) => match e.inf tab Γ with
  | some (.one (.agg us)) => match ti.vt with
   | .one (.c _) => if off < us.length then some ⟨wv dst (.v gs .d (.cell e off)), []⟩ else none
   | .one (.agg ts) => if off = 0 ∧ ts.length = us.length then some ⟨wv dst (.v gs .d e), []⟩
     else if off + ts.length ≤ us.length then some ⟨wv dst (.v gs .d (.sub e off ts.length)), []⟩ else none
   | _ => none
  | _ => none
 | _ => none
def eStore (tab : Nat → List CT) (Γ : List VT) (gs : Gd) (dst : Option Nat) (σ : Nat → ST) (ti : TI) (s : Option ST) (x : Option ST) : Option Eff :=
 match gs, dst, s.bind (under []), undV [] x with
 | [], none, some (.ptr _ id off), some (k, e) => match σ (3 * id + 1) with
  | .box cs => match ti.vt, e.inf tab Γ with
   | .one (.c _), some (.one (.c _)) => if off < cs.length then some ⟨[(3 * id + 1, .box (cs.set off (k, e)))], []⟩ else none
   | .one (.agg ts), some (.one (.agg us)) => if ts.length = us.length ∧ off + ts.length ≤ cs.length then some ⟨[(3 * id + 1, .box (setAll cs off (apart k ts.length e)))], []⟩ else none
   | _, _ => none
  | _ => none
 | _, _, _, _ => none
def eField (tb : TB) (Γ : List VT) (gs : Gd) (dst : Option Nat) (ti : TI) (s : Option ST) (f : Nat) : Option Eff :=
 match ti.vt, ti.fs[f]? with
 | .one (.agg _), some (fo, ft) => match tb.get ft with
  | some fi => if fi.cells.length = 0 then none else match fi.vt with
   | .tup _ => none
   | .one _ => match s.bind (under gs) with
    | some (.ptr _ id off) => some ⟨wv dst (.ptr gs id (off + fo)), []⟩
    | some (.ro _ e off) => some ⟨wv dst (.ro gs e (off + fo)), []⟩
    | _ => none
  | none => none
 | _, _ => none
def eIndex (tb : TB) (Γ : List VT) (gs : Gd) (dst : Option Nat) (ti : TI) (x i : Option ST) : Option Eff :=
 match ti.vt, undV gs x, undV gs i with
 | .one (.c (.sl el)), some (_, ex), some (_, ei) => match tb.get el with
  | some ei' => match ei'.vt with
   | .tup _ => none
   | .one _ => if isC (.sl el) (ex.inf tb.tab Γ) ∧ (isInt (ei.inf tb.tab Γ)).isSome then some ⟨wv dst (.ro gs (.row (tb.tab el) ex ei) 0), [.cond gs (.inb ex ei)]⟩ else none
  | none => none
 | _, _, _ => none
def eBox (tab : Nat → List CT) (Γ : List VT) (gs : Gd) (dst : Option Nat) (g : Nat) (x : Option ST) : Option Eff :=
 match gs, undV [] x with
 | [], some (k, e) => match e.inf tab Γ with
  | some (.one (.c _)) => some ⟨wv dst (.ptr [] g 0) ++ [(3 * g + 1, .box [(k, e)])], []⟩
  | some (.one (.agg ts)) => some ⟨wv dst (.ptr [] g 0) ++ [(3 * g + 1, .box (apart k ts.length e))], []⟩
  | _ => none
 | _, _ => none
def eAlloc (gs : Gd) (dst : Option Nat) (g : Nat) (ti : TI) : Option Eff :=
 match gs, ti.vt with
 | [], .one v => some ⟨wv dst (.ptr [] g 0) ++ [(3 * g + 1, .box (v.cells.map zeroE))], []⟩
 | _, _ => none
def eParts (tb : TB) (Γ : List VT) (gs : Gd) (σ : Nat → ST) (fs : List (Nat × Nat)) : List (Nat × Operand) → List (K × E) → Option (List (K × E))
 | [], cs => some cs
 | (f, x) :: r, cs => match fs[f]? with
  | some (fo, ft) => match tb.get ft, undV gs (opd tb σ ft x) with
   | some fi, some (k, e) => match fi.vt, e.inf tb.tab Γ with
    | .one (.c _), some (.one (.c _)) => if fo < cs.length then eParts tb Γ gs σ fs r (cs.set fo (k, e)) else none
    | .one (.agg us), some (.one (.agg ts)) => if us.length = ts.length ∧ fo + ts.length ≤ cs.length then eParts tb Γ gs σ fs r (setAll cs fo (apart k ts.length e)) else none
    | _, _ => none
   | _, _ => none
  | none => none
def eBuild (tb : TB) (Γ : List VT) (gs : Gd) (dst : Option Nat) (σ : Nat → ST) (ti : TI) (parts : List (Nat × Operand)) : Option Eff :=
 match ti.vt with
 | .one (.agg ts) => (eParts tb Γ gs σ ti.fs parts (ts.map zeroE)).map fun cs => ⟨wv dst (.v gs (packK (cs.map (·.1))) (pack tb.tab Γ (cs.map (·.2)))), []⟩
 | _ => none
def eRows (tb : TB) (Γ : List VT) (gs : Gd) (σ : Nat → ST) (el : Nat) : Nat → List (Nat × Operand) → E → Option E
 | _, [], acc => some acc
 | n, (i, x) :: r, acc => if i = n then
   match undV gs (opd tb σ el x) with
   | some (_, e) => match e.inf tb.tab Γ with
    | some (.one (.c t)) => if tb.tab el = [t] then eRows tb Γ gs σ el (n + 1) r (.put acc (.ag1 e)) else none
    | some (.one (.agg ts)) => if tb.tab el = ts then eRows tb Γ gs σ el (n + 1) r (.put acc e) else none
    | _ => none
   | none => none
  else none
def eRowsOk (tb : TB) (el len : Nat) : Bool :=
 match tb.get el with
 | some i => match i.vt with | .one _ => decide (len * i.cells.length ≤ 65536) && decide (0 < i.cells.length) | _ => false
 | none => false
def eBuildSlice (tb : TB) (Γ : List VT) (gs : Gd) (dst : Option Nat) (σ : Nat → ST) (ti : TI) (len : Nat) (parts : List (Nat × Operand)) : Option Eff :=
 match ti.vt with
 | .one (.c (.sl el)) => if parts.length = len ∧ eRowsOk tb el len = true then (eRows tb Γ gs σ el 0 parts (.nilS el)).map fun e => ⟨wv dst (.v gs (bif Nat.beq len 0 then .full else .d) e), []⟩ else none
 | _ => none
def eBuildOwn (tb : TB) (Γ : List VT) (gs : Gd) (dst : Option Nat) (σ : Nat → ST) (g : Nat) (ti : TI) (len : Nat) (parts : List (Nat × Operand)) : Option Eff :=
 match gs, ti.vt with
 | [], .one (.c (.sl el)) => if parts.length = len ∧ eRowsOk tb el len = true then (eRows tb Γ [] σ el 0 parts (.nilS el)).map fun e => ⟨wv dst (.v [] (.own g) e) ++ [(3 * g + 2, .live ⟨(tb.tab el).length, none⟩)], []⟩ else none
 | _, _ => none
def isSeq : VT → Bool
 | .one (.c .str) | .one (.c (.sl _)) => true
 | _ => false
def isSl : VT → Bool
 | .one (.c (.sl _)) => true
 | _ => false
def leafC : CT → Bool
 | .sl _ | .mem | .fn => false
 | _ => true
def leafs (ts : List CT) : Bool := ts.all leafC
def slElem (tb : TB) : VT → Bool
 | .one (.c (.sl e)) => (match tb.get e with | some i => (match i.vt with | .one _ => true | .tup _ => false) | none => false)
 | _ => true
def eSlice (tb : TB) (Γ : List VT) (gs : Gd) (dst : Option Nat) (ti : TI) (x : Option ST) (lo hi : Option (Option ST)) : Option Eff :=
 match undV gs x, (match lo with | none => some (K.d, E.li .i64 0) | some s => undV gs s) with
 | some (_, ex), some (_, el) => match (match hi with | none => some (K.d, E.len ex) | some s => undV gs s) with
  | some (_, eh) => if ex.inf tb.tab Γ = some ti.vt ∧ (isInt (el.inf tb.tab Γ)).isSome ∧ (isInt (eh.inf tb.tab Γ)).isSome ∧ isSeq ti.vt = true ∧ slElem tb ti.vt = true then
    some ⟨wv dst (.v gs .d (.cut ex el eh)), [.cond gs (.inc ex el eh)]⟩ else none
  | none => none
 | _, _ => none
def u8In (tb : TB) (src : TI) : Bool := match src.vt with
 | .one (.c (.sl el)) => (match tb.get el with | some i => (match i.vt with | .one (.c (.int .u8)) => true | _ => false) | none => false)
 | _ => false
def eConv (tab : Nat → List CT) (Γ : List VT) (gs : Gd) (dst : Option Nat) (u8 : Bool) (src ti : TI) (x : Option ST) : Option Eff :=
 match src.vt, ti.vt, undV gs x with
 | .one (.c (.int _)), .one (.c (.int k)), some (_, e) => if (isInt (e.inf tab Γ)).isSome then some ⟨wv dst (.v gs .d (.conv k e)), []⟩ else none
 | .one (.c (.sl el)), .one (.c .str), some (_, e) => if isC (.sl el) (e.inf tab Γ) ∧ u8 = true ∧ tab el = [.int .u8] then some ⟨wv dst (.v gs .d (.bstr e)), []⟩ else none
 | _, _, _ => none
def eExtract (tab : Nat → List CT) (Γ : List VT) (gs : Gd) (dst : Option Nat) (x : Option ST) (i : Nat) : Option Eff :=
 match undV gs x with
 | some (k, e) => match e.inf tab Γ with
  | some (.tup vs) => if i < vs.length then some ⟨wv dst (.v gs (subK k (offT vs i) vs[i]?) (.proj e i)), []⟩ else none
  | _ => none
 | none => none
def eNot (tab : Nat → List CT) (Γ : List VT) (gs : Gd) (dst : Option Nat) (x : Option ST) : Option Eff :=
 match undV gs x with
 | some (_, e) => if isC .bool (e.inf tab Γ) then some ⟨wv dst (.v gs .d (.no e)), []⟩ else none
 | none => none
def eNeg (tab : Nat → List CT) (Γ : List VT) (gs : Gd) (dst : Option Nat) (x : Option ST) : Option Eff :=
 match undV gs x with
 | some (_, e) => match e.inf tab Γ with
  | some (.one (.c (.int k))) => some ⟨wv dst (.v gs .d (.ar .sub k (.li k 0) e)), []⟩
  | _ => none
 | none => none
def pickE (tab : Nat → List CT) (Γ : List VT) (ec ea eb : E) : E :=
 if ea = .lb true ∧ isC .bool (eb.inf tab Γ) = true then .or ec eb else if eb = .lb false ∧ isC .bool (ea.inf tab Γ) = true then .an ec ea else .ite ec ea eb
def ePick (tab : Nat → List CT) (Γ : List VT) (gs : Gd) (dst : Option Nat) (c a b : Option ST) : Option Eff :=
 match undV gs c with
 | some (_, ec) => if isC .bool (ec.inf tab Γ) then
   match undV (gs ++ [(ec, true)]) a, undV (gs ++ [(ec, false)]) b with
   | some (_, ea), some (_, eb) => some ⟨wv dst (.v gs .d (pickE tab Γ ec ea eb)), []⟩
   | _, _ => none
  else none
 | none => none
def eLen (tab : Nat → List CT) (Γ : List VT) (gs : Gd) (dst : Option Nat) (ti : TI) (x : Option ST) : Option Eff :=
 match undV gs x with
 | some (_, e) => if (e.inf tab Γ = some ti.vt ∧ isSeq ti.vt = true) ∨ (e.inf tab Γ = some (.one (.c .mem)) ∧ isSl ti.vt = true) then some ⟨wv dst (.v gs .d (.len e)), []⟩ else none
 | none => none
def eAppend (tb : TB) (Γ : List VT) (gs : Gd) (dst : Option Nat) (σ : Nat → ST) (g : Nat) (ti ti' : TI) (x y : Option ST) : Option Eff :=
 match gs, ti.vt, ti'.vt with
 | [], .one (.c (.sl el)), .one (.c (.sl _)) => match undV [] x, undV [] y, tb.get el with
  | some (k, ex), some (_, ey), some ei => if isC (.sl el) (ex.inf tb.tab Γ) ∧ isC (.sl el) (ey.inf tb.tab Γ) ∧ ei.bytes ≤ 1024 ∧ 0 < ei.bytes ∧ 0 < ei.cells.length then
    match ei.vt with
    | .tup _ => none
    | .one _ => match k with
     | .full => some ⟨wv dst (.v [] (.own g) (.app ex ey)) ++ [(3 * g + 2, .live ⟨ei.cells.length, none⟩)], [.cond [] (.few ex ey)]⟩
     | .own h => match σ (3 * h + 2) with
      | .live n => if n = ⟨ei.cells.length, none⟩ then some ⟨wv dst (.v [] (.own g) (.app ex ey)) ++ [(3 * h + 2, .un), (3 * g + 2, .live ⟨ei.cells.length, none⟩)], [.cond [] (.few ex ey)]⟩ else none
      | _ => none
     | _ => none
   else none
  | _, _, _ => none
 | _, _, _ => none
def eAt (tab : Nat → List CT) (Γ : List VT) (gs : Gd) (dst : Option Nat) (ti : TI) (x i : Option ST) : Option Eff :=
 match ti.vt, undV gs x, undV gs i with
 | .one (.c .str), some (_, ex), some (_, ei) => if isC .str (ex.inf tab Γ) ∧ (isInt (ei.inf tab Γ)).isSome then some ⟨wv dst (.v gs .d (.at ex ei)), [.cond gs (.inb ex ei)]⟩ else none
 | _, _, _ => none
def eNil (gs : Gd) (dst : Option Nat) (s : Option ST) : Option Eff :=
 match s.bind (under gs) with
 | some (.ptr _ id off) => some ⟨wv dst (.ptr gs id off), []⟩
 | some (.ro _ e off) => some ⟨wv dst (.ro gs e off), []⟩
 | _ => none
def isAr : BinOp → Bool
 | .add | .sub | .mul | .and | .or | .xor | .andNot => true
 | _ => false
def isCmp : BinOp → Bool
 | .eql | .neq | .lss | .leq | .gtr | .geq => true
 | _ => false
def eBin (tab : Nat → List CT) (Γ : List VT) (gs : Gd) (dst : Option Nat) (op : BinOp) (ti : Option TI) (x y : Option ST) : Option Eff :=
 match undV gs x, undV gs y with
 | some (_, a), some (_, b) => match a.inf tab Γ, b.inf tab Γ with
  | some (.one (.c (.int k))), some (.one (.c (.int k'))) =>
   if op = .shl ∨ op = .shr then some ⟨wv dst (.v gs .d (.ar op k a b)), [.cond gs (.ic .geq b (.li k' 0))]⟩
   else if k ≠ k' then none
   else if isAr op then some ⟨wv dst (.v gs .d (.ar op k a b)), []⟩
   else if isCmp op then some ⟨wv dst (.v gs .d (.ic op a b)), []⟩
   else if op = .quo ∨ op = .rem then some ⟨wv dst (.v gs .d (.ar op k a b)), [.cond gs (.ic .neq b (.li k 0))]⟩
   else none
  | some (.one (.c .str)), some (.one (.c .str)) =>
   if isCmp op then some ⟨wv dst (.v gs .d (.sc op a b)), []⟩
   else if op = .add then some ⟨wv dst (.v gs .d (.scat a b)), [.cond gs (.sok a b)]⟩
   else none
  | some (.one (.agg ts)), some (.one (.agg us)) => match ti with
   | some i => if i.eq = true ∧ i.vt = .one (.agg ts) ∧ i.vt = .one (.agg us) then
     if op = .eql then some ⟨wv dst (.v gs .d (.ae a b)), []⟩ else if op = .neq then some ⟨wv dst (.v gs .d (.no (.ae a b))), []⟩ else none
    else none
   | none => none
  | some (.one (.c .bool)), some (.one (.c .bool)) => match ti with
   | some i => if i.vt = .one (.c .bool) then
     if op = .eql then some ⟨wv dst (.v gs .d (.bc a b)), []⟩ else if op = .neq then some ⟨wv dst (.v gs .d (.no (.bc a b))), []⟩ else none
    else none
   | none => none
  | _, _ => none
 | _, _ => none
def eArgs (tb : TB) (Γ : List VT) (gs : Gd) (σ : Nat → ST) : List Operand → List Nat → Option (List E)
 | [], [] => some []
 | x :: xs, T :: Ts => match undV gs (opd tb σ T x), eArgs tb Γ gs σ xs Ts with
  | some (_, e), some es => some (e :: es)
  | _, _ => none
 | _, _ => none
def isPtr : Option ST → Option (Gd × Nat)
 | some (.ptr g id 0) => some (g, id)
 | _ => none
def vars (n : Nat) : List CT → List (K × E)
 | [] => []
 | _ :: r => (.d, .var n) :: vars (n + 1) r
def infC (tab : Nat → List CT) (Γ : List VT) : List (K × E) → Option (List CT)
 | [] => some []
 | (_, e) :: r => match e.inf tab Γ, infC tab Γ r with
  | some (.one (.c t)), some ts => some (t :: ts)
  | _, _ => none
def gdE : Gd → E
 | [] => .lb true
 | (c, b) :: r => .an (bif b then c else .no c) (gdE r)
def mixB (g : E) : List (K × E) → List (K × E) → List (K × E)
 | x :: r, y :: q => (.d, .ite g x.2 y.2) :: mixB g r q
 | _, _ => []
def eCallG (tb : TB) (Γ : List VT) (gs : Gd) (dst : Option Nat) (σ : Nat → ST) (rt : List (Nat × Nat)) (ti : TI) (f : Nat) (xs : List Operand) (Ts : List Nat) (g' : Gd) (id : Nat) : Option Eff :=
 match σ (3 * id + 1), eArgs tb Γ gs σ xs Ts with
 | .box cs, some es => match infC tb.tab Γ cs with
  | some nb => if rt = [] ∧ gdIn g' gs = true ∧ gs.all (fun x => isC .bool (x.1.inf tb.tab Γ)) = true then some ⟨wv dst (.v gs .d (.var Γ.length)) ++ [(3 * id + 1, .box (mixB (gdE gs) (vars (Γ.length + 1) nb) cs))], [.call gs f (some (cs.map (·.2))) es ti.vt nb]⟩ else none
  | none => none
 | _, _ => none
def eCall (tb : TB) (Γ : List VT) (gs : Gd) (dst : Option Nat) (σ : Nat → ST) (g : Nat) (rt : List (Nat × Nat)) (ti : TI) (f : Nat) (args : List Operand) (tys : List Nat) : Option Eff :=
 match args, tys with
 | x :: xs, T :: Ts => match isPtr (opd tb σ T x) with
  | some (g', id) => match gs, g', σ (3 * id + 1), eArgs tb Γ [] σ xs Ts with
   | [], [], .box cs, some es => match infC tb.tab Γ cs with
    | some nb => if rt = [] then some ⟨wv dst (.v [] .d (.var Γ.length)) ++ [(3 * id + 1, .box (vars (Γ.length + 1) nb))], [.call [] f (some (cs.map (·.2))) es ti.vt nb]⟩
      else if rt.length ≤ stride then some ⟨wv dst (.v [] (rtK g rt ti.vt) (.var Γ.length)) ++ ((3 * id + 1, .box (vars (Γ.length + 1) nb)) :: rtLive g rt), [.callR f (some (cs.map (·.2))) es ti.vt nb rt]⟩ else none
    | none => none
   | _, _, _, _ => eCallG tb Γ gs dst σ rt ti f xs Ts g' id
  | none => match eArgs tb Γ gs σ args tys with
   | some es => if gs = [] ∧ rt ≠ [] ∧ rt.length ≤ stride then some ⟨wv dst (.v [] (rtK g rt ti.vt) (.var Γ.length)) ++ rtLive g rt, [.callR f none es ti.vt [] rt]⟩
     else some ⟨wv dst (.v gs .d (.var Γ.length)), [.call gs f none es ti.vt []]⟩
   | none => none
 | [], [] => some ⟨wv dst (.v gs .d (.var Γ.length)), [.call gs f none [] ti.vt []]⟩
 | _, _ => none
def isNew (ti : TI) : Option (List CT) :=
 match ti.vt with
 | .tup [.agg nb] => bif ti.eq then some nb else none
 | _ => none
def eNew (tb : TB) (Γ : List VT) (gs : Gd) (dst : Option Nat) (σ : Nat → ST) (g : Nat) (nb : List CT) (f : Nat) (args : List Operand) (tys : List Nat) : Option Eff :=
 match gs, eArgs tb Γ [] σ args tys with
 | [], some es => some ⟨wv dst (.ptr [] g 0) ++ [(3 * g + 1, .box (vars Γ.length nb))], [.new f es nb]⟩
 | _, _ => none
def arrOf (tb : TB) (ti : TI) : Option (Nat × CT) :=
 match ti.vt, ti.fs with
 | .tup _, [(n, e)] => match tb.get e with
  | some ei => match ei.vt with
   | .one (.c t) => some (n, t)
   | _ => none
  | none => none
 | _, _ => none
def eGlob (tb : TB) (Γ : List VT) (gs : Gd) (dst : Option Nat) (ti : TI) (g : Nat) : Option Eff :=
 match arrOf tb ti with
 | some (n, t) => some ⟨wv dst (.v gs .d (.var Γ.length)), [.glob g (.one (.agg (List.replicate n t))) none]⟩
 | none => none
def eGIdx (tb : TB) (Γ : List VT) (gs : Gd) (dst : Option Nat) (ti : TI) (g : Nat) (i : Option ST) : Option Eff :=
 match arrOf tb ti, undV gs i with
 | some (n, t), some (_, ei) => if (isInt (ei.inf tb.tab Γ)).isSome then some ⟨wv dst (.gp gs g (.var Γ.length) ei), [.glob g (.one (.agg (List.replicate n t))) (some (gs, ei, n))]⟩ else none
 | _, _ => none
def colM (tb : TB) : List CT → Option (List Nat)
 | [] => some []
 | t :: r => match colM tb r with
  | none => none
  | some ms => match t with
   | .sl e => bif leafs (tb.tab e) && Nat.blt 0 (tb.tab e).length then some ((tb.tab e).length :: ms) else none
   | .mem => none
   | .fn => none
   | _ => some (0 :: ms)
def flatAt (dp : Option (Nat × List Nat)) (off k : Nat) : Bool :=
 match dp with
 | none => true
 | some (_, ms) => (List.range k).all fun j => Nat.beq (ms.getD (off + j) 0) 0
def eMLoad (tb : TB) (Γ : List VT) (gs : Gd) (dst : Option Nat) (σ : Nat → ST) (ti : TI) (g0 : Gd) (g n : Nat) (i : E) (off : Nat) : Option Eff :=
 match σ (3 * g + 2) with
 | .live ⟨n', some (e, dp)⟩ => match e.inf tb.tab Γ with
  | some (.one (.c (.sl el))) => if gdIn g0 gs = true ∧ n = n' ∧ (tb.tab el).length = n then
    match ti.vt with
    | .one (.c t) => if (tb.tab el)[off]? = some t then
      (if flatAt dp off 1 = true then some ⟨wv dst (.v gs .d (.cell (.row (tb.tab el) e i) off)), []⟩
      else match dp with
       | some (gv, _) => some ⟨wv dst (.iv gs g gv n i off (.len (.cell (.row (tb.tab el) e i) off))), []⟩
       | none => none)
      else none
    | .one (.agg ts) => if off + ts.length ≤ n ∧ flatAt dp off ts.length = true then some ⟨wv dst (.v gs .d (if off = 0 ∧ ts.length = n then .row (tb.tab el) e i else .sub (.row (tb.tab el) e i) off ts.length)), []⟩ else none
    | _ => none
   else none
  | _ => none
 | _ => none
def eMStore (tb : TB) (Γ : List VT) (σ : Nat → ST) (g0 : Nat) (ti : TI) (g n : Nat) (i : E) (off : Nat) (x : Option ST) : Option Eff :=
 match σ (3 * g + 2), undV [] x with
 | .live ⟨n', some (e, dp)⟩, some (k, ex) => match e.inf tb.tab Γ with
  | some (.one (.c (.sl el))) => if n = n' ∧ (tb.tab el).length = n then
    match ti.vt, ex.inf tb.tab Γ with
    | .one (.c _), some (.one (.c .mem)) => match k, dp with
     | .own h, some (_, ms) => match σ (3 * h + 2) with
      | .live ⟨m, some (e', none)⟩ => match e'.inf tb.tab Γ with
       | some (.one (.c (.sl el'))) => if (tb.tab el)[off]? = some (.sl el') ∧ ms.getD off 0 = m ∧ m ≠ 0 ∧ h ≠ g then
         some ⟨[(3 * h + 2, .un), (3 * g + 2, .live ⟨n, some (.upd e i (.ag1 e') off, some (g0, ms))⟩)], []⟩ else none
       | _ => none
      | _ => none
     | _, _ => none
    | .one (.c _), some (.one (.c t)) => if (tb.tab el)[off]? = some t ∧ leafC t = true ∧ flatAt dp off 1 = true then some ⟨[(3 * g + 2, .live ⟨n, some (.upd e i (.ag1 ex) off, dp)⟩)], []⟩ else none
    | .one (.agg ts), some (.one (.agg us)) => if us = ((tb.tab el).drop off).take us.length ∧ ts.length = us.length ∧ off + us.length ≤ n ∧ leafs us = true ∧ flatAt dp off us.length = true then some ⟨[(3 * g + 2, .live ⟨n, some (.upd e i ex off, dp)⟩)], []⟩ else none
    | _, _ => none
   else none
  | _ => none
 | _, _ => none
def eIIndex (tb : TB) (Γ : List VT) (gs : Gd) (dst : Option Nat) (ti : TI) (gd : Gd) (g gv n : Nat) (i : E) (off : Nat) (l : E) (x : Option ST) : Option Eff :=
 match ti.vt, undV gs x with
 | .one (.c (.sl el)), some (_, ej) => match tb.get el with
  | some e' => match e'.vt with
   | .tup _ => none
   | .one _ => if gdIn gd gs = true ∧ (isInt (ej.inf tb.tab Γ)).isSome then some ⟨wv dst (.ip gs g gv n i off ej (tb.tab el).length 0), [.cond gs (.inb (.mem l) ej)]⟩ else none
  | none => none
 | _, _ => none
def eILoad (tb : TB) (Γ : List VT) (gs : Gd) (dst : Option Nat) (σ : Nat → ST) (ti : TI) (gd : Gd) (g gv n : Nat) (i : E) (off : Nat) (j : E) (m o2 : Nat) : Option Eff :=
 match σ (3 * g + 2) with
 | .live ⟨n', some (e, some (gv', ms))⟩ => match e.inf tb.tab Γ with
  | some (.one (.c (.sl el))) => match (tb.tab el)[off]? with
   | some (.sl el') => if gdIn gd gs = true ∧ n = n' ∧ (tb.tab el).length = n ∧ gv' = gv ∧ ms.getD off 0 = m ∧ m ≠ 0 ∧ (tb.tab el').length = m then
     match ti.vt with
     | .one (.c t) => if (tb.tab el')[o2]? = some t then some ⟨wv dst (.v gs .d (.cell (.row (tb.tab el') (.cell (.row (tb.tab el) e i) off) j) o2)), []⟩ else none
     | _ => none
    else none
   | _ => none
  | _ => none
 | _ => none
def eIStore (tb : TB) (Γ : List VT) (σ : Nat → ST) (ti : TI) (g gv n : Nat) (i : E) (off : Nat) (j : E) (m o2 : Nat) (x : Option ST) : Option Eff :=
 match σ (3 * g + 2), undV [] x with
 | .live ⟨n', some (e, some (gv', ms))⟩, some (_, ex) => match e.inf tb.tab Γ with
  | some (.one (.c (.sl el))) => match (tb.tab el)[off]? with
   | some (.sl el') => if n = n' ∧ (tb.tab el).length = n ∧ gv' = gv ∧ ms.getD off 0 = m ∧ m ≠ 0 ∧ (tb.tab el').length = m then
     match ti.vt, ex.inf tb.tab Γ with
     | .one (.c _), some (.one (.c t)) => if (tb.tab el')[o2]? = some t ∧ leafC t = true then some ⟨[(3 * g + 2, .live ⟨n, some (.upd e i (.ag1 (.upd (.cell (.row (tb.tab el) e i) off) j (.ag1 ex) o2)) off, some (gv', ms))⟩)], []⟩ else none
     | _, _ => none
    else none
   | _ => none
  | _ => none
 | _, _ => none
def eMField (tb : TB) (gs : Gd) (dst : Option Nat) (ti : TI) (g0 : Gd) (g n : Nat) (i : E) (off f : Nat) : Option Eff :=
 match ti.vt, ti.fs[f]? with
 | .one (.agg _), some (fo, ft) => match tb.get ft with
  | some fi => if fi.cells.length = 0 ∨ gdIn g0 gs = false then none else match fi.vt with
   | .tup _ => none
   | .one _ => some ⟨wv dst (.mp gs g n i (off + fo)), []⟩
  | none => none
 | _, _ => none
def eMIndex (tb : TB) (Γ : List VT) (gs : Gd) (dst : Option Nat) (ti : TI) (g0 : Gd) (g : Nat) (l : E) (i : Option ST) : Option Eff :=
 match ti.vt, undV gs i with
 | .one (.c (.sl el)), some (_, ei) => match tb.get el with
  | some e' => match e'.vt with
   | .tup _ => none
   | .one _ => if gdIn g0 gs = true ∧ isC .mem (l.inf tb.tab Γ) = true ∧ (isInt (ei.inf tb.tab Γ)).isSome then some ⟨wv dst (.mp gs g (tb.tab el).length ei 0), [.cond gs (.inb l ei)]⟩ else none
  | none => none
 | _, _ => none
def eMake (tb : TB) (Γ : List VT) (gs : Gd) (dst : Option Nat) (g : Nat) (ti : TI) (l c : Option ST) : Option Eff :=
 match gs, ti.vt, undV [] l, undV [] c with
 | [], .one (.c (.sl el)), some (_, en), some (_, ec) => match tb.get el with
  | some ei => match ei.vt with
   | .tup _ => none
   | .one _ => if en = ec ∧ isInt (en.inf tb.tab Γ) = some .i64 ∧ ei.bytes ≤ 1024 ∧ 0 < ei.cells.length ∧ (leafs (tb.tab el) = true ∨ (colM tb (tb.tab el)).isSome = true) then
     some ⟨wv dst (.v [] (.own g) (.mem en)) ++ [(3 * g + 2, .live ⟨(tb.tab el).length, some (.rep el (tb.tab el) en, if leafs (tb.tab el) = true then none else (colM tb (tb.tab el)).map fun ms => (g + 1, ms))⟩)], [.cond [] (.an (.ic .leq (.li .i64 0) en) (.ic .leq en (.li .i64 4294967296)))]⟩
    else none
  | none => none
 | _, _, _, _ => none
def eCutOwn (tb : TB) (Γ : List VT) (dst : Option Nat) (σ : Nat → ST) (g : Nat) (ti : TI) (h : Nat) (ex : E) (lo : Option ST) : Option Eff :=
 match ti.vt, undV [] lo, σ (3 * h + 2) with
 | .one (.c (.sl el)), some (_, el0), .live ⟨n, none⟩ =>
  if ex.inf tb.tab Γ = some ti.vt ∧ (isInt (el0.inf tb.tab Γ)).isSome ∧ slElem tb ti.vt = true ∧ n = (tb.tab el).length then
   some ⟨wv dst (.v [] (.own g) (.cut ex el0 (.len ex))) ++ [(3 * h + 2, .un), (3 * g + 2, .live ⟨n, none⟩)], [.cond [] (.inc ex el0 (.len ex))]⟩
  else none
 | _, _, _ => none
def eSl (tb : TB) (Γ : List VT) (gs : Gd) (dst : Option Nat) (σ : Nat → ST) (g : Nat) (ti : TI) (x : Option ST) (lo hi : Option (Option ST)) : Option Eff :=
 match gs, x, lo, hi with
 | [], some (.v [] (.own h) ex), some l, none => match eCutOwn tb Γ dst σ g ti h ex l with
  | some e => some e
  | none => eSlice tb Γ gs dst ti x lo hi
 | _, _, _, _ => eSlice tb Γ gs dst ti x lo hi
def eAppI (tb : TB) (Γ : List VT) (dst : Option Nat) (σ : Nat → ST) (g : Nat) (ti ui : TI) (x : Option ST) (h gv n : Nat) (i : E) (off : Nat) (l : E) : Option Eff :=
 match ti.vt, ui.vt with
 | .one (.c (.sl el)), .one (.c (.sl _)) => match undV [] x, tb.get el, σ (3 * h + 2) with
  | some (.full, ex), some ei, .live ⟨n', some (e, some (gv', ms))⟩ => match ei.vt, e.inf tb.tab Γ with
   | .one _, some (.one (.c (.sl e0))) =>
    if isC (.sl el) (ex.inf tb.tab Γ) = true ∧ ei.bytes ≤ 1024 ∧ 0 < ei.bytes ∧ 0 < ei.cells.length ∧ n = n' ∧ (tb.tab e0).length = n ∧ gv' = gv ∧ (tb.tab e0)[off]? = some (.sl el) ∧ ms.getD off 0 = (tb.tab el).length then
     some ⟨wv dst (.v [] (.own g) (.mem l)) ++ [(3 * g + 2, .live ⟨(tb.tab el).length, some (.cell (.row (tb.tab e0) e i) off, none)⟩)], [.cond [] (.ic .leq l (.li .i64 4294967296))]⟩
    else none
   | _, _ => none
  | _, _, _ => none
 | _, _ => none
def eApp (tb : TB) (Γ : List VT) (gs : Gd) (dst : Option Nat) (σ : Nat → ST) (g : Nat) (ti ui : TI) (x y : Option ST) : Option Eff :=
 match gs, y with
 | [], some (.iv [] h gv n i off l) => eAppI tb Γ dst σ g ti ui x h gv n i off l
 | _, _ => eAppend tb Γ gs dst σ g ti ui x y
def eLd (tb : TB) (Γ : List VT) (gs : Gd) (dst : Option Nat) (σ : Nat → ST) (ti : TI) (a : Operand) : Option Eff :=
 match a with
 | .global g => eGlob tb Γ gs dst ti g
 | a => match opd tb σ 0 a with
  | some (.gp g0 g x ei) => match ti.vt, x.inf tb.tab Γ with
   | .one (.c t), some (.one (.agg ts)) => if gdIn g0 gs = true ∧ ts.all (fun u => decide (u = t)) = true then some ⟨wv dst (.v gs .d (.sel t x ei)), []⟩ else none
   | _, _ => none
  | some (.mp g0 g n i off) => eMLoad tb Γ gs dst σ ti g0 g n i off
  | some (.ip gd g gv n i off j m o2) => eILoad tb Γ gs dst σ ti gd g gv n i off j m o2
  | s => eLoad tb.tab Γ gs dst σ ti s
def eSt (tb : TB) (Γ : List VT) (gs : Gd) (dst : Option Nat) (σ : Nat → ST) (g0 : Nat) (ti : TI) (s x : Option ST) : Option Eff :=
 match gs, dst, s with
 | [], none, some (.mp [] g n i off) => eMStore tb Γ σ g0 ti g n i off x
 | [], none, some (.ip [] g gv n i off j m o2) => eIStore tb Γ σ ti g gv n i off j m o2 x
 | _, _, _ => eStore tb.tab Γ gs dst σ ti s x
def eFld (tb : TB) (Γ : List VT) (gs : Gd) (dst : Option Nat) (ti : TI) (s : Option ST) (f : Nat) : Option Eff :=
 match s with
 | some (.mp g0 g n i off) => eMField tb gs dst ti g0 g n i off f
 | _ => eField tb Γ gs dst ti s f
def eIdx (tb : TB) (Γ : List VT) (gs : Gd) (dst : Option Nat) (σ : Nat → ST) (ti : TI) (T : Nat) (x i : Operand) : Option Eff :=
 match x with
 | .global g => eGIdx tb Γ gs dst ti g (opd tb σ 0 i)
 | x => match opd tb σ T x with
  | some (.v g0 (.own g) l) => bif isC .mem (l.inf tb.tab Γ) then eMIndex tb Γ gs dst ti g0 g l (opd tb σ 0 i) else eIndex tb Γ gs dst ti (opd tb σ T x) (opd tb σ 0 i)
  | some (.iv gd g gv n k off l) => eIIndex tb Γ gs dst ti gd g gv n k off l (opd tb σ 0 i)
  | s => eIndex tb Γ gs dst ti s (opd tb σ 0 i)
def eSel (tb : TB) (Γ : List VT) (gs : Gd) (dst : Option Nat) (ti : TI) (x i : Option ST) : Option Eff :=
 match arrOf tb ti with
 | some (n, t) => match undV gs x, undV gs i with
  | some (_, ex), some (_, ei) => if ex.inf tb.tab Γ = some (.one (.agg (List.replicate n t))) ∧ (isInt (ei.inf tb.tab Γ)).isSome = true then some ⟨wv dst (.v gs .d (.sel t ex ei)), [.cond gs (.an (.ic .leq (.li .i64 0) ei) (.ic .lss ei (.li .i64 n)))]⟩ else none
  | _, _ => none
 | none => eAt tb.tab Γ gs dst ti x i
def eCallV (tb : TB) (Γ : List VT) (gs : Gd) (dst : Option Nat) (σ : Nat → ST) (ti : TI) (x : Option ST) (args : List Operand) (tys : List Nat) : Option Eff :=
 match undV gs x, eArgs tb Γ gs σ args tys with
 | some (_, e), some es => if isC .fn (e.inf tb.tab Γ) = true then some ⟨wv dst (.v gs .d (.var Γ.length)), [.callV gs e es ti.vt]⟩ else none
 | _, _ => none
def eCaps (tab : Nat → List CT) (Γ : List VT) (σ : Nat → ST) : List Operand → List Nat → E → Option (E × List Nat)
 | [], ids, e => some (e, ids)
 | .tmp t :: r, ids, e => match σ (3 * t) with
  | .ptr [] id 0 => match σ (3 * id + 1) with
   | .box cs => if id ≠ 0 ∧ ids.contains id = false then eCaps tab Γ σ r (id :: ids) (.fnC e (pack tab Γ (cs.map (·.2)))) else none
   | _ => none
  | _ => none
 | _ :: _, _, _ => none
def dropB (ids : List Nat) : List (Nat × ST) := ids.map fun id => (3 * id + 1, .un)
def eMakeFn (tab : Nat → List CT) (Γ : List VT) (gs : Gd) (dst : Option Nat) (σ : Nat → ST) (f : Nat) (first caps : List Operand) : Option Eff :=
 match gs, first with
 | [], [] => match eCaps tab Γ σ caps [] (.fn0 f) with
  | some (e, ids) => if isC .fn (e.inf tab Γ) = true then some ⟨wv dst (.v [] .d e) ++ dropB ids, []⟩ else none
  | none => none
 | _, _ => none
def dstOk (nt : Nat) : Option Nat → Bool
 | some d => Nat.blt d nt
 | none => true
def opEff (cx : Cx) (ops : Array Oper) (Γ : List VT) (g : Nat) (o : Oper) (σ : Nat → ST) : Option Eff :=
 match gsOf cx.tb.tab Γ ops σ o with
 | none => none
 | some gs =>
  bif dstOk cx.nt o.dst then
   match o.op with
   | .move x | .assign x => eMove gs o.dst (opd cx.tb σ o.type x)
   | .load T a => match cx.tb.get T with | some ti => eLd cx.tb Γ gs o.dst σ ti a | none => none
   | .store T a x => match cx.tb.get T with | some ti => eSt cx.tb Γ gs o.dst σ g ti (opd cx.tb σ 0 a) (opd cx.tb σ T x) | none => none
   | .fieldAddr T a f => match cx.tb.get T with | some ti => eFld cx.tb Γ gs o.dst ti (opd cx.tb σ 0 a) f | none => none
   | .indexAddr T x i => match cx.tb.get T with | some ti => eIdx cx.tb Γ gs o.dst σ ti T x i | none => none
   | .index T x i => match cx.tb.get T with | some ti => eSel cx.tb Γ gs o.dst ti (opd cx.tb σ T x) (opd cx.tb σ 0 i) | none => none
   | .box T x => eBox cx.tb.tab Γ gs o.dst g (opd cx.tb σ T x)
   | .alloc T => match cx.tb.get T with | some ti => eAlloc gs o.dst g ti | none => none
   | .build T parts => match cx.tb.get T with | some ti => eBuild cx.tb Γ gs o.dst σ ti parts.toList | none => none
   | .makeSlice T l c => match cx.tb.get T with | some ti => eMake cx.tb Γ gs o.dst g ti (opd cx.tb σ 0 l) (opd cx.tb σ 0 c) | none => none
   | .buildSlice T len parts => match cx.tb.get T with | some ti => bif Nat.blt 0 len && gs.isEmpty then eBuildOwn cx.tb Γ gs o.dst σ g ti len parts.toList else eBuildSlice cx.tb Γ gs o.dst σ ti len parts.toList | none => none
   | .slice T x lo hi none => match cx.tb.get T with | some ti => eSl cx.tb Γ gs o.dst σ g ti (opd cx.tb σ T x) (lo.map (opd cx.tb σ 0)) (hi.map (opd cx.tb σ 0)) | none => none
   | .convert S T x => match cx.tb.get S, cx.tb.get T with | some si, some ti => eConv cx.tb.tab Γ gs o.dst (u8In cx.tb si) si ti (opd cx.tb σ S x) | _, _ => none
   | .extract t i => eExtract cx.tb.tab Γ gs o.dst (opd cx.tb σ 0 t) i
   | .unOp .not _ x => eNot cx.tb.tab Γ gs o.dst (opd cx.tb σ 0 x)
   | .unOp .neg _ x => eNeg cx.tb.tab Γ gs o.dst (opd cx.tb σ 0 x)
   | .pick c a b => ePick cx.tb.tab Γ gs o.dst (opd cx.tb σ 0 c) (opd cx.tb σ o.type a) (opd cx.tb σ o.type b)
   | .makeFunc (.func f) first caps => eMakeFn cx.tb.tab Γ gs o.dst σ f first.toList caps.toList
   | .nilCheck x => eNil gs o.dst (opd cx.tb σ 0 x)
   | .binOp op T x y _ => eBin cx.tb.tab Γ gs o.dst op (cx.tb.get T) (opd cx.tb σ T x) (opd cx.tb σ T y)
   | .call c => match c.callee with
    | .value (.func f) => match cx.tb.get o.type with
     | some ti => match isNew ti with
      | some nb => eNew cx.tb Γ gs o.dst σ g nb f c.args.toList c.argTypes.toList
      | none => eCall cx.tb Γ gs o.dst σ g (cx.rb.get f) ti f c.args.toList c.argTypes.toList
     | none => none
    | .value (.tmp t) => match cx.tb.get o.type with
     | some ti => eCallV cx.tb Γ gs o.dst σ ti (opd cx.tb σ 0 (.tmp t)) c.args.toList c.argTypes.toList
     | none => none
    | .builtin .len => match c.args.toList, c.argTypes.toList with
     | [x], [T] => match cx.tb.get T with | some ti => eLen cx.tb.tab Γ gs o.dst ti (opd cx.tb σ T x) | none => none
     | _, _ => none
    | .builtin .append => match c.args.toList, c.argTypes.toList with
     | [x, y], [T, U] => match cx.tb.get T, cx.tb.get U with | some ti, some ui => eApp cx.tb Γ gs o.dst σ g ti ui (opd cx.tb σ T x) (opd cx.tb σ U y) | _, _ => none
     | _, _ => none
    | _ => none
   | _ => none
  else none
def tmpsOf (ops : Array Oper) (o : Oper) : List Nat :=
 (o.op.operands.toList.filterMap fun | .tmp t => some t | _ => none) ++ (match o.guard with | none => [] | some (j, _) => ((ops[j]?).bind (·.dst)).toList)
def dynOf (σ : Nat → ST) : List Nat → List Nat
 | [] => []
 | t :: r => match σ (3 * t) with
  | .ptr _ id _ => (3 * id + 1) :: dynOf σ r
  | .v _ (.own g) _ => (3 * g + 2) :: dynOf σ r
  | .mp _ g _ _ _ => (3 * g + 2) :: dynOf σ r
  | .ip _ g _ _ _ _ _ _ _ => (3 * g + 2) :: dynOf σ r
  | .iv _ g _ _ _ _ _ => (3 * g + 2) :: dynOf σ r
  | _ => dynOf σ r
def looks : Op → Bool
 | .load _ _ | .store _ _ _ | .call _ | .slice .. | .makeFunc .. => true
 | _ => false
def readsOf (ops : Array Oper) (σ : Nat → ST) (o : Oper) : List Nat := (tmpsOf ops o).map (3 * ·) ++ bif looks o.op then dynOf σ (tmpsOf ops o) else []
structure SS where
 Γ : List VT
 nt : Nat
 lv : Nat
 σ : Sg
def rqTys : List Rq → List VT
 | [] => []
 | .cond _ _ :: r => rqTys r
 | .call _ _ _ _ vt nb :: r => vt :: nb.map (fun t => .one (.c t)) ++ rqTys r
 | .callR _ _ _ vt nb _ :: r => vt :: nb.map (fun t => .one (.c t)) ++ rqTys r
 | .new _ _ nb :: r => nb.map (fun t => .one (.c t)) ++ rqTys r
 | .callV _ _ _ vt :: r => vt :: rqTys r
 | .glob _ vt _ :: r => vt :: rqTys r
def SS.step (ss : SS) (e : Eff) : SS := { ss with Γ := ss.Γ ++ rqTys e.rq, nt := ss.nt + stride, σ := e.wr.reverse ++ ss.σ }
def regRun (cx : Cx) (ops : Array Oper) : List Oper → SS → Option (List Eff × SS)
 | [], ss => some ([], ss)
 | o :: r, ss => match opEff cx ops ss.Γ ss.nt o ss.σ.get with
  | none => none
  | some e => match regRun cx ops r (ss.step e) with
   | none => none
   | some (es, s) => some (e :: es, s)
inductive VC where
 | fail (why : Nat)
 | ret (e : E) (bs : List E)
 | rq (r : Rq) (k : VC)
 | ite (c : E) (a b : VC)
 | loop (tys : List VT) (inits : List E) (body : VC)
 | again (d : Nat) (es : List E)
def rqs : List Eff → VC → VC
 | [], k => k
 | e :: r, k => e.rq.foldr .rq (rqs r k)
end Go.Proofs.YtimickglpboilaaGreat
