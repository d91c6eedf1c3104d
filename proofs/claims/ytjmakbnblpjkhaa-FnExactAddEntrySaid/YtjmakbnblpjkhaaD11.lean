/- Writing marks into memory of one's own: what stays, what the shape of data is, a row of leaves with one cell written. No program in sight. -/
import Derived.Test.YtjmakbnblpjkhaaD10
import Derived.Test.YtjmakbnblpjkhaaRows
import Derived.JoinedOf
import Derived.KernelRfl
import Derived.Test.YtjmakbnblpjkhaaD0
set_option linter.unusedVariables false
set_option linter.unusedSimpArgs false
set_option linter.unusedSectionVars false
set_option maxRecDepth 100000
namespace Go.Proofs.Ytjmakbnblpjkhaa
open Go.RowKit Go
variable [GC]
def NF (w : World) (B : Nat) : Addr → Prop := fun p => p.block < B ∨ w.frozen? p = true
def Same (u u' : Value) : Prop := u' = u ∨ (∃ s s' : ByteArray, u = .string s ∧ u' = .string s' ∧ s'.size ≤ maxLen) ∨ ∃ (k : IntKind) (n n' : Int), u = .int k n ∧ u' = .int k n' ∧ k.min ≤ n' ∧ n' ≤ k.max
theorem Same.trans {a b c : Value} (h : Same a b) (h' : Same b c) : Same a c := by
 rcases h with rfl | ⟨s, s', rfl, rfl, h⟩ | ⟨k, n, n', rfl, rfl, h⟩
 ·exact h'
 ·rcases h' with rfl | ⟨t, t', e, rfl, h'⟩ | ⟨k, n, n', e, _⟩
  ·exact .inr (.inl ⟨s, s', rfl, rfl, h⟩)
  ·exact .inr (.inl ⟨s, t', rfl, rfl, h'⟩)
  ·cases e
 ·rcases h' with rfl | ⟨t, t', e, _⟩ | ⟨k', m, m', e, rfl, h'⟩
  ·exact .inr (.inr ⟨k, n, n', rfl, rfl, h⟩)
  ·cases e
  ·cases e
   exact .inr (.inr ⟨k, n, m', rfl, rfl, h'⟩)
structure Alt (A : Addr → Prop) (w w' : World) : Prop where
 size : w.heap.size ≤ w'.heap.size
 fro : ∀ p : Addr, p.block < w.heap.size → w'.frozen? p = w.frozen? p
 keep : ∀ p v, w.cell? p = some v → ¬ A p → w'.cell? p = some v
 same : ∀ p u, w.cell? p = some u → ∃ u', w'.cell? p = some u' ∧ Same u u'
 env : w'.os = w.os ∧ w'.tape = w.tape ∧ w'.output = w.output
 blk : ∀ k, k < w.heap.size → (∀ p : Addr, p.block = k → ¬ A p) → w'.heap[k]? = w.heap[k]?
theorem Alt.refl (A : Addr → Prop) (w : World) : Alt A w w := ⟨Nat.le_refl _, fun _ _ => rfl, fun _ _ h _ => h, fun _ u h => ⟨u, h, .inl rfl⟩, ⟨rfl, rfl, rfl⟩, fun _ _ _ => rfl⟩
theorem Alt.trans {A : Addr → Prop} {w w' w'' : World} (h : Alt A w w') (h' : Alt A w' w'') : Alt A w w'' where
 size := Nat.le_trans h.size h'.size
 fro := fun p hp => by rw [h'.fro p (Nat.lt_of_lt_of_le hp h.size), h.fro p hp]
 keep := fun p v hp ha => h'.keep p v (h.keep p v hp ha) ha
 same := fun p u hp => by
  obtain ⟨u1, h1, h2⟩ := h.same p u hp
  obtain ⟨u2, h3, h4⟩ := h'.same p u1 h1
  exact ⟨u2, h3, h2.trans h4⟩
 env := ⟨h'.env.1.trans h.env.1, h'.env.2.1.trans h.env.2.1, h'.env.2.2.trans h.env.2.2⟩
 blk := fun k hk ha => (h'.blk k (Nat.lt_of_lt_of_le hk h.size) ha).trans (h.blk k hk ha)
theorem Alt.mono {A A' : Addr → Prop} {w w' : World} (h : Alt A w w') (hA : ∀ p, p.block < w.heap.size → A p → A' p) : Alt A' w w' :=
 ⟨h.size, h.fro, fun p v hp ha => h.keep p v hp fun h => ha (hA p (block_lt_of_cell hp) h), h.same, h.env, fun k hk ha => h.blk k hk fun p hp hq => ha p hp (hA p (by rw [hp]; exact hk) hq)⟩
theorem fro_of_block {w w' : World} {p : Addr} (h : w'.heap[p.block]? = w.heap[p.block]?) : w'.frozen? p = w.frozen? p := by
 unfold World.frozen?; rw [h]
theorem Alt.below {A : Addr → Prop} {w w' : World} (h : Below w.heap.size w w') : Alt A w w' :=
 ⟨h.size, fun p hp => fro_of_block (h.block p.block hp), fun p v hp _ => by rw [h.cell (block_lt_of_cell hp)]; exact hp, fun p u hp => ⟨u, by rw [h.cell (block_lt_of_cell hp)]; exact hp, .inl rfl⟩, ⟨h.os, h.tape, h.output⟩, fun k hk _ => h.block k hk⟩
theorem cell_set_ne {w : World} {a p : Addr} {v : Value} (h : p ≠ a) (hs : a.spot = none) (hp : p.spot = none ∨ True) : (w.setCell a v).cell? p = w.cell? p ∨ (p.block = a.block ∧ p.off = a.off) := by
 by_cases hb : p.block = a.block
 ·by_cases ho : p.off = a.off
  ·exact .inr ⟨hb, ho⟩
  ·left
   unfold World.cell? World.setCell
   rw [hb]
   simp only [Array.getElem?_modify]
   cases hw : w.heap[a.block]? with
   | none => simp
   | some x =>
    cases x with
    | cells c e f =>
     simp only [hs, Option.isSome_none, Option.map_some, if_true]
     split
     ·rfl
     ·simp [Array.getElem?_setIfInBounds, Ne.symm ho]
    | _ => simp
 ·left
  exact World.cell?_of_block (Below.heap_setCell _ _ _ _ hb)
theorem cell_spot {w : World} {p : Addr} {v : Value} (h : w.cell? p = some v) : p.spot = none := by
 unfold World.cell? at h
 split at h
 ·split at h
  ·cases h
  ·rename_i hs; simpa using hs
 ·cases h
theorem cell_at {w : World} {a : Addr} {u v : Value} (h : w.cell? a = some u) : (w.setCell a v).cell? a = some v := by
 have hs := cell_spot h
 unfold World.cell? World.setCell at *
 simp only [Array.getElem?_modify, if_true]
 cases hw : w.heap[a.block]? with
 | none => rw [hw] at h; cases h
 | some x =>
  rw [hw] at h
  cases x with
  | cells c e f =>
   simp only [hs, Option.isSome_none, Bool.false_eq_true, if_false, Option.map_some] at h ⊢
   have := (Array.getElem?_eq_some_iff.1 h).1
   simp [Array.getElem?_setIfInBounds, this]
  | _ => cases h
theorem size_setCell (w : World) (a : Addr) (v : Value) : (w.setCell a v).heap.size = w.heap.size := by unfold World.setCell; simp
theorem fro_setCell (w : World) (a p : Addr) (v : Value) : (w.setCell a v).frozen? p = w.frozen? p := by
 unfold World.frozen? World.setCell
 simp only [Array.getElem?_modify]
 by_cases hb : a.block = p.block
 ·simp only [hb, if_true]
  cases hw : w.heap[p.block]? with
  | none => simp
  | some x => cases x <;> simp
 ·simp [hb]
theorem Alt.set {A : Addr → Prop} {w : World} {a : Addr} {u v : Value} (hA : A a) (h : w.cell? a = some u) (hs : Same u v) : Alt A w (w.setCell a v) := by
 have hsp := cell_spot h
 refine ⟨by rw [size_setCell]; exact Nat.le_refl _, fun p _ => fro_setCell _ _ _ _, fun p x hp ha => ?_, fun p x hp => ?_, ⟨rfl, rfl, rfl⟩, fun k _ ha => Below.heap_setCell _ _ _ _ fun e => ha a e.symm hA⟩
 ·rcases cell_set_ne (w := w) (v := v) (p := p) (a := a) (fun e => ha (by rw [e]; exact hA)) hsp (.inr trivial) with h1 | ⟨h1, h2⟩
  ·rw [h1]; exact hp
  ·have h3 := cell_spot hp
   have : p = a := by cases p; cases a; simp_all
   exact absurd (this.symm ▸ hA) ha
 ·by_cases e : p = a
  ·subst e
   rw [h] at hp; cases hp
   exact ⟨v, cell_at h, hs⟩
  ·rcases cell_set_ne (w := w) (v := v) (p := p) (a := a) e hsp (.inr trivial) with h1 | ⟨h1, h2⟩
   ·exact ⟨x, by rw [h1]; exact hp, .inl rfl⟩
   ·have h3 := cell_spot hp
    exact absurd (by cases p; cases a; simp_all) e
theorem Alt.keeps {A M M' : Addr → Prop} {w w' : World} (h : Alt A w w') (hA : ∀ p, A p → M p) (hM : ∀ p, p.block < w.heap.size → M' p → M p) : Keeps w M w' M' :=
 fun p v hp hn => ⟨h.keep p v hp fun ha => hn (hA p ha), fun hm => hn (hM p (block_lt_of_cell hp) hm)⟩
theorem R.up {w : World} {M : Addr → Prop} {d : D} {v : Value} (h : R w M d v) : R w (fun p => M p ∨ w.heap.size ≤ p.block) d v :=
 R.keep (fun p v hp hn => ⟨hp, fun hm => hm.elim hn fun h => by have := block_lt_of_cell hp; omega⟩) d v h
theorem R.less {w : World} {M M' : Addr → Prop} {d : D} {v : Value} (h : R w M d v) (hM : ∀ p, M' p → M p) : R w M' d v :=
 R.keep (fun p v hp hn => ⟨hp, fun hm => hn (hM p hm)⟩) d v h
mutual
def Sh : D → D → Prop
 | .str _, d' => ∃ s, d' = .str s
 | .int k _, d' => ∃ n, d' = .int k n
 | .sl rows, d' => ∃ rows', d' = .sl rows' ∧ ShR rows rows'
 | .agg l, d' => ∃ l', d' = .agg l' ∧ ShL l l'
 | .tup l, d' => ∃ l', d' = .tup l' ∧ ShL l l'
 | .fn f caps, d' => ∃ caps', d' = .fn f caps' ∧ ShR caps caps'
 | .bool b, d' => d' = .bool b
 | .mem n, d' => d' = .mem n
 | .un, d' => d' = .un
def ShL : List D → List D → Prop
 | [], l' => l' = []
 | d :: l, l' => ∃ d' r', l' = d' :: r' ∧ Sh d d' ∧ ShL l r'
def ShR : List (List D) → List (List D) → Prop
 | [], l' => l' = []
 | r :: l, l' => ∃ d' r', l' = d' :: r' ∧ ShL r d' ∧ ShR l r'
end
theorem ShL.length : ∀ {l l' : List D}, ShL l l' → l'.length = l.length
 | [], _, h => by subst h; rfl
 | _ :: l, _, ⟨_, _, e, _, h⟩ => by subst e; simp [ShL.length h]
theorem ShR.length : ∀ {l l' : List (List D)}, ShR l l' → l'.length = l.length
 | [], _, h => by subst h; rfl
 | _ :: l, _, ⟨_, _, e, _, h⟩ => by subst e; simp [ShR.length h]
theorem sh_val {w : World} {M : Addr → Prop} : ∀ {d : D} {u u' : Value}, R w M d u → Same u u' → u' = u ∨ ∃ d', Sh d d' ∧ ∀ (w' : World) (M' : Addr → Prop), R w' M' d' u'
 | d, u, u', hr, h => by
  rcases h with rfl | ⟨s, s', rfl, rfl, h⟩ | ⟨k, n, n', rfl, rfl, h⟩
  ·exact .inl rfl
  ·right
   cases d with
   | str t => exact ⟨.str s', ⟨_, rfl⟩, fun _ _ => ⟨rfl, h⟩⟩
   | bool b => cases (show Value.string s = .bool b from hr)
   | int k n => cases hr.1
   | agg l => obtain ⟨cs, e, _⟩ := hr; cases e
   | tup l => obtain ⟨cs, e, _⟩ := hr; cases e
   | sl rows => obtain ⟨a, len, cap, e, _⟩ := hr; cases e
   | mem n => obtain ⟨a, cap, e, _⟩ := hr; cases e
   | fn f c => obtain ⟨ps, e, _⟩ := hr; cases e
   | un => exact hr.elim
  ·right
   cases d with
   | str t => cases hr.1
   | bool b => cases (show Value.int k n = .bool b from hr)
   | int k2 m =>
    cases hr.1
    exact ⟨.int k n', ⟨_, rfl⟩, fun _ _ => ⟨rfl, h⟩⟩
   | agg l => obtain ⟨cs, e, _⟩ := hr; cases e
   | tup l => obtain ⟨cs, e, _⟩ := hr; cases e
   | sl rows => obtain ⟨a, len, cap, e, _⟩ := hr; cases e
   | mem n => obtain ⟨a, cap, e, _⟩ := hr; cases e
   | fn f c => obtain ⟨ps, e, _⟩ := hr; cases e
   | un => exact hr.elim
section
variable {w w' : World} {A M M' : Addr → Prop}
mutual
theorem R.shape (h : Alt A w w') (hM : ∀ p, p.block < w.heap.size → M' p → M p) : ∀ (d : D) (v : Value), R w M d v → ∃ d', Sh d d' ∧ R w' M' d' v
 | .bool b, _, hr => ⟨.bool b, rfl, hr⟩
 | .int k n, _, hr => ⟨.int k n, ⟨_, rfl⟩, hr⟩
 | .str s, _, hr => ⟨.str s, ⟨_, rfl⟩, hr⟩
 | .agg l, v, ⟨cs, e, hr⟩ => by
  obtain ⟨l', h1, h2⟩ := Rs.shape h hM l _ hr
  exact ⟨.agg l', ⟨_, rfl, h1⟩, cs, e, h2⟩
 | .tup l, v, ⟨cs, e, hr⟩ => by
  obtain ⟨l', h1, h2⟩ := Rs.shape h hM l _ hr
  exact ⟨.tup l', ⟨_, rfl, h1⟩, cs, e, h2⟩
 | .sl rows, v, ⟨a, len, cap, e, h1, h2, h3, h4, h5⟩ => by
  rcases a with _ | ⟨b, o, s⟩
  ·have : rows = [] := List.eq_nil_of_length_eq_zero (by have := h4 rfl; omega)
   subst this
   exact ⟨.sl [], ⟨_, rfl, rfl⟩, none, len, cap, e, h1, h2, h3, h4, fun b o s ha => by cases ha⟩
  ·obtain ⟨rows', q1, q2⟩ := Rws.shape h hM rows b o (h5 b o s rfl).2
   refine ⟨.sl rows', ⟨_, rfl, q1⟩, _, len, cap, e, by rw [q1.length]; exact h1, h2, h3, h4, fun b' o' s' ha => ?_⟩
   cases ha
   exact ⟨(h5 b o s rfl).1, q2⟩
 | .mem n, _, hr => ⟨.mem n, rfl, hr⟩
 | .fn f caps, v, ⟨ps, e, hr⟩ => by
  obtain ⟨c', h1, h2⟩ := Rps.shape h hM caps _ hr
  exact ⟨.fn f c', ⟨_, rfl, h1⟩, ps, e, h2⟩
 | .un, _, hr => hr.elim
theorem Rs.shape (h : Alt A w w') (hM : ∀ p, p.block < w.heap.size → M' p → M p) : ∀ (l : List D) (vs : List Value), Rs w M l vs → ∃ l', ShL l l' ∧ Rs w' M' l' vs
 | [], _, hr => ⟨[], rfl, hr⟩
 | d :: l, vs, ⟨v, r, e, h1, h2⟩ => by
  obtain ⟨d', q1, q2⟩ := R.shape h hM d v h1
  obtain ⟨l', q3, q4⟩ := Rs.shape h hM l r h2
  exact ⟨d' :: l', ⟨_, _, rfl, q1, q3⟩, v, r, e, q2, q4⟩
theorem Rw.shape (h : Alt A w w') (hM : ∀ p, p.block < w.heap.size → M' p → M p) : ∀ (l : List D) (b o : Nat), Rw w M l b o → ∃ l', ShL l l' ∧ Rw w' M' l' b o
 | [], _, _, _ => ⟨[], rfl, trivial⟩
 | d :: l, b, o, ⟨⟨v, h1, h2, h3⟩, h4⟩ => by
  obtain ⟨l', q3, q4⟩ := Rw.shape h hM l b (o + 1) h4
  obtain ⟨u', q5, q6⟩ := h.same _ _ h1
  have hn : ¬ M' ⟨b, o, none⟩ := fun hm => h2 (hM ⟨b, o, none⟩ (block_lt_of_cell h1) hm)
  obtain ⟨d0, q1, q2⟩ := R.shape h hM d v h3
  rcases sh_val h3 q6 with rfl | ⟨d', q7, q8⟩
  ·exact ⟨d0 :: l', ⟨_, _, rfl, q1, q3⟩, ⟨_, q5, hn, q2⟩, q4⟩
  ·exact ⟨d' :: l', ⟨_, _, rfl, q7, q3⟩, ⟨_, q5, hn, q8 _ _⟩, q4⟩
theorem Rws.shape (h : Alt A w w') (hM : ∀ p, p.block < w.heap.size → M' p → M p) : ∀ (l : List (List D)) (b o : Nat), Rws w M l b o → ∃ l', ShR l l' ∧ Rws w' M' l' b o
 | [], _, _, _ => ⟨[], rfl, trivial⟩
 | r :: l, b, o, ⟨h1, h2⟩ => by
  obtain ⟨r', q1, q2⟩ := Rw.shape h hM r b o h1
  obtain ⟨l', q3, q4⟩ := Rws.shape h hM l b (o + r.length) h2
  exact ⟨r' :: l', ⟨_, _, rfl, q1, q3⟩, q2, by rw [q1.length]; exact q4⟩
theorem Rps.shape (h : Alt A w w') (hM : ∀ p, p.block < w.heap.size → M' p → M p) : ∀ (l : List (List D)) (vs : List Value), Rps w M l vs → ∃ l', ShR l l' ∧ Rps w' M' l' vs
 | [], _, hr => ⟨[], rfl, hr⟩
 | r :: l, vs, ⟨b, q, e, h1, h2⟩ => by
  obtain ⟨r', q1, q2⟩ := Rw.shape h hM r b 0 h1
  obtain ⟨l', q3, q4⟩ := Rps.shape h hM l q h2
  exact ⟨r' :: l', ⟨_, _, rfl, q1, q3⟩, b, q, e, q2, q4⟩
end
end
/-! Rows of leaves -/
def leafD : D → Bool
 | .bool _ | .int _ _ | .str _ => true
 | _ => false
theorem leaf_move {w w' : World} {M M' : Addr → Prop} {d : D} {v : Value} (hl : leafD d = true) (h : R w M d v) : R w' M' d v := by
 cases d <;> simp [leafD] at hl <;> exact h
theorem flat_cells {w : World} {M : Addr → Prop} {rows : List (List D)} {n b o len cap : Nat} {s : Option Nat} (hn : ∀ r ∈ rows, r.length = n) (h : R w M (.sl rows) (.slice (some ⟨b, o, s⟩) len cap)) {i j : Nat} {r : List D} {d : D} (hi : rows[i]? = some r) (hj : r[j]? = some d) :
  ∃ u, w.cell? ⟨b, o + i * n + j, none⟩ = some u ∧ ¬ M ⟨b, o + i * n + j, none⟩ ∧ R w M d u := by
 obtain ⟨a, len', cap', e, h1, h2, h3, h4, h5⟩ := h
 cases e
 exact ((h5 b o s rfl).2.get hn hi).get hj
theorem flat_of {w : World} {M : Addr → Prop} {rows : List (List D)} {n b o len cap : Nat} {s : Option Nat} (hn : ∀ r ∈ rows, r.length = n) (h1 : len = rows.length) (h2 : len ≤ cap) (h3 : cap ≤ maxLen) (h4 : 0 < len → s = none)
  (hc : ∀ (i j : Nat) (r : List D) (d : D), rows[i]? = some r → r[j]? = some d → ∃ u, w.cell? ⟨b, o + i * n + j, none⟩ = some u ∧ ¬ M ⟨b, o + i * n + j, none⟩ ∧ R w M d u) : R w M (.sl rows) (.slice (some ⟨b, o, s⟩) len cap) := by
 refine ⟨_, _, _, rfl, h1, h2, h3, (fun e => by cases e), fun b' o' s' e => ?_⟩
 cases e
 exact ⟨h4, Rws.of hn fun i r hr => Rw.of fun j d hd => hc i j r d hr hd⟩
theorem flat_set {w : World} {M : Addr → Prop} {rows : List (List D)} {n b o len cap i j : Nat} {s : Option Nat} {r : List D} {x : D} {u : Value} (hn : ∀ r ∈ rows, r.length = n) (hlf : ∀ r ∈ rows, ∀ d ∈ r, leafD d = true)
  (h : R w M (.sl rows) (.slice (some ⟨b, o, s⟩) len cap)) (hi : rows[i]? = some r) (hj : j < n) (hx : ∀ (w : World) (M : Addr → Prop), R w M x u) :
  R (w.setCell ⟨b, o + i * n + j, none⟩ u) M (.sl (rows.set i (r.set j x))) (.slice (some ⟨b, o, s⟩) len cap) := by
 have hr := hn r (List.mem_of_getElem? hi)
 have hlt := (List.getElem?_eq_some_iff.1 hi).1
 have h0 := h
 obtain ⟨a, len', cap', e, h1, h2, h3, h4, h5⟩ := h
 cases e
 refine flat_of (n := n) (fun r' hr' => ?_) (by simpa using h1) h2 h3 (h5 b o s rfl).1 fun i' j' r' d hi' hj' => ?_
 ·rcases List.mem_or_eq_of_mem_set hr' with h | rfl
  ·exact hn r' h
  ·simpa using hr
 ·have hr'l : r'.length = n := by
   have := List.mem_of_getElem? hi'
   rcases List.mem_or_eq_of_mem_set this with h | rfl
   ·exact hn r' h
   ·simpa using hr
  have hj'n : j' < n := by rw [← hr'l]; exact (List.getElem?_eq_some_iff.1 hj').1
  by_cases hij : i' = i ∧ j' = j
  ·obtain ⟨rfl, rfl⟩ := hij
   obtain ⟨d0, hd0⟩ : ∃ d0, r[j']? = some d0 := ⟨_, List.getElem?_eq_getElem (by omega)⟩
   obtain ⟨u0, c1, c2, c3⟩ := flat_cells hn h0 hi hd0
   rw [List.getElem?_set_self hlt] at hi'
   cases hi'
   rw [List.getElem?_set_self (by omega)] at hj'
   cases hj'
   exact ⟨u, cell_at c1, c2, hx _ _⟩
  ·have hold : ∃ r0, rows[i']? = some r0 ∧ r0[j']? = some d := by
    by_cases e : i' = i
    ·subst e
     rw [List.getElem?_set_self hlt] at hi'
     cases hi'
     refine ⟨r, hi, ?_⟩
     rwa [List.getElem?_set_ne (fun e => hij ⟨rfl, e.symm⟩)] at hj'
    ·rw [List.getElem?_set_ne (fun e' => e e'.symm)] at hi'
     exact ⟨r', hi', hj'⟩
   obtain ⟨r0, q1, q2⟩ := hold
   obtain ⟨u0, c1, c2, c3⟩ := flat_cells hn h0 q1 q2
   refine ⟨u0, ?_, c2, leaf_move (hlf r0 (List.mem_of_getElem? q1) d (List.mem_of_getElem? q2)) c3⟩
   have hne : o + i' * n + j' ≠ o + i * n + j := by
    intro e
    have e2 : i' * n + j' = i * n + j := by omega
    have h6 : i' = i := by
     have h7 : (i' * n + j') / n = (i * n + j) / n := by rw [e2]
     rwa [Nat.mul_comm i', Nat.mul_comm i, Nat.mul_add_div (by omega), Nat.mul_add_div (by omega), Nat.div_eq_of_lt hj'n, Nat.div_eq_of_lt hj, Nat.add_zero, Nat.add_zero] at h7
    subst h6
    exact hij ⟨rfl, by omega⟩
   rcases cell_set_ne (w := w) (v := u) (p := ⟨b, o + i' * n + j', none⟩) (a := ⟨b, o + i * n + j, none⟩) (fun e => hne (congrArg Addr.off e)) rfl (.inr trivial) with h7 | ⟨_, h7⟩
   ·rw [h7]; exact c1
   ·exact absurd h7 hne
theorem Fun.calls {P : Program} {f : FuncId} {ds : List D} {r : D} (h : Fun P f none ds r []) {w : World} {M : Addr → Prop} {vs : List Value} (hG : Rdy w M) (hr : Rs w M ds vs) :
  Calls P f vs.toArray w fun e w' => ∃ v, e = .returned v ∧ R w' M r v ∧ Below w.heap.size w w' :=
 (h.2 w M 0 vs hG hr (fun cs h => by cases h)).mono fun e w' ⟨v, h1, h2, h3, _⟩ => ⟨v, h1, h2, h3.to_below⟩
theorem Alt.to_below {A : Addr → Prop} {w w' : World} {B : Nat} (h : Alt A w w') (hB : B ≤ w.heap.size) (hA : ∀ p, A p → B ≤ p.block) : Below B w w' :=
 ⟨h.env.1, h.env.2.1, h.env.2.2, h.size, fun k hk => h.blk k (Nat.lt_of_lt_of_le hk hB) fun p hp ha => by have := hA p ha; omega⟩
theorem up_alt {A : Addr → Prop} {w w' : World} {h : Nat} {d : D} {v : Value} (hr : R w (fun p => h ≤ p.block) d v) (ha : Alt A w w') (hA : ∀ p, A p → h ≤ p.block) : R w' (fun p => h ≤ p.block) d v :=
 R.keep (ha.keeps hA fun _ _ hm => hm) _ _ hr
theorem up_keep {w w' : World} {h : Nat} {d : D} {v : Value} (hr : R w (fun p => h ≤ p.block) d v) (hb : Below w.heap.size w w') : R w' (fun p => h ≤ p.block) d v :=
 R.keep (Keeps.below hb fun _ _ hm => hm) _ _ hr
theorem R.zero {w : World} {M : Addr → Prop} {d : D} {v : Value} (hr : R w M d v) : R w (fun _ => False) d v := R.less hr fun _ h => h.elim
theorem R.over {w : World} {d : D} {v : Value} (hr : R w (fun _ => False) d v) : R w (fun p => w.heap.size ≤ p.block) d v := R.less (R.up hr) fun _ h => .inr h
/-! Rows by a function -/
def rowsM (n : Nat) (f : Nat → List D) : List (List D) := (List.range n).map f
theorem rowsM_len (n : Nat) (f : Nat → List D) : (rowsM n f).length = n := by simp [rowsM]
theorem rowsM_get {n : Nat} {f : Nat → List D} {i : Nat} (h : i < n) : (rowsM n f)[i]? = some (f i) := by simp [rowsM, h]
theorem rowsM_set {n : Nat} {f : Nat → List D} {i : Nat} {x : List D} : (rowsM n f).set i x = rowsM n (fun a => if a = i then x else f a) := by
 apply List.ext_getElem?
 intro j
 rw [List.getElem?_set]
 by_cases hj : j < n
 ·by_cases e : i = j
  ·subst e; simp [rowsM, hj]
  ·rw [if_neg e]
   simp [rowsM, hj]
   intro h; exact absurd h.symm e
 ·by_cases e : i = j
  ·subst e
   rw [if_pos rfl, if_neg (by simp [rowsM]; omega), List.getElem?_eq_none (by simp [rowsM]; omega)]
  ·rw [if_neg e, List.getElem?_eq_none (by simp [rowsM]; omega), List.getElem?_eq_none (by simp [rowsM]; omega)]
theorem rowsM_congr {n : Nat} {f g : Nat → List D} (h : ∀ a, a < n → f a = g a) : rowsM n f = rowsM n g := by
 unfold rowsM
 exact List.map_congr_left fun a ha => h a (by simpa using ha)
theorem rowsM_map {α : Type} [Enc α] (l : List α) : l.map Enc.cells = rowsM l.length fun a => Enc.cells (nth l a) := by
 apply List.ext_getElem
 ·simp [rowsM]
 ·intro i h1 h2
  have hi : i < l.length := by simpa using h1
  simp [rowsM, nth, List.getD_eq_getElem?_getD, hi]
theorem rowsM_mem {n : Nat} {f : Nat → List D} {r : List D} (h : r ∈ rowsM n f) : ∃ a, a < n ∧ r = f a := by
 unfold rowsM at h
 obtain ⟨a, ha, rfl⟩ := List.mem_map.1 h
 exact ⟨a, by simpa using ha, rfl⟩
/-! The shape of entries -/
structure Lens (l l' : List Entry) : Prop where
 len : l'.length = l.length
 rcp : ∀ a, a < l.length → (nth l' a).recipe.length = (nth l a).recipe.length
 nds : ∀ a, a < l.length → (nth l' a).needs.length = (nth l a).needs.length
theorem Lens.refl (l : List Entry) : Lens l l := ⟨rfl, fun _ _ => rfl, fun _ _ => rfl⟩
theorem sh_str : ∀ {l : List ByteArray} {rows : List (List D)}, ShR (l.map Enc.cells) rows → ∃ l' : List ByteArray, rows = l'.map Enc.cells ∧ l'.length = l.length
 | [], rows, h => by
  have h : rows = [] := h
  subst h; exact ⟨[], rfl, rfl⟩
 | s :: l, rows, h => by
  obtain ⟨d', r', rfl, ⟨x, y, rfl, ⟨s', rfl⟩, hy⟩, h2⟩ := (show ∃ d' r', rows = d' :: r' ∧ ShL (Enc.cells s) d' ∧ ShR (l.map Enc.cells) r' from h)
  have hy : y = [] := hy
  subst hy
  obtain ⟨l', rfl, h3⟩ := sh_str h2
  exact ⟨s' :: l', rfl, by simp [h3]⟩
theorem sh_need : ∀ {l : List Need} {rows : List (List D)}, ShR (l.map Enc.cells) rows → ∃ l' : List Need, rows = l'.map Enc.cells ∧ l'.length = l.length
 | [], rows, h => by
  have h : rows = [] := h
  subst h; exact ⟨[], rfl, rfl⟩
 | s :: l, rows, h => by
  obtain ⟨d', r', rfl, ⟨x1, y1, rfl, ⟨n1, rfl⟩, x2, y2, rfl, ⟨n2, rfl⟩, x3, y3, rfl, ⟨n3, rfl⟩, x4, y4, rfl, ⟨n4, rfl⟩, hy⟩, h2⟩ := (show ∃ d' r', rows = d' :: r' ∧ ShL (Enc.cells s) d' ∧ ShR (l.map Enc.cells) r' from h)
  have hy : y4 = [] := hy
  subst hy
  obtain ⟨l', rfl, h3⟩ := sh_need h2
  exact ⟨⟨n1, n2, ⟨n3, n4⟩⟩ :: l', rfl, by simp [h3]⟩
theorem sh_entry : ∀ {l : List Entry} {rows : List (List D)}, ShR (l.map Enc.cells) rows → ∃ l' : List Entry, rows = l'.map Enc.cells ∧ Lens l l'
 | [], rows, h => by
  have h : rows = [] := h
  subst h; exact ⟨[], rfl, Lens.refl _⟩
 | e :: l, rows, h => by
  obtain ⟨d', r', rfl, ⟨x1, y1, rfl, ⟨n1, rfl⟩, x2, y2, rfl, ⟨rr, rfl, hr⟩, x3, y3, rfl, ⟨n3, rfl⟩, x4, y4, rfl, ⟨n4, rfl⟩, x5, y5, rfl, ⟨rn, rfl, hn⟩, hy⟩, h2⟩ := (show ∃ d' r', rows = d' :: r' ∧ ShL (Enc.cells e) d' ∧ ShR (l.map Enc.cells) r' from h)
  have hy : y5 = [] := hy
  subst hy
  obtain ⟨rc, rfl, hrc⟩ := sh_str hr
  obtain ⟨nd, rfl, hnd⟩ := sh_need hn
  obtain ⟨l', rfl, h3⟩ := sh_entry h2
  refine ⟨⟨n1, rc, ⟨n3, n4⟩, nd⟩ :: l', rfl, by simp [h3.len], fun a ha => ?_, fun a ha => ?_⟩
  ·cases a with
   | zero => exact hrc
   | succ a => exact h3.rcp a (by simpa using ha)
  ·cases a with
   | zero => exact hnd
   | succ a => exact h3.nds a (by simpa using ha)
theorem Alt.entriesF {A M : Addr → Prop} {w w' : World} {l : List Entry} {v : Value} (h : Alt A w w') (hr : R w M (encS l) v) (hF : ∀ p, w.frozen? p = true → M p) : ∃ l', Lens l l' ∧ R w' (fun p => M p ∨ w'.frozen? p = true) (encS l') v := by
 obtain ⟨d', h1, h2⟩ := R.shape h (M' := fun p => M p ∨ w'.frozen? p = true) (fun p hp hm => hm.elim id fun hf => hF p (by rw [← h.fro p hp]; exact hf)) _ _ hr
 obtain ⟨rows, rfl, h3⟩ := (show ∃ rows', d' = .sl rows' ∧ ShR (l.map Enc.cells) rows' from h1)
 obtain ⟨l', rfl, h4⟩ := sh_entry h3
 exact ⟨l', h4, h2⟩
end Go.Proofs.Ytjmakbnblpjkhaa
/- The laws' helpers: sizes, copies, equality. Written by gen3.py. -/
namespace Go.Proofs.Ytjmakbnblpjkhaa
open Go.RowKit Go
variable [GC]
def isZ (n : Int) (P : Prop) (r : D) : Prop := ∃ m : Int, r = .int .i64 m ∧ -1 ≤ m ∧ m ≤ n ∧ (0 ≤ m → P)
theorem isZ.no {n : Int} {P : Prop} (h : 0 ≤ n) : isZ n P (.int .i64 (-1)) := ⟨-1, rfl, by omega, by omega, by omega⟩
theorem isZ.ty {n : Int} {P : Prop} {r : D} (h : isZ n P r) : HasVT tbl.tab (.one (.c (.int .i64))) r := by obtain ⟨m, rfl, _⟩ := h; rfl
class Sm (α : Type) where
 sm : α → Prop
instance : Sm ByteArray := ⟨fun s => s.size ≤ 1048576⟩
instance {α : Type} [Inhabited α] [Sm α] : Sm (List α) := ⟨fun l => l.length ≤ 1048576 ∧ ∀ k, k < l.length → Sm.sm (nth l k)⟩
theorem sm_str {s : ByteArray} : Sm.sm s ↔ s.size ≤ 1048576 := Iff.rfl
theorem sm_list {α : Type} [Inhabited α] [Sm α] {l : List α} : Sm.sm l ↔ l.length ≤ 1048576 ∧ ∀ k, k < l.length → Sm.sm (nth l k) := Iff.rfl
theorem z_StringS (l : List ByteArray) (n : Int) (h0 : 0 ≤ n) (h1 : n ≤ 1048576) : ∃ r, isZ n (Sm.sm l) r ∧ Fun Try.prog 30 none [encS l, .int .i64 n] r [] := by
 refine Fun.exV vc_laws_szStringS_ok rfl ty_laws_szStringS_ok ⟨ty_strS l, rfl, trivial⟩ (.int .i64 (-1)) (isZ.no h0) fun hfit => ?_; unfold vc_laws_szStringS
 have hl : l.length ≤ 9223372036854775807 := fits_encS hfit.1
 have e : arI .sub .i64 n l.length = n - l.length := ar_sub (by omega) (by omega)
 refine den_ite (fun h => ?_) (fun h => ?_)
 ·exact ⟨isZ.no h0, rfl⟩
 simp only [E.den, List.map_cons, List.map_nil, List.getD_cons_zero, List.getD_cons_succ, D.toI_int, D.toB_bool, D.toS_str, enc_toA, encS_toR, encS_len, len_str, cmpI_lss, e] at h
 simp at h
 refine den_loop (Int × Nat) (fun s => [.int .i64 s.1, .int .i64 s.2]) (fun s => s.2 ≤ l.length ∧ s.1 ≤ n - l.length ∧ 0 ≤ s.1 ∧ ∀ i, i < s.2 → Sm.sm (nth l i)) (fun s => l.length - s.2) (n - l.length, 0) (fun s s' h => by simp at h; omega) ?_ ⟨by omega, by omega, by omega, by omega⟩ ?_
 ·simp only [E.den, List.map_cons, List.map_nil, List.getD_cons_zero, List.getD_cons_succ, D.toI_int, D.toB_bool, D.toS_str, enc_toA, encS_toR, encS_len, len_str, cmpI_lss, e]; rfl
 rintro ⟨m, k⟩ ⟨hk, hm, hm0, hI⟩ -
 simp only at hk hm hm0 hI
 simp only [cA]
 refine den_ite (fun h2 => ?_) (fun h2 => ?_)
 ·simp [E.den, cmpI] at h2
  refine den_cond (fun hg => ?_) ?_
  ·simp [E.den]; omega
  have hs2 := fits_str (fits_nth hfit.1 h2).1
  have e2 : arI .sub .i64 m (nth l k).size = m - (nth l k).size := ar_sub (by omega) (by omega)
  refine den_ite (fun h3 => ?_) (fun h3 => ?_)
  ·exact ⟨isZ.no h0, rfl⟩
  simp only [E.den, List.map_cons, List.map_nil, List.getD_cons_zero, List.getD_cons_succ, D.toI_int, D.toB_bool, D.toS_str, enc_toA, encS_toR, encS_len, len_str, cmpI_lss, row_str, cells_str, Int.toNat_natCast, e2] at h3
  simp at h3
  refine ⟨(m - (nth l k).size, k + 1), ?_, ⟨by omega, by omega, by omega, fun i hi => ?_⟩, by omega⟩
  ·simp only [E.den, List.map_cons, List.map_nil, List.getD_cons_zero, List.getD_cons_succ, D.toI_int, D.toB_bool, D.toS_str, enc_toA, encS_toR, encS_len, len_str, cmpI_lss, row_str, cells_str, Int.toNat_natCast, e2]; rw [ar_add (by omega) (by omega)]; rfl
  rcases Nat.lt_or_ge i k with h' | h'
  ·exact hI i h'
  ·obtain rfl : i = k := by omega
   exact sm_str.2 (by omega)
 ·simp [E.den, cmpI] at h2
  obtain rfl : k = l.length := by omega
  exact ⟨⟨m, rfl, by omega, by omega, fun _ => sm_list.2 ⟨by omega, hI⟩⟩, rfl⟩
def copyTo {α : Type} [Enc α] (l : List α) (z : List D) (k : Nat) : List (List D) := (l.take k).map Enc.cells ++ List.replicate (l.length - k) z
theorem copyTo_zero {α : Type} [Enc α] (l : List α) (z : List D) : List.replicate l.length z = copyTo l z 0 := by simp [copyTo]
theorem copyTo_all {α : Type} [Enc α] (l : List α) (z : List D) : D.sl (copyTo l z l.length) = encS l := by simp [copyTo, encS]
theorem setL_all {α : Type} {cs l : List α} (h : l.length = cs.length) : setL cs 0 l = l := by
 apply List.ext_getElem?
 intro i
 rw [setL_get?]
 split
 ·rw [Nat.sub_zero]
 ·rw [List.getElem?_eq_none (by omega), List.getElem?_eq_none (by omega)]
theorem copyTo_upd {α : Type} [Enc α] {l : List α} {z : List D} {k : Nat} (hk : k < l.length) (hz : (Enc.cells (nth l k)).length = z.length) : updR (copyTo l z k) k 0 (Enc.cells (nth l k)) = copyTo l z (k + 1) := by
 have hA : ((l.take k).map (Enc.cells (α := α))).length = k := by simp; omega
 have hr : List.replicate (l.length - k) z = z :: List.replicate (l.length - (k + 1)) z := by
  rw [show l.length - k = (l.length - (k + 1)) + 1 by omega, List.replicate_succ]
 unfold updR copyTo
 rw [hr]
 have hg : (((l.take k).map Enc.cells ++ z :: List.replicate (l.length - (k + 1)) z).getD k []) = z := by
  rw [List.getD, List.getElem?_append_right (by omega), hA, Nat.sub_self]; rfl
 rw [hg, setL_all hz, List.set_append_right _ _ (by omega), hA, Nat.sub_self, List.set_cons_zero, List.take_succ_eq_append_getElem hk, List.map_append]
 have : nth l k = l[k] := by simp [nth, hk]
 rw [this]
 simp
theorem c_laws_toStringS (l : List ByteArray) (h : l.length ≤ 1048576) : FunR Try.prog 33 none [encS l] (encS l) [] [(0, 1)] := by
 refine FunR.ofV vc_laws_toStringS_ok ty_laws_toStringS_ok rt_laws_toStringS_ok rfl ?_ (fun hfit => ?_)
 ·exact ⟨ty_strS l, trivial⟩
 unfold vc_laws_toStringS
 refine den_cond (fun _ => ?_) ?_
 ·simp only [E.den, dEq, iEq, sEq]; simp; omega
 refine den_for l.length (fun k => [.int .i64 k, .sl (copyTo l (List.map zeroD [.str]) k)]) (fun _ => True) ?_ trivial ?_
 ·simp only [E.den, dEq, iEq, sEq]
  rw [copyTo_zero]; rfl
 intro k hk _ _
 simp only [cA]
 refine den_ite (fun h2 => ?_) (fun h2 => ?_)
 ·simp only [E.den, dEq, iEq, sEq] at h2
  have h2 : k < l.length := by simp at h2; exact h2
  (refine den_cond (fun hg => ?_) ?_; (focus (simp only [gsH, gE, E.den, dEq, iEq, sEq] at hg ⊢; (try simp only [D.bool.injEq] at hg); (try simp only [D.bool.injEq]); grind)))
  refine den_cond (fun _ => ?_) ?_
  ·simp only [E.den, dEq, iEq, sEq, lenD_sl, lenD_mem]; simp; omega
  refine den_next h2 ?_ trivial
  simp only [E.den, dEq, iEq, sEq, row_str, cells_str]
  rw [ar_add (by omega) (by omega)]
  exact congrArg (fun r => [D.int .i64 ((k + 1 : Nat) : Int), D.sl r]) (copyTo_upd h2 rfl)
 ·simp only [E.den, dEq, iEq, sEq] at h2
  obtain rfl : k = l.length := by simp at h2; omega
  refine den_ret ?_
  simp only [E.den, dEq, iEq, sEq]
  exact copyTo_all l _
theorem c_laws_eqStringS (l l' : List ByteArray) : Fun Try.prog 38 none [encS l, encS l'] (.bool (decide (l = l'))) [] := by
 refine Fun.ofV vc_laws_eqStringS_ok ty_laws_eqStringS_ok rfl ?_ (fun hfit => ?_)
 ·exact ⟨ty_strS l, ty_strS l', trivial⟩
 have hl : l.length ≤ 9223372036854775807 := fits_encS hfit.1
 unfold vc_laws_eqStringS
 refine den_ite (fun h => ?_) (fun h => ?_)
 ·simp [E.den, cmpI] at h
  refine den_ret ?_
  have : l ≠ l' := fun e => h (by rw [e])
  simp [E.den, this]
 simp [E.den, cmpI] at h
 have h : l.length = l'.length := by omega
 refine den_for l.length (fun k => [.int .i64 k]) (fun k => ∀ i, i < k → nth l i = nth l' i) rfl (by omega) ?_
 intro k hk hI _
 simp only [cA]
 refine den_ite (fun h2 => ?_) (fun h2 => ?_)
 ·simp [E.den, cmpI] at h2
  refine den_cond (fun hg => ?_) (den_cond (fun hg => ?_) ?_)
  ·simp [E.den]; omega
  ·simp [E.den]; omega
  refine den_ite (fun h3 => ?_) (fun h3 => ?_)
  ·simp only [E.den, List.map_cons, List.map_nil, List.getD_cons_zero, List.getD_cons_succ, D.toI_int, D.toB_bool, D.toS_str, enc_toA, encS_toR, encS_len, len_str, cmpI_lss, row_str, cells_str, Int.toNat_natCast, cmpS_neq] at h3
   simp at h3
   exact den_ret (by have : l ≠ l' := fun e => h3 (by rw [e])
                     simp [E.den, this])
  simp only [E.den, List.map_cons, List.map_nil, List.getD_cons_zero, List.getD_cons_succ, D.toI_int, D.toB_bool, D.toS_str, enc_toA, encS_toR, encS_len, len_str, cmpI_lss, row_str, cells_str, Int.toNat_natCast, cmpS_neq] at h3
  simp at h3
  refine den_next h2 ?_ fun i hi => ?_
  ·simp [E.den]; rw [ar_add (by omega) (by omega)]
  rcases Nat.lt_or_ge i k with h' | h'
  ·exact hI i h'
  ·obtain rfl : i = k := by omega
   exact h3
 ·simp [E.den, cmpI] at h2
  obtain rfl : k = l.length := by omega
  exact den_ret (by simp [E.den, ext_nth h hI])
instance : Sm Layer := ⟨fun x => Sm.sm x.name⟩
instance : Sm Cell := ⟨fun x => Sm.sm x.key⟩
instance : Sm Core := ⟨fun x => Sm.sm x.kind ∧ Sm.sm x.cells⟩
instance : Sm Reply := ⟨fun x => Sm.sm x.text⟩
instance : Sm Part := ⟨fun x => Sm.sm x.core ∧ Sm.sm x.layers⟩
instance : Sm Ver := ⟨fun x => True⟩
theorem c_laws_toVersion (x : Ver) : Fun Try.prog 34 none [enc x] (enc x) [] := by
 refine Fun.ofV vc_laws_toVersion_ok ty_laws_toVersion_ok rfl ?_ (fun hfit => ?_)
 ·exact ⟨ty_laws_Ver x, trivial⟩
 unfold vc_laws_toVersion
 exact den_ret (by simp [E.den, cells_Ver, enc])
theorem c_laws_eqVersion (x y : Ver) : Fun Try.prog 39 none [enc x, enc y] (.bool (decide (x = y))) [] := by
 refine Fun.ofV vc_laws_eqVersion_ok ty_laws_eqVersion_ok rfl ?_ (fun hfit => ?_)
 ·exact ⟨ty_Ver x, ty_Ver y, trivial⟩
 have e := eq_Ver x y
 unfold vc_laws_eqVersion
 refine den_ite (fun h => ?_) (fun h0 => ?_)
 ·simp [E.den, cmpI, cmpS_neq, cells_Ver] at h
  exact den_ret (by simp [E.den, e, h])
 simp [E.den, cmpI, cmpS_neq, cells_Ver] at h0
 refine den_ite (fun h => ?_) (fun h1 => ?_)
 ·simp [E.den, cmpI, cmpS_neq, cells_Ver] at h
  exact den_ret (by simp [E.den, e, h])
 simp [E.den, cmpI, cmpS_neq, cells_Ver] at h1
 exact den_ret (by simp [E.den, e, h0, h1])
instance : Sm Need := ⟨fun x => Sm.sm x.frm⟩
theorem z_Need (x : Need) (n : Int) (h0 : 0 ≤ n) (h1 : n ≤ 1048576) : ∃ r, isZ n (Sm.sm x) r ∧ Fun Try.prog 42 none [enc x, .int .i64 n] r [] := by
 refine Fun.exV vc_laws_szNeed_ok rfl ty_laws_szNeed_ok ⟨ty_laws_Need x, rfl, trivial⟩ (.int .i64 (-1)) (isZ.no h0) fun hfit => ?_; unfold vc_laws_szNeed
 have hf := hfit.1
 simp only [enc, Fits, cells_Need, FitsL] at hf
 have hs0 : x.frm.size ≤ 9223372036854775807 := fits_str (by simp only [Fits]; exact hf.2.1)
 have e0 : arI .sub .i64 n x.frm.size = n - x.frm.size := ar_sub (by omega) (by omega)
 refine den_ite (fun h => ⟨isZ.no h0, rfl⟩) (fun g0 => ?_)
 simp only [E.den, List.map_cons, List.map_nil, List.getD_cons_zero, List.getD_cons_succ, D.toI_int, D.toB_bool, D.toS_str, enc_toA, encS_toR, encS_len, len_str, cmpI_lss, cells_Need, e0] at g0
 simp at g0
 refine ⟨⟨(n - x.frm.size), ?_, by omega, by omega, fun _ => sm_str.2 (by omega)⟩, rfl⟩
 simp only [E.den, List.map_cons, List.map_nil, List.getD_cons_zero, List.getD_cons_succ, D.toI_int, D.toB_bool, D.toS_str, enc_toA, encS_toR, encS_len, len_str, cmpI_lss, cells_Need, e0]
theorem z_NeedS (l : List Need) (n : Int) (h0 : 0 ≤ n) (h1 : n ≤ 1048576) : ∃ r, isZ n (Sm.sm l) r ∧ Fun Try.prog 31 none [encS l, .int .i64 n] r [] := by
 refine Fun.exV vc_laws_szNeedS_ok rfl ty_laws_szNeedS_ok ⟨ty_laws_NeedS l, rfl, trivial⟩ (.int .i64 (-1)) (isZ.no h0) fun hfit => ?_; unfold vc_laws_szNeedS
 have hl : l.length ≤ 9223372036854775807 := fits_encS hfit.1
 have e : arI .sub .i64 n l.length = n - l.length := ar_sub (by omega) (by omega)
 refine den_ite (fun h => ?_) (fun h => ?_)
 ·exact ⟨isZ.no h0, rfl⟩
 simp only [E.den, List.map_cons, List.map_nil, List.getD_cons_zero, List.getD_cons_succ, D.toI_int, D.toB_bool, D.toS_str, enc_toA, encS_toR, encS_len, len_str, cmpI_lss, e] at h
 simp at h
 refine den_loop (Int × Nat) (fun s => [.int .i64 s.1, .int .i64 s.2]) (fun s => s.2 ≤ l.length ∧ s.1 ≤ n - l.length ∧ 0 ≤ s.1 ∧ ∀ i, i < s.2 → Sm.sm (nth l i)) (fun s => l.length - s.2) (n - l.length, 0) (fun s s' h => by simp at h; omega) ?_ ⟨by omega, by omega, by omega, by omega⟩ ?_
 ·simp only [E.den, List.map_cons, List.map_nil, List.getD_cons_zero, List.getD_cons_succ, D.toI_int, D.toB_bool, D.toS_str, enc_toA, encS_toR, encS_len, len_str, cmpI_lss, e]; rfl
 rintro ⟨m, k⟩ ⟨hk, hm, hm0, hI⟩ -
 simp only at hk hm hm0 hI
 simp only [cA]
 refine den_ite (fun h2 => ?_) (fun h2 => ?_)
 ·simp [E.den, cmpI] at h2
  refine den_cond (fun hg => ?_) ?_
  ·simp [E.den]; omega
  ((first | refine den_callE ?_ (z_Need (nth l k) m hm0 (by omega)) (fun _ h => isZ.ty h) ?_ | refine den_callRE ?_ (z_Need (nth l k) m hm0 (by omega)) (fun _ h => isZ.ty h) ?_ | refine den_callE ?_ (exR (z_Need (nth l k) m hm0 (by omega))) (fun _ h => isZ.ty h) ?_); (focus (simp only [VC.den, E.den, dEq, gsH_nil, and_true, row_Need, Int.toNat_natCast]; try exact rfl)); rintro _ ⟨q, rfl, q1, q2, q3⟩; (simp only [cA]))
  refine den_ite (fun h3 => ?_) (fun h3 => ?_)
  ·exact ⟨isZ.no h0, rfl⟩
  simp only [E.den, List.map_cons, List.map_nil, List.getD_cons_zero, List.getD_cons_succ, D.toI_int, D.toB_bool, D.toS_str, enc_toA, encS_toR, encS_len, len_str, cmpI_lss] at h3
  simp at h3
  refine ⟨(q, k + 1), ?_, ⟨by omega, by omega, h3, fun i hi => ?_⟩, by omega⟩
  ·simp only [E.den, List.map_cons, List.map_nil, List.getD_cons_zero, List.getD_cons_succ, D.toI_int, D.toB_bool, D.toS_str, enc_toA, encS_toR, encS_len, len_str, cmpI_lss]; rw [ar_add (by omega) (by omega)]; rfl
  rcases Nat.lt_or_ge i k with h' | h'
  ·exact hI i h'
  ·obtain rfl : i = k := by omega
   exact q3 h3
 ·simp [E.den, cmpI] at h2
  obtain rfl : k = l.length := by omega
  exact ⟨⟨m, rfl, by omega, by omega, fun _ => sm_list.2 ⟨by omega, hI⟩⟩, rfl⟩
theorem c_laws_toNeed (x : Need) (h : Sm.sm x) : Fun Try.prog 47 none [enc x] (enc x) [] := by
 refine Fun.ofV vc_laws_toNeed_ok ty_laws_toNeed_ok rfl ?_ (fun hfit => ?_)
 ·exact ⟨ty_laws_Need x, trivial⟩
 unfold vc_laws_toNeed
 ((first | refine den_call ?_ (c_laws_toVersion x.least) (ty_Ver _) ?_ | refine den_callR ?_ (c_laws_toVersion x.least) (ty_Ver _) ?_ | refine den_call ?_ (.ofR (c_laws_toVersion x.least)) (ty_Ver _) ?_); (focus (simp only [VC.den, E.den, dEq, gsH_nil, and_true, cells_Need]; try exact rfl)); (simp only [cA]))
 exact den_ret (by simp [E.den, cells_Need, cells_Ver, enc])
theorem c_laws_toNeedS (l : List Need) (h : l.length ≤ 1048576) (H : ∀ k, k < l.length → Sm.sm (nth l k)) : FunR Try.prog 35 none [encS l] (encS l) [] [(0, 4)] := by
 refine FunR.ofV vc_laws_toNeedS_ok ty_laws_toNeedS_ok rt_laws_toNeedS_ok rfl ?_ (fun hfit => ?_)
 ·exact ⟨ty_laws_NeedS l, trivial⟩
 unfold vc_laws_toNeedS
 refine den_cond (fun _ => ?_) ?_
 ·simp only [E.den, dEq, iEq, sEq]; simp; omega
 refine den_for l.length (fun k => [.int .i64 k, .sl (copyTo l (List.map zeroD [.int .i64, .str, .int .i64, .int .i64]) k)]) (fun _ => True) ?_ trivial ?_
 ·simp only [E.den, dEq, iEq, sEq]
  rw [copyTo_zero]; rfl
 intro k hk _ _
 simp only [cA]
 refine den_ite (fun h2 => ?_) (fun h2 => ?_)
 ·simp only [E.den, dEq, iEq, sEq] at h2
  have h2 : k < l.length := by simp at h2; exact h2
  (refine den_cond (fun hg => ?_) ?_; (focus (simp only [gsH, gE, E.den, dEq, iEq, sEq] at hg ⊢; (try simp only [D.bool.injEq] at hg); (try simp only [D.bool.injEq]); grind)))
  ((first | refine den_call ?_ (c_laws_toNeed (nth l k) (H k h2)) (ty_Need _) ?_ | refine den_callR ?_ (c_laws_toNeed (nth l k) (H k h2)) (ty_Need _) ?_ | refine den_call ?_ (.ofR (c_laws_toNeed (nth l k) (H k h2))) (ty_Need _) ?_); (focus (simp only [VC.den, E.den, dEq, gsH_nil, and_true, row_Need, Int.toNat_natCast]; try exact rfl)); (simp only [cA]))
  refine den_cond (fun _ => ?_) ?_
  ·simp only [E.den, dEq, iEq, sEq, lenD_sl, lenD_mem]; simp; omega
  refine den_next h2 ?_ trivial
  simp only [E.den, dEq, iEq, sEq, enc_toA]
  rw [ar_add (by omega) (by omega)]
  exact congrArg (fun r => [D.int .i64 ((k + 1 : Nat) : Int), D.sl r]) (copyTo_upd h2 rfl)
 ·simp only [E.den, dEq, iEq, sEq] at h2
  obtain rfl : k = l.length := by simp at h2; omega
  refine den_ret ?_
  simp only [E.den, dEq, iEq, sEq]
  exact copyTo_all l _
theorem c_laws_eqNeed (x y : Need) : Fun Try.prog 53 none [enc x, enc y] (.bool (decide (x = y))) [] := by
 refine Fun.ofV vc_laws_eqNeed_ok ty_laws_eqNeed_ok rfl ?_ (fun hfit => ?_)
 ·exact ⟨ty_Need x, ty_Need y, trivial⟩
 have e := eq_Need x y
 unfold vc_laws_eqNeed
 refine den_ite (fun h => ?_) (fun h0 => ?_)
 ·simp [E.den, cmpI, cmpS_neq, cells_Need] at h
  exact den_ret (by simp [E.den, e, h])
 simp [E.den, cmpI, cmpS_neq, cells_Need] at h0
 refine den_ite (fun h => ?_) (fun h1 => ?_)
 ·simp [E.den, cmpI, cmpS_neq, cells_Need] at h
  exact den_ret (by simp [E.den, e, h])
 simp [E.den, cmpI, cmpS_neq, cells_Need] at h1
 ((first | refine den_call ?_ (c_laws_eqVersion x.least y.least) (trivial) ?_ | refine den_callR ?_ (c_laws_eqVersion x.least y.least) (trivial) ?_ | refine den_call ?_ (.ofR (c_laws_eqVersion x.least y.least)) (trivial) ?_); (focus (simp only [VC.den, E.den, dEq, gsH_nil, and_true, cells_Need]; try exact rfl)); (simp only [cA]))
 refine den_ite (fun h => ?_) (fun h2 => ?_)
 ·simp [E.den] at h
  exact den_ret (by simp [E.den, e, h])
 simp [E.den] at h2
 exact den_ret (by simp [E.den, e, h0, h1, h2])
theorem c_laws_eqNeedS (l l' : List Need) : Fun Try.prog 40 none [encS l, encS l'] (.bool (decide (l = l'))) [] := by
 refine Fun.ofV vc_laws_eqNeedS_ok ty_laws_eqNeedS_ok rfl ?_ (fun hfit => ?_)
 ·exact ⟨ty_NeedS l, ty_NeedS l', trivial⟩
 have hl : l.length ≤ 9223372036854775807 := fits_encS hfit.1
 unfold vc_laws_eqNeedS
 refine den_ite (fun h => ?_) (fun h => ?_)
 ·simp [E.den, cmpI] at h
  refine den_ret ?_
  have : l ≠ l' := fun e => h (by rw [e])
  simp [E.den, this]
 simp [E.den, cmpI] at h
 have h : l.length = l'.length := by omega
 refine den_for l.length (fun k => [.int .i64 k]) (fun k => ∀ i, i < k → nth l i = nth l' i) rfl (by omega) ?_
 intro k hk hI _
 simp only [cA]
 refine den_ite (fun h2 => ?_) (fun h2 => ?_)
 ·simp [E.den, cmpI] at h2
  refine den_cond (fun hg => ?_) (den_cond (fun hg => ?_) ?_)
  ·simp [E.den]; omega
  ·simp [E.den]; omega
  ((first | refine den_call ?_ (c_laws_eqNeed (nth l k) (nth l' k)) (trivial) ?_ | refine den_callR ?_ (c_laws_eqNeed (nth l k) (nth l' k)) (trivial) ?_ | refine den_call ?_ (.ofR (c_laws_eqNeed (nth l k) (nth l' k))) (trivial) ?_); (focus (simp only [VC.den, E.den, dEq, gsH_nil, and_true, row_Need, Int.toNat_natCast]; try exact rfl)); (simp only [cA]))
  refine den_ite (fun h3 => ?_) (fun h3 => ?_)
  ·simp [E.den] at h3
   exact den_ret (by have : l ≠ l' := fun e => h3 (by rw [e])
                     simp [E.den, this])
  simp [E.den] at h3
  refine den_next h2 ?_ fun i hi => ?_
  ·simp [E.den]; rw [ar_add (by omega) (by omega)]
  rcases Nat.lt_or_ge i k with h' | h'
  ·exact hI i h'
  ·obtain rfl : i = k := by omega
   exact h3
 ·simp [E.den, cmpI] at h2
  obtain rfl : k = l.length := by omega
  exact den_ret (by simp [E.den, ext_nth h hI])
instance : Sm Entry := ⟨fun x => Sm.sm x.name ∧ Sm.sm x.recipe ∧ Sm.sm x.needs⟩
theorem z_Entry (x : Entry) (n : Int) (h0 : 0 ≤ n) (h1 : n ≤ 1048576) : ∃ r, isZ n (Sm.sm x) r ∧ Fun Try.prog 12 none [enc x, .int .i64 n] r [] := by
 refine Fun.exV vc_laws_szEntry_ok rfl ty_laws_szEntry_ok ⟨ty_laws_Entry x, rfl, trivial⟩ (.int .i64 (-1)) (isZ.no h0) fun hfit => ?_; unfold vc_laws_szEntry
 have hf := hfit.1
 simp only [enc, Fits, cells_Entry, FitsL] at hf
 have hs0 : x.name.size ≤ 9223372036854775807 := fits_str (by simp only [Fits]; exact hf.1)
 have e0 : arI .sub .i64 n x.name.size = n - x.name.size := ar_sub (by omega) (by omega)
 refine den_ite (fun h => ⟨isZ.no h0, rfl⟩) (fun g0 => ?_)
 simp only [E.den, List.map_cons, List.map_nil, List.getD_cons_zero, List.getD_cons_succ, D.toI_int, D.toB_bool, D.toS_str, enc_toA, encS_toR, encS_len, len_str, cmpI_lss, cells_Entry, e0] at g0
 simp at g0
 ((first | refine den_callE ?_ (z_StringS x.recipe (n - x.name.size) (by omega) (by omega)) (fun _ h => isZ.ty h) ?_ | refine den_callRE ?_ (z_StringS x.recipe (n - x.name.size) (by omega) (by omega)) (fun _ h => isZ.ty h) ?_ | refine den_callE ?_ (exR (z_StringS x.recipe (n - x.name.size) (by omega) (by omega))) (fun _ h => isZ.ty h) ?_); (focus (simp only [VC.den, E.den, dEq, gsH_nil, and_true, cells_Entry, len_str, e0]; try exact rfl)); rintro _ ⟨m1, rfl, p1, q1, s1⟩; (simp only [cA]))
 refine den_ite (fun h => ⟨isZ.no h0, rfl⟩) (fun g1 => ?_)
 simp only [E.den, List.map_cons, List.map_nil, List.getD_cons_zero, List.getD_cons_succ, D.toI_int, D.toB_bool, D.toS_str, enc_toA, encS_toR, encS_len, len_str, cmpI_lss] at g1
 simp at g1
 ((first | refine den_callE ?_ (z_NeedS x.needs m1 (by omega) (by omega)) (fun _ h => isZ.ty h) ?_ | refine den_callRE ?_ (z_NeedS x.needs m1 (by omega) (by omega)) (fun _ h => isZ.ty h) ?_ | refine den_callE ?_ (exR (z_NeedS x.needs m1 (by omega) (by omega))) (fun _ h => isZ.ty h) ?_); (focus (simp only [VC.den, E.den, dEq, gsH_nil, and_true, cells_Entry, len_str, e0]; try exact rfl)); rintro _ ⟨m2, rfl, p2, q2, s2⟩; (simp only [cA]))
 refine den_ite (fun h => ⟨isZ.no h0, rfl⟩) (fun g2 => ?_)
 simp only [E.den, List.map_cons, List.map_nil, List.getD_cons_zero, List.getD_cons_succ, D.toI_int, D.toB_bool, D.toS_str, enc_toA, encS_toR, encS_len, len_str, cmpI_lss] at g2
 simp at g2
 refine ⟨⟨m2, ?_, by omega, by omega, fun _ => ⟨sm_str.2 (by omega), s1 g1, s2 g2⟩⟩, rfl⟩
 simp only [E.den, List.map_cons, List.map_nil, List.getD_cons_zero, List.getD_cons_succ, D.toI_int, D.toB_bool, D.toS_str, enc_toA, encS_toR, encS_len, len_str, cmpI_lss, cells_Entry, e0]
theorem z_EntryS (l : List Entry) (n : Int) (h0 : 0 ≤ n) (h1 : n ≤ 1048576) : ∃ r, isZ n (Sm.sm l) r ∧ Fun Try.prog 5 none [encS l, .int .i64 n] r [] := by
 refine Fun.exV vc_laws_szEntryS_ok rfl ty_laws_szEntryS_ok ⟨ty_laws_EntryS l, rfl, trivial⟩ (.int .i64 (-1)) (isZ.no h0) fun hfit => ?_; unfold vc_laws_szEntryS
 have hl : l.length ≤ 9223372036854775807 := fits_encS hfit.1
 have e : arI .sub .i64 n l.length = n - l.length := ar_sub (by omega) (by omega)
 refine den_ite (fun h => ?_) (fun h => ?_)
 ·exact ⟨isZ.no h0, rfl⟩
 simp only [E.den, List.map_cons, List.map_nil, List.getD_cons_zero, List.getD_cons_succ, D.toI_int, D.toB_bool, D.toS_str, enc_toA, encS_toR, encS_len, len_str, cmpI_lss, e] at h
 simp at h
 refine den_loop (Int × Nat) (fun s => [.int .i64 s.1, .int .i64 s.2]) (fun s => s.2 ≤ l.length ∧ s.1 ≤ n - l.length ∧ 0 ≤ s.1 ∧ ∀ i, i < s.2 → Sm.sm (nth l i)) (fun s => l.length - s.2) (n - l.length, 0) (fun s s' h => by simp at h; omega) ?_ ⟨by omega, by omega, by omega, by omega⟩ ?_
 ·simp only [E.den, List.map_cons, List.map_nil, List.getD_cons_zero, List.getD_cons_succ, D.toI_int, D.toB_bool, D.toS_str, enc_toA, encS_toR, encS_len, len_str, cmpI_lss, e]; rfl
 rintro ⟨m, k⟩ ⟨hk, hm, hm0, hI⟩ -
 simp only at hk hm hm0 hI
 simp only [cA]
 refine den_ite (fun h2 => ?_) (fun h2 => ?_)
 ·simp [E.den, cmpI] at h2
  refine den_cond (fun hg => ?_) ?_
  ·simp [E.den]; omega
  ((first | refine den_callE ?_ (z_Entry (nth l k) m hm0 (by omega)) (fun _ h => isZ.ty h) ?_ | refine den_callRE ?_ (z_Entry (nth l k) m hm0 (by omega)) (fun _ h => isZ.ty h) ?_ | refine den_callE ?_ (exR (z_Entry (nth l k) m hm0 (by omega))) (fun _ h => isZ.ty h) ?_); (focus (simp only [VC.den, E.den, dEq, gsH_nil, and_true, row_laws_Entry, Int.toNat_natCast]; try exact rfl)); rintro _ ⟨q, rfl, q1, q2, q3⟩; (simp only [cA]))
  refine den_ite (fun h3 => ?_) (fun h3 => ?_)
  ·exact ⟨isZ.no h0, rfl⟩
  simp only [E.den, List.map_cons, List.map_nil, List.getD_cons_zero, List.getD_cons_succ, D.toI_int, D.toB_bool, D.toS_str, enc_toA, encS_toR, encS_len, len_str, cmpI_lss] at h3
  simp at h3
  refine ⟨(q, k + 1), ?_, ⟨by omega, by omega, h3, fun i hi => ?_⟩, by omega⟩
  ·simp only [E.den, List.map_cons, List.map_nil, List.getD_cons_zero, List.getD_cons_succ, D.toI_int, D.toB_bool, D.toS_str, enc_toA, encS_toR, encS_len, len_str, cmpI_lss]; rw [ar_add (by omega) (by omega)]; rfl
  rcases Nat.lt_or_ge i k with h' | h'
  ·exact hI i h'
  ·obtain rfl : i = k := by omega
   exact q3 h3
 ·simp [E.den, cmpI] at h2
  obtain rfl : k = l.length := by omega
  exact ⟨⟨m, rfl, by omega, by omega, fun _ => sm_list.2 ⟨by omega, hI⟩⟩, rfl⟩
theorem c_laws_eqEntry (x y : Entry) : Fun Try.prog 16 none [enc x, enc y] (.bool (decide (x = y))) [] := by
 refine Fun.ofV vc_laws_eqEntry_ok ty_laws_eqEntry_ok rfl ?_ (fun hfit => ?_)
 ·exact ⟨ty_Entry x, ty_Entry y, trivial⟩
 have e := eq_Entry x y
 unfold vc_laws_eqEntry
 refine den_ite (fun h => ?_) (fun h0 => ?_)
 ·simp [E.den, cmpI, cmpS_neq, cells_Entry] at h
  exact den_ret (by simp [E.den, e, h])
 simp [E.den, cmpI, cmpS_neq, cells_Entry] at h0
 ((first | refine den_call ?_ (c_laws_eqStringS x.recipe y.recipe) (trivial) ?_ | refine den_callR ?_ (c_laws_eqStringS x.recipe y.recipe) (trivial) ?_ | refine den_call ?_ (.ofR (c_laws_eqStringS x.recipe y.recipe)) (trivial) ?_); (focus (simp only [VC.den, E.den, dEq, gsH_nil, and_true, cells_Entry]; try exact rfl)); (simp only [cA]))
 refine den_ite (fun h => ?_) (fun h1 => ?_)
 ·simp [E.den] at h
  exact den_ret (by simp [E.den, e, h])
 simp [E.den] at h1
 ((first | refine den_call ?_ (c_laws_eqVersion x.ver y.ver) (trivial) ?_ | refine den_callR ?_ (c_laws_eqVersion x.ver y.ver) (trivial) ?_ | refine den_call ?_ (.ofR (c_laws_eqVersion x.ver y.ver)) (trivial) ?_); (focus (simp only [VC.den, E.den, dEq, gsH_nil, and_true, cells_Entry]; try exact rfl)); (simp only [cA]))
 refine den_ite (fun h => ?_) (fun h2 => ?_)
 ·simp [E.den] at h
  exact den_ret (by simp [E.den, e, h])
 simp [E.den] at h2
 ((first | refine den_call ?_ (c_laws_eqNeedS x.needs y.needs) (trivial) ?_ | refine den_callR ?_ (c_laws_eqNeedS x.needs y.needs) (trivial) ?_ | refine den_call ?_ (.ofR (c_laws_eqNeedS x.needs y.needs)) (trivial) ?_); (focus (simp only [VC.den, E.den, dEq, gsH_nil, and_true, cells_Entry]; try exact rfl)); (simp only [cA]))
 refine den_ite (fun h => ?_) (fun h3 => ?_)
 ·simp [E.den] at h
  exact den_ret (by simp [E.den, e, h])
 simp [E.den] at h3
 exact den_ret (by simp [E.den, e, h0, h1, h2, h3])
theorem c_laws_eqEntryS (l l' : List Entry) : Fun Try.prog 9 none [encS l, encS l'] (.bool (decide (l = l'))) [] := by
 refine Fun.ofV vc_laws_eqEntryS_ok ty_laws_eqEntryS_ok rfl ?_ (fun hfit => ?_)
 ·exact ⟨ty_EntryS l, ty_EntryS l', trivial⟩
 have hl : l.length ≤ 9223372036854775807 := fits_encS hfit.1
 unfold vc_laws_eqEntryS
 refine den_ite (fun h => ?_) (fun h => ?_)
 ·simp [E.den, cmpI] at h
  refine den_ret ?_
  have : l ≠ l' := fun e => h (by rw [e])
  simp [E.den, this]
 simp [E.den, cmpI] at h
 have h : l.length = l'.length := by omega
 refine den_for l.length (fun k => [.int .i64 k]) (fun k => ∀ i, i < k → nth l i = nth l' i) rfl (by omega) ?_
 intro k hk hI _
 simp only [cA]
 refine den_ite (fun h2 => ?_) (fun h2 => ?_)
 ·simp [E.den, cmpI] at h2
  refine den_cond (fun hg => ?_) (den_cond (fun hg => ?_) ?_)
  ·simp [E.den]; omega
  ·simp [E.den]; omega
  ((first | refine den_call ?_ (c_laws_eqEntry (nth l k) (nth l' k)) (trivial) ?_ | refine den_callR ?_ (c_laws_eqEntry (nth l k) (nth l' k)) (trivial) ?_ | refine den_call ?_ (.ofR (c_laws_eqEntry (nth l k) (nth l' k))) (trivial) ?_); (focus (simp only [VC.den, E.den, dEq, gsH_nil, and_true, row_Entry, Int.toNat_natCast]; try exact rfl)); (simp only [cA]))
  refine den_ite (fun h3 => ?_) (fun h3 => ?_)
  ·simp [E.den] at h3
   exact den_ret (by have : l ≠ l' := fun e => h3 (by rw [e])
                     simp [E.den, this])
  simp [E.den] at h3
  refine den_next h2 ?_ fun i hi => ?_
  ·simp [E.den]; rw [ar_add (by omega) (by omega)]
  rcases Nat.lt_or_ge i k with h' | h'
  ·exact hI i h'
  ·obtain rfl : i = k := by omega
   exact h3
 ·simp [E.den, cmpI] at h2
  obtain rfl : k = l.length := by omega
  exact den_ret (by simp [E.den, ext_nth h hI])
end Go.Proofs.Ytjmakbnblpjkhaa
/- What the rows ask of the seat's program as a whole, decided once. -/
namespace Go.Proofs.Ytjmakbnblpjkhaa
open Go
theorem jfOwn : ownKnob Try.prog.godebug = none := by kernel_rfl
theorem jfLaid : laidOutB Try.prog = true := by kernel_rfl
theorem jfRowed : mapsRowed Try.prog = true := by kernel_rfl
theorem jfStops : (Try.prog.stops == []) = true := by kernel_rfl
theorem jfKnobs : (Try.prog.stopKnobs == []) = true := by kernel_rfl
theorem jfKeys : (Rows.fnExactRemoveEntryRow.plainKeys == Try.prog.plainKeys) = true := by kernel_rfl
theorem jfHeard : Try.prog.stopsHeard = true := by kernel_rfl
theorem jfEnter : Try.prog.mayEnter = true := by kernel_rfl
theorem jfLifted : (Rows.fnExactRemoveEntryRow.lifted == Try.prog.liftsFinal) = true := by kernel_rfl
theorem jfMake : (Try.prog.make == some Rows.fnExactRemoveEntryRow.make) = true := by kernel_rfl
theorem and_tt {a b : Bool} (ha : a = true) (hb : b = true) : (a && b) = true := by rw [ha, hb]; rfl
instance instGC : GC := ⟨fun _ => True, 0, fun _ _ => trivial⟩
end Go.Proofs.Ytjmakbnblpjkhaa
/- Contracts of the laws' helpers that write marks into memory of one's own, walked by hand; and of those that look for them. -/
namespace Go.Proofs.Ytjmakbnblpjkhaa
open Go.RowKit Go
def isMk (r : D) : Prop := ∃ s : ByteArray, r = .str s
structure MkSt where
 s : ByteArray
 n : Int
theorem d_markText (k : Int) (hk : k ≤ 1152921504606846976) : ∃ r, isMk r ∧ Fun Try.prog 25 none [.int .i64 k] r [] := by
 refine Fun.exV vc_laws_markText_ok rfl ty_laws_markText_ok ⟨rfl, trivial⟩ (.str ⟨#[]⟩) ⟨_, rfl⟩ fun hfit => ?_; unfold vc_laws_markText
 refine den_ite (fun _ => ⟨⟨_, rfl⟩, rfl⟩) (fun h => ?_)
 simp only [E.den, dEq, iEq, sEq] at h
 have h : 0 < k := by simpa using h
 refine den_loop MkSt (fun s => [.str s.s, .int .i64 s.n]) (fun s => 0 ≤ s.n ∧ (s.s.size : Int) + s.n ≤ k) (fun s => s.n.toNat) ⟨⟨#[]⟩, k⟩ (fun s s' h => by simp at h; rw [h.2]) rfl ⟨by simp only; omega, by simp [ByteArray.size]⟩ ?_
 rintro ⟨s, n⟩ ⟨hn, hs⟩ _
 simp only at hn hs
 simp only [cA]
 refine den_ite (fun h2 => ?_) (fun h2 => ?_)
 ·simp only [E.den, dEq, iEq, sEq] at h2
  have h2 : 0 < n := by simpa using h2
  refine den_cond (fun _ => ?_) (den_cond (fun _ => ?_) (den_cond (fun _ => ?_) ?_))
  ·simp [E.den, cmpI]
  ·simp only [E.den, dEq, iEq, sEq]
   simp only [bytesD, strOfNums_size, List.length_map, D.toR_sl, List.length_cons, List.length_nil, List.append_nil, List.nil_append]
   simp only [D.bool.injEq, decide_eq_true_eq]
   unfold maxLen; omega
  ·simp [E.den, cmpI]
  have hq : arI .quo .i64 n 10 = n / 10 := by
   show IntKind.i64.wrap (n.tdiv 10) = _
   rw [Int.tdiv_eq_ediv_of_nonneg (by omega), wrap_i64 (by omega) (by omega)]
  refine den_again (s' := (⟨bytesD (.sl [[.int .u8 (IntKind.u8.wrap (arI .add .i64 48 (arI .rem .i64 n 10)))]]) ++ s, n / 10⟩ : MkSt)) ?_ ⟨?_, ?_⟩ ?_
  ·simp only [E.den, dEq, iEq, sEq]
   rw [hq]
  ·simp only; omega
  ·simp only [ByteArray.size_append, bytesD, strOfNums_size, List.length_map, D.toR_sl, List.length_cons, List.length_nil, List.append_nil, List.nil_append]
   omega
  ·simp only; omega
 ·refine den_cond (fun _ => ?_) ⟨⟨_, rfl⟩, rfl⟩
  simp only [E.den, dEq, iEq, sEq]
  simp only [D.bool.injEq, decide_eq_true_eq]
  have : (⟨#[109]⟩ : ByteArray).size = 1 := rfl
  unfold maxLen; omega
open Classical in
noncomputable def mkT (k : Nat) : ByteArray := if h : ∃ s : ByteArray, Fun Try.prog 25 none [.int .i64 k] (.str s) [] then h.choose else ⟨#[]⟩
theorem c_markText (k : Nat) (hk : k ≤ 1152921504606846976) : Fun Try.prog 25 none [.int .i64 k] (.str (mkT k)) [] := by
 have h : ∃ s : ByteArray, Fun Try.prog 25 none [.int .i64 k] (.str s) [] := by
  obtain ⟨r, ⟨s, rfl⟩, h⟩ := d_markText k (by omega)
  exact ⟨s, h⟩
 unfold mkT
 rw [dif_pos h]
 exact h.choose_spec
theorem i64min : IntKind.i64.min = -9223372036854775808 := rfl
theorem i64max : IntKind.i64.max = 9223372036854775807 := rfl
theorem int_ok {w : World} {M : Addr → Prop} {n : Int} (h1 : -9223372036854775808 ≤ n) (h2 : n ≤ 9223372036854775807) : R w M (.int .i64 n) (.int .i64 n) :=
 ⟨rfl, by rw [i64min]; exact h1, by rw [i64max]; exact h2⟩
theorem rdy0 (w : World) : Rdy w (fun _ => False) := ⟨fun _ h => h.elim, trivial, Nat.zero_le _⟩
theorem w_markText (k : Nat) (hk : k ≤ 1152921504606846976) (w : World) : Calls Try.prog 25 #[.int .i64 k] w fun e w' => e = .returned (.string (mkT k)) ∧ (mkT k).size ≤ maxLen ∧ Below w.heap.size w w' := by
 have h := Fun.calls (c_markText k hk) (rdy0 w) (vs := [.int .i64 k]) ⟨_, [], rfl, int_ok (by omega) (by omega), rfl⟩
 refine h.mono ?_
 rintro e w' ⟨v, rfl, ⟨rfl, hs⟩, hb⟩
 exact ⟨rfl, hs, hb⟩
/-! Marks of texts -/
noncomputable def mS (k : Nat) (l : List ByteArray) (i : Nat) : List (List D) := rowsM l.length fun a => if a < i then [.str (mkT (k + a))] else Enc.cells (nth l a)
theorem mS_len (k : Nat) (l : List ByteArray) (i : Nat) : ∀ r ∈ mS k l i, r.length = 1 := fun r hr => by
 obtain ⟨a, _, rfl⟩ := rowsM_mem hr
 split <;> rfl
theorem mS_leaf (k : Nat) (l : List ByteArray) (i : Nat) : ∀ r ∈ mS k l i, ∀ d ∈ r, leafD d = true := fun r hr d hd => by
 obtain ⟨a, _, rfl⟩ := rowsM_mem hr
 split at hd <;> (simp [cells_str] at hd; subst hd; rfl)
theorem mS_zero (k : Nat) (l : List ByteArray) : mS k l 0 = l.map Enc.cells := by
 rw [rowsM_map]; exact rowsM_congr fun a _ => by simp
theorem m_StringS (l : List ByteArray) (k : Nat) (w : World) (M : Addr → Prop) (v : Value) (hr : R w M (encS l) v) (hfr : ∀ p, w.frozen? p = true → M p) (hk : k + l.length ≤ 1152921504606846976) :
  Calls Try.prog 26 #[v, .int .i64 k] w fun e w' => e = .returned (.int .i64 ((k + l.length : Nat) : Int)) ∧ Alt (fun p => ¬ M p) w w' ∧ R w' M (.sl (mS k l l.length)) v := by
 obtain ⟨a, len, cap, hv, hlen, hlc, hcm, hno, -⟩ := (show R w M (.sl (l.map Enc.cells)) v from hr)
 subst hv
 rw [List.length_map] at hlen
 subst hlen
 have hmx : (l.length : Int) ≤ 1152921504606846976 := by omega
 have HR := Lib.hid (show R w M (.sl (mS k l 0)) (.slice a l.length cap) by rw [mS_zero]; exact hr)
 have HF := Lib.hid hfr
 clear hr hfr
 go_enter Try.func26, Try.ntmps26
 go_wp2
 go_loopw [1, 5] (fun kk ii wr => Alt (fun p => ¬ M p) w wr ∧ ∃ i : Nat, i ≤ l.length ∧ kk = .int .i64 ((k + i : Nat) : Int) ∧ ii = .int .i64 (i : Int) ∧ R wr M (.sl (mS k l i)) (.slice a l.length cap)) (fun _ ii _ => l.length - (intOf ii).toNat)
 case atStart => exact ⟨Alt.refl _ _, 0, by omega, rfl, rfl, HR.out⟩
 case round =>
  obtain ⟨hA, i, hi, rfl, rfl, hRi⟩ := hrel
  have HA := Lib.hid hA
  have HRi := Lib.hid hRi
  clear hA hRi
  by_cases hlt : i < l.length
  ·obtain ⟨b, o, s, rfl⟩ : ∃ b o s, a = some ⟨b, o, s⟩ := by
    rcases a with _ | ⟨b, o, s⟩
    ·have := hno rfl; omega
    ·exact ⟨b, o, s, rfl⟩
   have hs : s = none := by
    obtain ⟨a', len', cap', e, q1, q2, q3, q4, q5⟩ := HRi.out
    cases e
    exact (q5 b o s rfl).1 (by omega)
   subst hs
   have hi0 : (0 : Int) ≤ (i : Int) := by omega
   have hi1 : (i : Int) < (l.length : Int) := by omega
   have hlt' : (i : Int) < (l.length : Int) := hi1
   go_wp2_with fail
   refine (w_markText (k + i) (by omega) _).mono ?_
   rintro e w1 ⟨rfl, hsz, hb1⟩
   have hR1 := R.keep (Keeps.below hb1 fun _ _ h => h) _ _ HRi.out
   obtain ⟨u, c1, c2, c3⟩ := flat_cells (mS_len k l i) hR1 (i := i) (j := 0) (rowsM_get hlt) (d := .str (nth l i)) (by rw [if_neg (by omega)]; rfl)
   have hu : u = .string (nth l i) := c3.1
   subst hu
   have hA1 : Alt (fun p => ¬ M p) w w1 := HA.out.trans (Alt.below hb1)
   have hf1 : w1.frozen? ⟨b, o + i * 1 + 0, none⟩ = false := by
    cases hf : w1.frozen? ⟨b, o + i * 1 + 0, none⟩ with
    | false => rfl
    | true =>
     exfalso
     refine c2 (HF.out _ ?_)
     rw [← hA1.fro _ ?_]
     ·exact hf
     ·obtain ⟨u0, d1, _, _⟩ := flat_cells (mS_len k l 0) HR.out (i := i) (j := 0) (rowsM_get hlt) (d := .str (nth l i)) (by rw [if_neg (by omega)]; rfl)
      exact block_lt_of_cell d1
   have hset := flat_set (mS_len k l i) (mS_leaf k l i) hR1 (j := 0) (rowsM_get hlt) (by decide) (x := .str (mkT (k + i))) (u := .string (mkT (k + i))) (fun _ _ => ⟨rfl, hsz⟩)
   have hAs := hA1.trans (Alt.set (A := fun p => ¬ M p) (v := .string (mkT (k + i))) c2 c1 (.inr (.inl ⟨_, _, rfl, rfl, hsz⟩)))
   simp only [Nat.mul_one, Nat.add_zero] at hset hAs c1 hf1
   have HS := Lib.hid (show R (w1.setCell ⟨b, o + i, none⟩ (.string (mkT (k + i)))) M (.sl (mS k l (i + 1))) (.slice (some ⟨b, o, none⟩) l.length cap) by
    have e : mS k l (i + 1) = (mS k l i).set i ((if i < i then [.str (mkT (k + i))] else Enc.cells (nth l i)).set 0 (.str (mkT (k + i)))) := by
     unfold mS
     rw [rowsM_set]
     refine rowsM_congr fun a _ => ?_
     by_cases ha : a = i
     ·subst ha; simp [cells_str]
     ·have : a < i + 1 ↔ a < i := by omega
      simp [ha, this]
    rw [e]; exact hset)
   have HAs := Lib.hid hAs
   clear hset hAs hA1 hR1 c2 c3 hb1 hsz
   go_wp2
   exact ⟨⟨HAs.out, i + 1, by omega, by go_num, by go_num, HS.out⟩, by simp [intOf]; omega⟩
  ·go_wp2
   go_ret
   obtain rfl : i = l.length := by omega
   exact ⟨rfl, HA.out, HRi.out⟩
/-! Rows of leaves, written cell by cell -/
def Flat (w : World) (M : Addr → Prop) (n : Nat) (rows : List (List D)) (v : Value) : Prop := R w M (.sl rows) v ∧ (∀ r ∈ rows, r.length = n) ∧ ∀ r ∈ rows, ∀ d ∈ r, leafD d = true
theorem Flat.keep {w w' : World} {M : Addr → Prop} {n : Nat} {rows : List (List D)} {v : Value} (h : Flat w M n rows v) (hb : Below w.heap.size w w') : Flat w' M n rows v := ⟨R.keep (Keeps.below hb fun _ _ h => h) _ _ h.1, h.2⟩
theorem set_all {α : Type} {p : α → Prop} {l : List α} {i : Nat} {x : α} (h : ∀ r ∈ l, p r) (hx : p x) : ∀ r ∈ l.set i x, p r := fun r hr => by
 rcases List.mem_or_eq_of_mem_set hr with h1 | rfl
 ·exact h r h1
 ·exact hx
theorem Flat.putS {w : World} {M : Addr → Prop} {n b o len cap i j : Nat} {rows : List (List D)} {r : List D} {t s : ByteArray} (h : Flat w M n rows (.slice (some ⟨b, o, none⟩) len cap)) (hi : rows[i]? = some r) (hj : r[j]? = some (.str t)) (hs : s.size ≤ maxLen) :
  w.cell? ⟨b, o + i * n + j, none⟩ = some (.string t) ∧ ¬ M ⟨b, o + i * n + j, none⟩ ∧ Flat (w.setCell ⟨b, o + i * n + j, none⟩ (.string s)) M n (rows.set i (r.set j (.str s))) (.slice (some ⟨b, o, none⟩) len cap) ∧ Alt (fun p => ¬ M p) w (w.setCell ⟨b, o + i * n + j, none⟩ (.string s)) := by
 obtain ⟨u, c1, c2, c3⟩ := flat_cells h.2.1 h.1 hi hj
 have hu : u = .string t := c3.1
 subst hu
 have hr := h.2.1 r (List.mem_of_getElem? hi)
 have hjn : j < n := by rw [← hr]; exact (List.getElem?_eq_some_iff.1 hj).1
 refine ⟨c1, c2, ⟨flat_set h.2.1 h.2.2 h.1 hi hjn fun _ _ => ⟨rfl, hs⟩, set_all h.2.1 (by simpa using hr), set_all h.2.2 fun d hd => ?_⟩, Alt.set (A := fun p => ¬ M p) c2 c1 (.inr (.inl ⟨_, _, rfl, rfl, hs⟩))⟩
 rcases List.mem_or_eq_of_mem_set hd with h1 | rfl
 ·exact h.2.2 r (List.mem_of_getElem? hi) d h1
 ·rfl
theorem Flat.putI {w : World} {M : Addr → Prop} {n b o len cap i j : Nat} {rows : List (List D)} {r : List D} {t x : Int} (h : Flat w M n rows (.slice (some ⟨b, o, none⟩) len cap)) (hi : rows[i]? = some r) (hj : r[j]? = some (.int .i64 t)) (h1 : -9223372036854775808 ≤ x) (h2 : x ≤ 9223372036854775807) :
  w.cell? ⟨b, o + i * n + j, none⟩ = some (.int .i64 t) ∧ ¬ M ⟨b, o + i * n + j, none⟩ ∧ Flat (w.setCell ⟨b, o + i * n + j, none⟩ (.int .i64 x)) M n (rows.set i (r.set j (.int .i64 x))) (.slice (some ⟨b, o, none⟩) len cap) ∧ Alt (fun p => ¬ M p) w (w.setCell ⟨b, o + i * n + j, none⟩ (.int .i64 x)) := by
 obtain ⟨u, c1, c2, c3⟩ := flat_cells h.2.1 h.1 hi hj
 have hu : u = .int .i64 t := c3.1
 subst hu
 have hr := h.2.1 r (List.mem_of_getElem? hi)
 have hjn : j < n := by rw [← hr]; exact (List.getElem?_eq_some_iff.1 hj).1
 refine ⟨c1, c2, ⟨flat_set h.2.1 h.2.2 h.1 hi hjn fun _ _ => int_ok h1 h2, set_all h.2.1 (by simpa using hr), set_all h.2.2 fun d hd => ?_⟩, Alt.set (A := fun p => ¬ M p) c2 c1 (.inr (.inr ⟨_, _, _, rfl, rfl, by rw [i64min]; exact h1, by rw [i64max]; exact h2⟩))⟩
 rcases List.mem_or_eq_of_mem_set hd with h3 | rfl
 ·exact h.2.2 r (List.mem_of_getElem? hi) d h3
 ·rfl
theorem free_of {A M : Addr → Prop} {w w' : World} {p : Addr} (h : Alt A w w') (hF : ∀ p, w.frozen? p = true → M p) (hp : ¬ M p) (hb : p.block < w.heap.size) : w'.frozen? p = false := by
 rw [h.fro p hb]
 cases hf : w.frozen? p with
 | false => rfl
 | true => exact absurd (hF p hf) hp
theorem set_at {α : Type} {l : List α} {i : Nat} {r x : α} (h : l[i]? = some r) : (l.set i x)[i]? = some x := List.getElem?_set_self (List.getElem?_eq_some_iff.1 h).1
/-! Marks of needs and of links -/
noncomputable def mN (k : Nat) (l : List Need) (i : Nat) : List (List D) := rowsM l.length fun a => if a < i then [.int .i64 ((k + 4 * a : Nat) : Int), .str (mkT (k + 4 * a + 1)), .int .i64 ((k + 4 * a + 1 + 1 : Nat) : Int), .int .i64 ((k + 4 * a + 1 + 1 + 1 : Nat) : Int)] else Enc.cells (nth l a)
theorem mN_flat (k : Nat) (l : List Need) (i : Nat) : (∀ r ∈ mN k l i, r.length = 4) ∧ ∀ r ∈ mN k l i, ∀ d ∈ r, leafD d = true := by
 constructor
 ·intro r hr
  obtain ⟨a, _, rfl⟩ := rowsM_mem hr
  split <;> rfl
 ·intro r hr d hd
  obtain ⟨a, _, rfl⟩ := rowsM_mem hr
  split at hd
  ·simp at hd; rcases hd with rfl | rfl | rfl | rfl <;> rfl
  ·simp [cells_Need] at hd; rcases hd with rfl | rfl | rfl | rfl <;> rfl
theorem mN_zero (k : Nat) (l : List Need) : mN k l 0 = l.map Enc.cells := by
 rw [rowsM_map]; exact rowsM_congr fun a _ => by simp
theorem mN_succ (k : Nat) (l : List Need) (i : Nat) : mN k l (i + 1) = (mN k l i).set i [.int .i64 ((k + 4 * i : Nat) : Int), .str (mkT (k + 4 * i + 1)), .int .i64 ((k + 4 * i + 1 + 1 : Nat) : Int), .int .i64 ((k + 4 * i + 1 + 1 + 1 : Nat) : Int)] := by
 unfold mN
 rw [rowsM_set]
 refine rowsM_congr fun a _ => ?_
 by_cases ha : a = i
 ·subst ha; simp
 ·have : a < i + 1 ↔ a < i := by omega
  simp [ha, this]
theorem m_NeedS (l : List Need) (k : Nat) (w : World) (M : Addr → Prop) (v : Value) (hr : R w M (encS l) v) (hfr : ∀ p, w.frozen? p = true → M p) (hk : k + 4 * l.length ≤ 1152921504606846970) :
  Calls Try.prog 27 #[v, .int .i64 k] w fun e w' => e = .returned (.int .i64 ((k + 4 * l.length : Nat) : Int)) ∧ Alt (fun p => ¬ M p) w w' ∧ R w' M (.sl (mN k l l.length)) v := by
 obtain ⟨a, len, cap, hv, hlen, hlc, hcm, hno, -⟩ := (show R w M (.sl (l.map Enc.cells)) v from hr)
 subst hv
 rw [List.length_map] at hlen
 subst hlen
 have hmx : (l.length : Int) ≤ 1152921504606846976 := by omega
 have HR := Lib.hid (show Flat w M 4 (mN k l 0) (.slice a l.length cap) from ⟨by rw [mN_zero]; exact hr, mN_flat k l 0⟩)
 have HF := Lib.hid hfr
 clear hr hfr
 go_enter Try.func27, Try.ntmps27
 go_wp2
 go_loopw [1, 5] (fun kk ii wr => Alt (fun p => ¬ M p) w wr ∧ ∃ i K : Nat, i ≤ l.length ∧ K = k + 4 * i ∧ kk = .int .i64 (K : Int) ∧ ii = .int .i64 (i : Int) ∧ Flat wr M 4 (mN k l i) (.slice a l.length cap)) (fun _ ii _ => l.length - (intOf ii).toNat)
 case atStart => exact ⟨Alt.refl _ _, 0, k, by omega, rfl, rfl, rfl, HR.out⟩
 case round =>
  obtain ⟨hA, i, K, hi, hK, rfl, rfl, hRi⟩ := hrel
  have HA := Lib.hid hA
  have HRi := Lib.hid hRi
  have HK := Lib.hid hK
  clear hA hRi
  by_cases hlt : i < l.length
  ·obtain ⟨b, o, s, rfl⟩ : ∃ b o s, a = some ⟨b, o, s⟩ := by
    rcases a with _ | ⟨b, o, s⟩
    ·have := hno rfl; omega
    ·exact ⟨b, o, s, rfl⟩
   have hs : s = none := by
    obtain ⟨a', len', cap', e, q1, q2, q3, q4, q5⟩ := HRi.out.1
    cases e
    exact (q5 b o s rfl).1 (by omega)
   subst hs
   have hi0 : (0 : Int) ≤ (i : Int) := by omega
   have hi1 : (i : Int) < (l.length : Int) := by omega
   have hKb : K + 4 ≤ 1152921504606846970 := by omega
   have hbw : b < w.heap.size := by
    obtain ⟨u0, d1, _, _⟩ := flat_cells HR.out.2.1 HR.out.1 (i := i) (j := 0) (rowsM_get hlt) (d := .int .i64 (nth l i).face) (by rw [if_neg (by omega)]; rfl)
    exact block_lt_of_cell d1
   have hrow : (mN k l i)[i]? = some (Enc.cells (nth l i)) := by
    unfold mN
    rw [rowsM_get hlt, if_neg (by omega)]
   obtain ⟨c0, n0, F0, A0⟩ := HRi.out.putI (j := 0) (x := (K : Int)) hrow rfl (by omega) (by omega)
   have hA0 := HA.out.trans A0
   have hf0 := free_of HA.out HF.out n0 hbw
   have HF0 := Lib.hid F0
   have HA0 := Lib.hid hA0
   clear F0 A0 n0 hA0 hK
   simp only [Nat.add_zero] at c0 hf0 HF0 HA0
   go_wp2_with fail
   refine (w_markText (K + 1) (by omega) _).mono ?_
   rintro e w1 ⟨rfl, hsz, hb1⟩
   have F1 := HF0.out.keep hb1
   have hA1 := HA0.out.trans (Alt.below hb1)
   obtain ⟨c1, n1, F2, A2⟩ := F1.putS (j := 1) (s := mkT (K + 1)) (set_at hrow) rfl hsz
   obtain ⟨c2, n2, F3, A3⟩ := F2.putI (j := 2) (x := ((K + 1 + 1 : Nat) : Int)) (set_at (set_at hrow)) rfl (by omega) (by omega)
   obtain ⟨c3, n3, F4, A4⟩ := F3.putI (j := 3) (x := ((K + 1 + 1 + 1 : Nat) : Int)) (set_at (set_at (set_at hrow))) rfl (by omega) (by omega)
   have hf1 := free_of hA1 HF.out n1 hbw
   have hf2 := free_of (hA1.trans A2) HF.out n2 hbw
   have hf3 := free_of ((hA1.trans A2).trans A3) HF.out n3 hbw
   have HA4 := Lib.hid (((hA1.trans A2).trans A3).trans A4)
   have HF4 := Lib.hid F4
   rw [List.set_set, List.set_set, List.set_set] at HF4
   clear F1 F2 F3 F4 A2 A3 A4 hA1 n1 n2 n3 hb1 hsz
   simp only [Int.natCast_add, Int.natCast_one] at c1 c2 c3 hf1 hf2 hf3 HA4
   go_wp2
   refine ⟨⟨HA4.out, i + 1, K + 4, by omega, by have := HK.out; omega, by go_num, by go_num, ?_⟩, by simp [intOf]; omega⟩
   have e := HK.out
   subst e
   rw [mN_succ]
   exact HF4.out
  ·go_wp2
   go_ret
   obtain rfl : i = l.length := by omega
   subst hK
   exact ⟨rfl, HA.out, HRi.out.1⟩
/-! Entries: how many marks; only the shape is kept in sight -/
def cntE (e : Entry) : Nat := 3 + e.recipe.length + 4 * e.needs.length
def cntTo (l : List Entry) : Nat → Nat
 | 0 => 0
 | i + 1 => cntTo l i + cntE (nth l i)
theorem cntTo_mono (l : List Entry) : ∀ {i j : Nat}, i ≤ j → cntTo l i ≤ cntTo l j
 | i, 0, h => by obtain rfl : i = 0 := by omega
                 exact Nat.le_refl _
 | i, j + 1, h => by
  rcases Nat.lt_or_ge i (j + 1) with h1 | h1
  ·have := cntTo_mono l (show i ≤ j by omega)
   simp only [cntTo]; omega
  ·obtain rfl : i = j + 1 := by omega
   exact Nat.le_refl _
theorem ent_len (l : List Entry) : ∀ r ∈ l.map Enc.cells, r.length = 5 := fun r hr => by
 obtain ⟨e, _, rfl⟩ := List.mem_map.1 hr; rfl
theorem ent_cell {w : World} {M : Addr → Prop} {l : List Entry} {b o len cap i j : Nat} {s : Option Nat} {d : D} (h : R w M (encS l) (.slice (some ⟨b, o, s⟩) len cap)) (hi : i < l.length) (hj : (Enc.cells (nth l i))[j]? = some d) :
  ∃ u, w.cell? ⟨b, o + i * 5 + j, none⟩ = some u ∧ ¬ M ⟨b, o + i * 5 + j, none⟩ ∧ R w M d u :=
 flat_cells (ent_len l) h (get_map l hi) hj
theorem m_EntryS (l : List Entry) (k : Nat) (w : World) (M : Addr → Prop) (v : Value) (hr : R w M (encS l) v) (hfr : ∀ p, w.frozen? p = true → M p) (hk : k + cntTo l l.length ≤ 1152921504606846970) (hll : l.length ≤ 1152921504606846976) :
  Calls Try.prog 10 #[v, .int .i64 k] w fun e w' => e = .returned (.int .i64 ((k + cntTo l l.length : Nat) : Int)) ∧ Alt (fun p => ¬ M p) w w' := by
 obtain ⟨a, len, cap, hv, hlen, hlc, hcm, hno, -⟩ := (show R w M (.sl (l.map Enc.cells)) v from hr)
 subst hv
 rw [List.length_map] at hlen
 subst hlen
 have hmx : (l.length : Int) ≤ 1152921504606846976 := by omega
 have HR := Lib.hid hr
 have HF := Lib.hid hfr
 clear hr hfr
 go_enter Try.func10, Try.ntmps10
 go_wp2
 go_loopw [1, 5] (fun kk ii wr => Alt (fun p => ¬ M p) w wr ∧ ∃ i K : Nat, i ≤ l.length ∧ K = k + cntTo l i ∧ kk = .int .i64 (K : Int) ∧ ii = .int .i64 (i : Int)) (fun _ ii _ => l.length - (intOf ii).toNat)
 case atStart => exact ⟨Alt.refl _ _, 0, k, by omega, rfl, rfl, rfl⟩
 case round =>
  obtain ⟨hA, i, K, hi, hK, rfl, rfl⟩ := hrel
  have HA := Lib.hid hA
  have HK := Lib.hid hK
  clear hA
  by_cases hlt : i < l.length
  ·obtain ⟨b, o, s, rfl⟩ : ∃ b o s, a = some ⟨b, o, s⟩ := by
    rcases a with _ | ⟨b, o, s⟩
    ·have := hno rfl; omega
    ·exact ⟨b, o, s, rfl⟩
   have hs : s = none := by
    obtain ⟨a', len', cap', e, q1, q2, q3, q4, q5⟩ := HR.out
    cases e
    exact (q5 b o s rfl).1 (by omega)
   subst hs
   have hi0 : (0 : Int) ≤ (i : Int) := by omega
   have hi1 : (i : Int) < (l.length : Int) := by omega
   have hcm2 := cntTo_mono l (show i + 1 ≤ l.length by omega)
   simp only [cntTo, cntE] at hcm2
   have hKb : K + 3 + (nth l i).recipe.length + 4 * (nth l i).needs.length ≤ 1152921504606846970 := by omega
   have hbw : b < w.heap.size := by
    obtain ⟨u0, d1, _, _⟩ := ent_cell HR.out hlt (j := 0) rfl
    exact block_lt_of_cell d1
   clear hK hcm2
   go_wp2_with fail
   refine (w_markText K (by omega) _).mono ?_
   rintro e w1 ⟨rfl, hsz1, hb1⟩
   have hA1 := HA.out.trans (Alt.below hb1)
   obtain ⟨l1, L1, R1⟩ := hA1.entriesF HR.out HF.out
   have hlt1 : i < l1.length := by rw [L1.len]; exact hlt
   obtain ⟨u1, c1, n1, r1⟩ := ent_cell R1 hlt1 (j := 0) rfl
   have hu1 : u1 = .string (nth l1 i).name := r1.1
   subst hu1
   have hf1 := free_of hA1 HF.out (fun hm => n1 (.inl hm)) hbw
   have hA2 := hA1.trans (Alt.set (A := fun p => ¬ M p) (v := .string (mkT K)) (fun hm => n1 (.inl hm)) c1 (.inr (.inl ⟨_, _, rfl, rfl, hsz1⟩)))
   obtain ⟨l2, L2, R2⟩ := hA2.entriesF HR.out HF.out
   have hlt2 : i < l2.length := by rw [L2.len]; exact hlt
   obtain ⟨u2, c2, n2, r2⟩ := ent_cell R2 hlt2 (j := 1) rfl
   obtain ⟨a2, len2, cap2, hu2, -⟩ := (show R _ _ (.sl ((nth l2 i).recipe.map Enc.cells)) u2 from r2)
   have hrl := L2.rcp i hlt
   obtain ⟨K2, hK2⟩ : ∃ K2, K + 1 + (nth l2 i).recipe.length = K2 := ⟨_, rfl⟩
   have hm2 := m_StringS (nth l2 i).recipe (K + 1) _ _ u2 r2 (fun p hp => .inr hp) (by omega)
   rw [hK2] at hm2
   have HM2 := Lib.hid hm2
   have HA2 := Lib.hid hA2
   have HK2 := Lib.hid (show K2 = K + 1 + (nth l i).recipe.length by omega)
   have hK2b : K2 + 2 + 4 * (nth l i).needs.length ≤ 1152921504606846970 := by omega
   have HU2 := Lib.hid hu2
   clear R1 R2 r1 r2 hA1 hA2 n1 n2 hb1 hsz1 L1 L2 hu2 hm2 hK2 hrl
   simp only [Nat.add_zero] at c1 hf1 c2 HA2 HM2
   go_wp2_with fail
   refine HM2.out.mono ?_
   rintro e w3 ⟨rfl, hA3, -⟩
   have hA3' := HA2.out.trans (hA3.mono fun p _ h hm => h (.inl hm))
   obtain ⟨l3, L3, R3⟩ := hA3'.entriesF HR.out HF.out
   have hlt3 : i < l3.length := by rw [L3.len]; exact hlt
   obtain ⟨u3, c3, n3, r3⟩ := ent_cell R3 hlt3 (j := 2) rfl
   have hu3 : u3 = .int .i64 (nth l3 i).ver.maj := r3.1
   subst hu3
   have hf3 := free_of hA3' HF.out (fun hm => n3 (.inl hm)) hbw
   have hA4 := hA3'.trans (Alt.set (A := fun p => ¬ M p) (v := .int .i64 (K2 : Int)) (fun hm => n3 (.inl hm)) c3 (.inr (.inr ⟨_, _, _, rfl, rfl, by rw [i64min]; omega, by rw [i64max]; omega⟩)))
   obtain ⟨l4, L4, R4⟩ := hA4.entriesF HR.out HF.out
   have hlt4 : i < l4.length := by rw [L4.len]; exact hlt
   obtain ⟨u4, c4, n4, r4⟩ := ent_cell R4 hlt4 (j := 3) rfl
   have hu4 : u4 = .int .i64 (nth l4 i).ver.min := r4.1
   subst hu4
   have hf4 := free_of hA4 HF.out (fun hm => n4 (.inl hm)) hbw
   have hA5 := hA4.trans (Alt.set (A := fun p => ¬ M p) (v := .int .i64 ((K2 : Int) + 1)) (fun hm => n4 (.inl hm)) c4 (.inr (.inr ⟨_, _, _, rfl, rfl, by rw [i64min]; omega, by rw [i64max]; omega⟩)))
   obtain ⟨l5, L5, R5⟩ := hA5.entriesF HR.out HF.out
   have hlt5 : i < l5.length := by rw [L5.len]; exact hlt
   obtain ⟨u5, c5, n5, r5⟩ := ent_cell R5 hlt5 (j := 4) rfl
   have hnl := L5.nds i hlt
   obtain ⟨K5, hK5⟩ : ∃ K5, K2 + 2 + 4 * (nth l5 i).needs.length = K5 := ⟨_, rfl⟩
   have hm5 := m_NeedS (nth l5 i).needs (K2 + 2) _ _ u5 r5 (fun p hp => .inr hp) (by omega)
   rw [hK5] at hm5
   have HM5 := Lib.hid hm5
   have HA5 := Lib.hid hA5
   have HK5 := Lib.hid (show K5 = K2 + 2 + 4 * (nth l i).needs.length by omega)
   clear R3 R4 R5 r3 r4 r5 hA3 hA3' hA4 hA5 n3 n4 n5 L3 L4 L5 hm5 hK5 hnl HM2 HA2
   go_wp2_with fail
   refine HM5.out.mono ?_
   rintro e w6 ⟨rfl, hA6, -⟩
   have HA6 := Lib.hid (HA5.out.trans (hA6.mono fun p _ h hm => h (.inl hm)))
   clear hA6
   go_wp2
   refine ⟨⟨HA6.out, i + 1, K5, by omega, ?_, by go_num, by go_num⟩, by simp [intOf]; omega⟩
   have h1 := HK.out
   have h2 := HK5.out
   have h3 := HK2.out
   simp only [cntTo, cntE]
   omega
  ·go_wp2
   go_ret
   obtain rfl : i = l.length := by omega
   subst hK
   exact ⟨rfl, HA.out⟩
/-! The marks are all there -/
theorem c_heldStringS (l : List ByteArray) (k : Nat) (hk : k + l.length ≤ 1152921504606846970) : Fun Try.prog 28 none [.sl (mS k l l.length), .int .i64 k] (.int .i64 ((k + l.length : Nat) : Int)) [] := by
 refine Fun.ofV vc_laws_heldStringS_ok ty_laws_heldStringS_ok rfl ?_ (fun hfit => ?_)
 ·refine ⟨?_, rfl, trivial⟩
  show RowsTy _ (tbl.tab _) _
  rw [tab_str]
  refine RowsTy.of fun r hr => ?_
  obtain ⟨a, ha, rfl⟩ := rowsM_mem hr
  rw [if_pos ha]; exact ⟨trivial, trivial⟩
 unfold vc_laws_heldStringS
 have hml : (mS k l l.length).length = l.length := rowsM_len _ _
 refine den_for l.length (fun i => [.int .i64 ((k + i : Nat) : Int), .int .i64 i]) (fun _ => True) rfl trivial ?_
 intro i hi _ _
 simp only [cA]
 refine den_ite (fun h2 => ?_) (fun h2 => ?_)
 ·simp only [E.den, dEq, iEq, sEq, lenD_sl, hml] at h2
  have h2 : i < l.length := by simpa using h2
  have hrow : (mS k l l.length)[i]? = some [.str (mkT (k + i))] := by
   unfold mS
   rw [rowsM_get h2, if_pos h2]
  refine den_cond (fun _ => ?_) ?_
  ·simp only [E.den, dEq, iEq, sEq, lenD_sl, hml]; simp; omega
  ((first | refine den_call ?_ (c_markText (k + i) (by omega)) (trivial) ?_ | refine den_callR ?_ (c_markText (k + i) (by omega)) (trivial) ?_ | refine den_call ?_ (.ofR (c_markText (k + i) (by omega))) (trivial) ?_); (focus (simp only [VC.den, E.den, dEq, gsH_nil, and_true]; try exact rfl)); (simp only [cA]))
  refine den_ite (fun h3 => ?_) (fun h3 => ?_)
  ·simp only [E.den, dEq, iEq, sEq, hrow, Option.getD_some] at h3
   simp at h3
  refine den_next h2 ?_ trivial
  simp only [E.den, dEq, iEq, sEq]
  rw [ar_add (by omega) (by omega), ar_add (by omega) (by omega)]; rfl
 ·simp only [E.den, dEq, iEq, sEq, lenD_sl, hml] at h2
  obtain rfl : i = l.length := by simp at h2; omega
  exact den_ret rfl
theorem c_heldNeedS (l : List Need) (k : Nat) (hk : k + 4 * l.length ≤ 1152921504606846970) : Fun Try.prog 29 none [.sl (mN k l l.length), .int .i64 k] (.int .i64 ((k + 4 * l.length : Nat) : Int)) [] := by
 refine Fun.ofV vc_laws_heldNeedS_ok ty_laws_heldNeedS_ok rfl ?_ (fun hfit => ?_)
 ·refine ⟨?_, rfl, trivial⟩
  show RowsTy _ (tbl.tab _) _
  rw [tab_Need]
  refine RowsTy.of fun r hr => ?_
  obtain ⟨a, ha, rfl⟩ := rowsM_mem hr
  rw [if_pos ha]; exact ⟨rfl, trivial, rfl, rfl, trivial⟩
 unfold vc_laws_heldNeedS
 have hml : (mN k l l.length).length = l.length := rowsM_len _ _
 refine den_for l.length (fun i => [.int .i64 ((k + 4 * i : Nat) : Int), .int .i64 i]) (fun _ => True) rfl trivial ?_
 intro i hi _ _
 simp only [cA]
 refine den_ite (fun h2 => ?_) (fun h2 => ?_)
 ·simp only [E.den, dEq, iEq, sEq, lenD_sl, hml] at h2
  have h2 : i < l.length := by simpa using h2
  have hrow : (mN k l l.length)[i]? = some [.int .i64 ((k + 4 * i : Nat) : Int), .str (mkT (k + 4 * i + 1)), .int .i64 ((k + 4 * i + 1 + 1 : Nat) : Int), .int .i64 ((k + 4 * i + 1 + 1 + 1 : Nat) : Int)] := by
   unfold mN
   rw [rowsM_get h2, if_pos h2]
  have e1 : arI .add .i64 ((k + 4 * i : Nat) : Int) 1 = ((k + 4 * i + 1 : Nat) : Int) := ar_add (by omega) (by omega)
  have e2 : arI .add .i64 ((k + 4 * i + 1 : Nat) : Int) 1 = ((k + 4 * i + 1 + 1 : Nat) : Int) := ar_add (by omega) (by omega)
  have e3 : arI .add .i64 ((k + 4 * i + 1 + 1 : Nat) : Int) 1 = ((k + 4 * i + 1 + 1 + 1 : Nat) : Int) := ar_add (by omega) (by omega)
  have e4 : arI .add .i64 ((k + 4 * i + 1 + 1 + 1 : Nat) : Int) 1 = ((k + 4 * (i + 1) : Nat) : Int) := by rw [ar_add (by omega) (by omega)]; omega
  refine den_cond (fun _ => ?_) ?_
  ·simp only [E.den, dEq, iEq, sEq, lenD_sl, hml]; simp; omega
  refine den_ite (fun h3 => ?_) (fun h3 => ?_)
  ·simp only [E.den, dEq, iEq, sEq, hrow, Option.getD_some] at h3
   simp at h3
  refine den_cond (fun _ => ?_) ?_
  ·simp only [E.den, dEq, iEq, sEq, lenD_sl, hml]; simp; omega
  ((first | refine den_call ?_ (c_markText (k + 4 * i + 1) (by omega)) (trivial) ?_ | refine den_callR ?_ (c_markText (k + 4 * i + 1) (by omega)) (trivial) ?_ | refine den_call ?_ (.ofR (c_markText (k + 4 * i + 1) (by omega))) (trivial) ?_); (focus (simp only [VC.den, E.den, dEq, gsH_nil, and_true, e1]; try exact rfl)); (simp only [cA]))
  refine den_ite (fun h3 => ?_) (fun h3 => ?_)
  ·simp only [E.den, dEq, iEq, sEq, hrow, Option.getD_some] at h3
   simp at h3
  refine den_cond (fun _ => ?_) ?_
  ·simp only [E.den, dEq, iEq, sEq, lenD_sl, hml]; simp; omega
  refine den_ite (fun h3 => ?_) (fun h3 => ?_)
  ·simp only [E.den, dEq, iEq, sEq, hrow, Option.getD_some, e1, e2] at h3
   simp at h3
  refine den_cond (fun _ => ?_) ?_
  ·simp only [E.den, dEq, iEq, sEq, lenD_sl, hml]; simp; omega
  refine den_ite (fun h3 => ?_) (fun h3 => ?_)
  ·simp only [E.den, dEq, iEq, sEq, hrow, Option.getD_some, e1, e2, e3] at h3
   simp at h3
  refine den_next h2 ?_ trivial
  simp only [E.den, dEq, iEq, sEq, e1, e2, e3, e4]
  rw [ar_add (by omega) (by omega)]; rfl
 ·simp only [E.den, dEq, iEq, sEq, lenD_sl, hml] at h2
  obtain rfl : i = l.length := by simp at h2; omega
  exact den_ret rfl
end Go.Proofs.Ytjmakbnblpjkhaa
