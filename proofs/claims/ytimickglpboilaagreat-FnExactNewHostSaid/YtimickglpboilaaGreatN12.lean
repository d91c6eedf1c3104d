/- Writing marks into memory of one's own: what stays, what the shape of data is, a row of leaves with one cell written. No program in sight. -/
import Derived.Test.YtimickglpboilaaGreatN11
import Derived.Maps.AppendAt
import Derived.Test.YtimickglpboilaaGreatRows
import Derived.JoinedOf
import Derived.KernelRfl
import Derived.Test.YtimickglpboilaaGreatN0
set_option linter.unusedVariables false
set_option linter.unusedSimpArgs false
set_option linter.unusedSectionVars false
set_option maxRecDepth 100000
namespace Go.Proofs.YtimickglpboilaaGreat
open Go.RowKit Go
variable [GC]
def NF (w : World) (B : Nat) : Addr → Prop := fun p => p.block < B ∨ w.frozen? p = true
def Same (u u' : Value) : Prop := u' = u ∨ (∃ s s' : ByteArray, u = .string s ∧ u' = .string s' ∧ s'.size ≤ maxLen) ∨ (∃ (k : IntKind) (n n' : Int), u = .int k n ∧ u' = .int k n' ∧ k.min ≤ n' ∧ n' ≤ k.max) ∨ ∃ b b' : Bool, u = .bool b ∧ u' = .bool b'
theorem Same.trans {a b c : Value} (h : Same a b) (h' : Same b c) : Same a c := by
 rcases h with rfl | ⟨s, s', rfl, rfl, h⟩ | ⟨k, n, n', rfl, rfl, h⟩ | ⟨y, y', rfl, rfl⟩
 ·exact h'
 ·rcases h' with rfl | ⟨t, t', e, rfl, h'⟩ | ⟨k, n, n', e, _⟩ | ⟨y, y', e, _⟩
  ·exact .inr (.inl ⟨s, s', rfl, rfl, h⟩)
  ·exact .inr (.inl ⟨s, t', rfl, rfl, h'⟩)
  ·cases e
  ·cases e
 ·rcases h' with rfl | ⟨t, t', e, _⟩ | ⟨k', m, m', e, rfl, h'⟩ | ⟨y, y', e, _⟩
  ·exact .inr (.inr (.inl ⟨k, n, n', rfl, rfl, h⟩))
  ·cases e
  ·cases e
   exact .inr (.inr (.inl ⟨k, n, m', rfl, rfl, h'⟩))
  ·cases e
 ·rcases h' with rfl | ⟨t, t', e, _⟩ | ⟨k', m, m', e, _⟩ | ⟨z, z', e, rfl⟩
  ·exact .inr (.inr (.inr ⟨y, y', rfl, rfl⟩))
  ·cases e
  ·cases e
  ·exact .inr (.inr (.inr ⟨y, z', rfl, rfl⟩))
structure Alt (A : Addr → Prop) (w w' : World) : Prop where
 size : w.heap.size ≤ w'.heap.size
 fro : ∀ p : Addr, p.block < w.heap.size → w'.frozen? p = w.frozen? p
 keep : ∀ p v, w.cell? p = some v → ¬ A p → w'.cell? p = some v
 same : ∀ p u, w.cell? p = some u → ∃ u', w'.cell? p = some u' ∧ Same u u'
 env : w'.os = w.os ∧ w'.tape = w.tape ∧ w'.output = w.output
 blk : ∀ k, k < w.heap.size → (∀ p : Addr, p.block = k → ¬ A p) → w'.heap[k]? = w.heap[k]?
theorem Alt.refl (A : Addr → Prop) (w : World) : Alt A w w := ⟨Nat.le_refl _, fun _ _ => rfl, fun _ _ h _ => h, fun _ u h => ⟨u, h, .inl rfl⟩, ⟨rfl, rfl, rfl⟩, fun _ _ _ => rfl⟩
theorem Alt.trans {A : Addr → Prop} {w w' w'' : World} (h : Alt A w w') (h' : Alt A w' w'') : Alt A w w'' where
 size := Nat.le_trans h.size h'.size
 fro := fun p hp => by rw [h'.fro p (Nat.lt_of_lt_of_le hp h.size), h.fro p hp]
 keep := fun p v hp ha => h'.keep p v (h.keep p v hp ha) ha
 same := fun p u hp => by
  obtain ⟨u1, h1, h2⟩ := h.same p u hp
  obtain ⟨u2, h3, h4⟩ := h'.same p u1 h1
  exact ⟨u2, h3, h2.trans h4⟩
 env := ⟨h'.env.1.trans h.env.1, h'.env.2.1.trans h.env.2.1, h'.env.2.2.trans h.env.2.2⟩
 blk := fun k hk ha => (h'.blk k (Nat.lt_of_lt_of_le hk h.size) ha).trans (h.blk k hk ha)
theorem Alt.mono {A A' : Addr → Prop} {w w' : World} (h : Alt A w w') (hA : ∀ p, p.block < w.heap.size → A p → A' p) : Alt A' w w' :=
 ⟨h.size, h.fro, fun p v hp ha => h.keep p v hp fun h => ha (hA p (block_lt_of_cell hp) h), h.same, h.env, fun k hk ha => h.blk k hk fun p hp hq => ha p hp (hA p (by rw [hp]; exact hk) hq)⟩
theorem fro_of_block {w w' : World} {p : Addr} (h : w'.heap[p.block]? = w.heap[p.block]?) : w'.frozen? p = w.frozen? p := by
 unfold World.frozen?; rw [h]
theorem Alt.below {A : Addr → Prop} {w w' : World} (h : Below w.heap.size w w') : Alt A w w' :=
 ⟨h.size, fun p hp => fro_of_block (h.block p.block hp), fun p v hp _ => by rw [h.cell (block_lt_of_cell hp)]; exact hp, fun p u hp => ⟨u, by rw [h.cell (block_lt_of_cell hp)]; exact hp, .inl rfl⟩, ⟨h.os, h.tape, h.output⟩, fun k hk _ => h.block k hk⟩
theorem cell_set_ne {w : World} {a p : Addr} {v : Value} (h : p ≠ a) (hs : a.spot = none) (hp : p.spot = none ∨ True) : (w.setCell a v).cell? p = w.cell? p ∨ (p.block = a.block ∧ p.off = a.off) := by
 by_cases hb : p.block = a.block
 ·by_cases ho : p.off = a.off
  ·exact .inr ⟨hb, ho⟩
  ·left
   unfold World.cell? World.setCell
   rw [hb]
   simp only [Array.getElem?_modify]
   cases hw : w.heap[a.block]? with
   | none => simp
   | some x =>
    cases x with
    | cells c e f =>
     simp only [hs, Option.isSome_none, Option.map_some, if_true]
     split
     ·rfl
     ·simp [Array.getElem?_setIfInBounds, Ne.symm ho]
    | _ => simp
 ·left
  exact World.cell?_of_block (Below.heap_setCell _ _ _ _ hb)
theorem cell_spot {w : World} {p : Addr} {v : Value} (h : w.cell? p = some v) : p.spot = none := by
 unfold World.cell? at h
 split at h
 ·split at h
  ·cases h
  ·rename_i hs; simpa using hs
 ·cases h
theorem cell_at {w : World} {a : Addr} {u v : Value} (h : w.cell? a = some u) : (w.setCell a v).cell? a = some v := by
 have hs := cell_spot h
 unfold World.cell? World.setCell at *
 simp only [Array.getElem?_modify, if_true]
 cases hw : w.heap[a.block]? with
 | none => rw [hw] at h; cases h
 | some x =>
  rw [hw] at h
  cases x with
  | cells c e f =>
   simp only [hs, Option.isSome_none, Bool.false_eq_true, if_false, Option.map_some] at h ⊢
   have := (Array.getElem?_eq_some_iff.1 h).1
   simp [Array.getElem?_setIfInBounds, this]
  | _ => cases h
theorem size_setCell (w : World) (a : Addr) (v : Value) : (w.setCell a v).heap.size = w.heap.size := by unfold World.setCell; simp
theorem fro_setCell (w : World) (a p : Addr) (v : Value) : (w.setCell a v).frozen? p = w.frozen? p := by
 unfold World.frozen? World.setCell
 simp only [Array.getElem?_modify]
 by_cases hb : a.block = p.block
 ·simp only [hb, if_true]
  cases hw : w.heap[p.block]? with
  | none => simp
  | some x => cases x <;> simp
 ·simp [hb]
theorem Alt.set {A : Addr → Prop} {w : World} {a : Addr} {u v : Value} (hA : A a) (h : w.cell? a = some u) (hs : Same u v) : Alt A w (w.setCell a v) := by
 have hsp := cell_spot h
 refine ⟨by rw [size_setCell]; exact Nat.le_refl _, fun p _ => fro_setCell _ _ _ _, fun p x hp ha => ?_, fun p x hp => ?_, ⟨rfl, rfl, rfl⟩, fun k _ ha => Below.heap_setCell _ _ _ _ fun e => ha a e.symm hA⟩
 ·rcases cell_set_ne (w := w) (v := v) (p := p) (a := a) (fun e => ha (by rw [e]; exact hA)) hsp (.inr trivial) with h1 | ⟨h1, h2⟩
  ·rw [h1]; exact hp
  ·have h3 := cell_spot hp
   have : p = a := by cases p; cases a; simp_all
   exact absurd (this.symm ▸ hA) ha
 ·by_cases e : p = a
  ·subst e
   rw [h] at hp; cases hp
   exact ⟨v, cell_at h, hs⟩
  ·rcases cell_set_ne (w := w) (v := v) (p := p) (a := a) e hsp (.inr trivial) with h1 | ⟨h1, h2⟩
   ·exact ⟨x, by rw [h1]; exact hp, .inl rfl⟩
   ·have h3 := cell_spot hp
    exact absurd (by cases p; cases a; simp_all) e
theorem Alt.keeps {A M M' : Addr → Prop} {w w' : World} (h : Alt A w w') (hA : ∀ p, A p → M p) (hM : ∀ p, p.block < w.heap.size → M' p → M p) : Keeps w M w' M' :=
 fun p v hp hn => ⟨h.keep p v hp fun ha => hn (hA p ha), fun hm => hn (hM p (block_lt_of_cell hp) hm)⟩
theorem R.up {w : World} {M : Addr → Prop} {d : D} {v : Value} (h : R w M d v) : R w (fun p => M p ∨ w.heap.size ≤ p.block) d v :=
 R.keep (fun p v hp hn => ⟨hp, fun hm => hm.elim hn fun h => by have := block_lt_of_cell hp; omega⟩) d v h
theorem R.less {w : World} {M M' : Addr → Prop} {d : D} {v : Value} (h : R w M d v) (hM : ∀ p, M' p → M p) : R w M' d v :=
 R.keep (fun p v hp hn => ⟨hp, fun hm => hn (hM p hm)⟩) d v h
mutual
def Sh : D → D → Prop
 | .str _, d' => ∃ s, d' = .str s
 | .int k _, d' => ∃ n, d' = .int k n
 | .sl rows, d' => ∃ rows', d' = .sl rows' ∧ ShR rows rows'
 | .agg l, d' => ∃ l', d' = .agg l' ∧ ShL l l'
 | .tup l, d' => ∃ l', d' = .tup l' ∧ ShL l l'
 | .fn f caps, d' => ∃ caps', d' = .fn f caps' ∧ ShR caps caps'
 | .bool _, d' => ∃ b, d' = .bool b
 | .mem n, d' => d' = .mem n
 | .un, d' => d' = .un
def ShL : List D → List D → Prop
 | [], l' => l' = []
 | d :: l, l' => ∃ d' r', l' = d' :: r' ∧ Sh d d' ∧ ShL l r'
def ShR : List (List D) → List (List D) → Prop
 | [], l' => l' = []
 | r :: l, l' => ∃ d' r', l' = d' :: r' ∧ ShL r d' ∧ ShR l r'
end
theorem ShL.length : ∀ {l l' : List D}, ShL l l' → l'.length = l.length
 | [], _, h => by subst h; rfl
 | _ :: l, _, ⟨_, _, e, _, h⟩ => by subst e; simp [ShL.length h]
theorem ShR.length : ∀ {l l' : List (List D)}, ShR l l' → l'.length = l.length
 | [], _, h => by subst h; rfl
 | _ :: l, _, ⟨_, _, e, _, h⟩ => by subst e; simp [ShR.length h]
theorem sh_val {w : World} {M : Addr → Prop} : ∀ {d : D} {u u' : Value}, R w M d u → Same u u' → u' = u ∨ ∃ d', Sh d d' ∧ ∀ (w' : World) (M' : Addr → Prop), R w' M' d' u'
 | d, u, u', hr, h => by
  rcases h with rfl | ⟨s, s', rfl, rfl, h⟩ | ⟨k, n, n', rfl, rfl, h⟩ | ⟨y, y', rfl, rfl⟩
  ·exact .inl rfl
  ·right
   cases d with
   | str t => exact ⟨.str s', ⟨_, rfl⟩, fun _ _ => ⟨rfl, h⟩⟩
   | bool b => cases (show Value.string s = .bool b from hr)
   | int k n => cases hr.1
   | agg l => obtain ⟨cs, e, _⟩ := hr; cases e
   | tup l => obtain ⟨cs, e, _⟩ := hr; cases e
   | sl rows => obtain ⟨a, len, cap, e, _⟩ := hr; cases e
   | mem n => obtain ⟨a, cap, e, _⟩ := hr; cases e
   | fn f c => obtain ⟨ps, e, _⟩ := hr; cases e
   | un => exact hr.elim
  ·right
   cases d with
   | str t => cases hr.1
   | bool b => cases (show Value.int k n = .bool b from hr)
   | int k2 m =>
    cases hr.1
    exact ⟨.int k n', ⟨_, rfl⟩, fun _ _ => ⟨rfl, h⟩⟩
   | agg l => obtain ⟨cs, e, _⟩ := hr; cases e
   | tup l => obtain ⟨cs, e, _⟩ := hr; cases e
   | sl rows => obtain ⟨a, len, cap, e, _⟩ := hr; cases e
   | mem n => obtain ⟨a, cap, e, _⟩ := hr; cases e
   | fn f c => obtain ⟨ps, e, _⟩ := hr; cases e
   | un => exact hr.elim
  ·right
   cases d with
   | str t => cases hr.1
   | bool b => exact ⟨.bool y', ⟨_, rfl⟩, fun _ _ => rfl⟩
   | int k n => cases hr.1
   | agg l => obtain ⟨cs, e, _⟩ := hr; cases e
   | tup l => obtain ⟨cs, e, _⟩ := hr; cases e
   | sl rows => obtain ⟨a, len, cap, e, _⟩ := hr; cases e
   | mem n => obtain ⟨a, cap, e, _⟩ := hr; cases e
   | fn f c => obtain ⟨ps, e, _⟩ := hr; cases e
   | un => exact hr.elim
section
variable {w w' : World} {A M M' : Addr → Prop}
mutual
theorem R.shape (h : Alt A w w') (hM : ∀ p, p.block < w.heap.size → M' p → M p) : ∀ (d : D) (v : Value), R w M d v → ∃ d', Sh d d' ∧ R w' M' d' v
 | .bool b, _, hr => ⟨.bool b, ⟨_, rfl⟩, hr⟩
 | .int k n, _, hr => ⟨.int k n, ⟨_, rfl⟩, hr⟩
 | .str s, _, hr => ⟨.str s, ⟨_, rfl⟩, hr⟩
 | .agg l, v, ⟨cs, e, hr⟩ => by
  obtain ⟨l', h1, h2⟩ := Rs.shape h hM l _ hr
  exact ⟨.agg l', ⟨_, rfl, h1⟩, cs, e, h2⟩
 | .tup l, v, ⟨cs, e, hr⟩ => by
  obtain ⟨l', h1, h2⟩ := Rs.shape h hM l _ hr
  exact ⟨.tup l', ⟨_, rfl, h1⟩, cs, e, h2⟩
 | .sl rows, v, ⟨a, len, cap, e, h1, h2, h3, h4, h5⟩ => by
  rcases a with _ | ⟨b, o, s⟩
  ·have : rows = [] := List.eq_nil_of_length_eq_zero (by have := h4 rfl; omega)
   subst this
   exact ⟨.sl [], ⟨_, rfl, rfl⟩, none, len, cap, e, h1, h2, h3, h4, fun b o s ha => by cases ha⟩
  ·obtain ⟨rows', q1, q2⟩ := Rws.shape h hM rows b o (h5 b o s rfl).2
   refine ⟨.sl rows', ⟨_, rfl, q1⟩, _, len, cap, e, by rw [q1.length]; exact h1, h2, h3, h4, fun b' o' s' ha => ?_⟩
   cases ha
   exact ⟨(h5 b o s rfl).1, q2⟩
 | .mem n, _, hr => ⟨.mem n, rfl, hr⟩
 | .fn f caps, v, ⟨ps, e, hr⟩ => by
  obtain ⟨c', h1, h2⟩ := Rps.shape h hM caps _ hr
  exact ⟨.fn f c', ⟨_, rfl, h1⟩, ps, e, h2⟩
 | .un, _, hr => hr.elim
theorem Rs.shape (h : Alt A w w') (hM : ∀ p, p.block < w.heap.size → M' p → M p) : ∀ (l : List D) (vs : List Value), Rs w M l vs → ∃ l', ShL l l' ∧ Rs w' M' l' vs
 | [], _, hr => ⟨[], rfl, hr⟩
 | d :: l, vs, ⟨v, r, e, h1, h2⟩ => by
  obtain ⟨d', q1, q2⟩ := R.shape h hM d v h1
  obtain ⟨l', q3, q4⟩ := Rs.shape h hM l r h2
  exact ⟨d' :: l', ⟨_, _, rfl, q1, q3⟩, v, r, e, q2, q4⟩
theorem Rw.shape (h : Alt A w w') (hM : ∀ p, p.block < w.heap.size → M' p → M p) : ∀ (l : List D) (b o : Nat), Rw w M l b o → ∃ l', ShL l l' ∧ Rw w' M' l' b o
 | [], _, _, _ => ⟨[], rfl, trivial⟩
 | d :: l, b, o, ⟨⟨v, h1, h2, h3⟩, h4⟩ => by
  obtain ⟨l', q3, q4⟩ := Rw.shape h hM l b (o + 1) h4
  obtain ⟨u', q5, q6⟩ := h.same _ _ h1
  have hn : ¬ M' ⟨b, o, none⟩ := fun hm => h2 (hM ⟨b, o, none⟩ (block_lt_of_cell h1) hm)
  obtain ⟨d0, q1, q2⟩ := R.shape h hM d v h3
  rcases sh_val h3 q6 with rfl | ⟨d', q7, q8⟩
  ·exact ⟨d0 :: l', ⟨_, _, rfl, q1, q3⟩, ⟨_, q5, hn, q2⟩, q4⟩
  ·exact ⟨d' :: l', ⟨_, _, rfl, q7, q3⟩, ⟨_, q5, hn, q8 _ _⟩, q4⟩
theorem Rws.shape (h : Alt A w w') (hM : ∀ p, p.block < w.heap.size → M' p → M p) : ∀ (l : List (List D)) (b o : Nat), Rws w M l b o → ∃ l', ShR l l' ∧ Rws w' M' l' b o
 | [], _, _, _ => ⟨[], rfl, trivial⟩
 | r :: l, b, o, ⟨h1, h2⟩ => by
  obtain ⟨r', q1, q2⟩ := Rw.shape h hM r b o h1
  obtain ⟨l', q3, q4⟩ := Rws.shape h hM l b (o + r.length) h2
  exact ⟨r' :: l', ⟨_, _, rfl, q1, q3⟩, q2, by rw [q1.length]; exact q4⟩
theorem Rps.shape (h : Alt A w w') (hM : ∀ p, p.block < w.heap.size → M' p → M p) : ∀ (l : List (List D)) (vs : List Value), Rps w M l vs → ∃ l', ShR l l' ∧ Rps w' M' l' vs
 | [], _, hr => ⟨[], rfl, hr⟩
 | r :: l, vs, ⟨b, q, e, h1, h2⟩ => by
  obtain ⟨r', q1, q2⟩ := Rw.shape h hM r b 0 h1
  obtain ⟨l', q3, q4⟩ := Rps.shape h hM l q h2
  exact ⟨r' :: l', ⟨_, _, rfl, q1, q3⟩, b, q, e, q2, q4⟩
end
end
/-! Rows of leaves -/
def leafD : D → Bool
 | .bool _ | .int _ _ | .str _ => true
 | _ => false
theorem leaf_move {w w' : World} {M M' : Addr → Prop} {d : D} {v : Value} (hl : leafD d = true) (h : R w M d v) : R w' M' d v := by
 cases d <;> simp [leafD] at hl <;> exact h
theorem flat_cells {w : World} {M : Addr → Prop} {rows : List (List D)} {n b o len cap : Nat} {s : Option Nat} (hn : ∀ r ∈ rows, r.length = n) (h : R w M (.sl rows) (.slice (some ⟨b, o, s⟩) len cap)) {i j : Nat} {r : List D} {d : D} (hi : rows[i]? = some r) (hj : r[j]? = some d) :
  ∃ u, w.cell? ⟨b, o + i * n + j, none⟩ = some u ∧ ¬ M ⟨b, o + i * n + j, none⟩ ∧ R w M d u := by
 obtain ⟨a, len', cap', e, h1, h2, h3, h4, h5⟩ := h
 cases e
 exact ((h5 b o s rfl).2.get hn hi).get hj
theorem flat_of {w : World} {M : Addr → Prop} {rows : List (List D)} {n b o len cap : Nat} {s : Option Nat} (hn : ∀ r ∈ rows, r.length = n) (h1 : len = rows.length) (h2 : len ≤ cap) (h3 : cap ≤ maxLen) (h4 : 0 < len → s = none)
  (hc : ∀ (i j : Nat) (r : List D) (d : D), rows[i]? = some r → r[j]? = some d → ∃ u, w.cell? ⟨b, o + i * n + j, none⟩ = some u ∧ ¬ M ⟨b, o + i * n + j, none⟩ ∧ R w M d u) : R w M (.sl rows) (.slice (some ⟨b, o, s⟩) len cap) := by
 refine ⟨_, _, _, rfl, h1, h2, h3, (fun e => by cases e), fun b' o' s' e => ?_⟩
 cases e
 exact ⟨h4, Rws.of hn fun i r hr => Rw.of fun j d hd => hc i j r d hr hd⟩
theorem flat_set {w : World} {M : Addr → Prop} {rows : List (List D)} {n b o len cap i j : Nat} {s : Option Nat} {r : List D} {x : D} {u : Value} (hn : ∀ r ∈ rows, r.length = n) (hlf : ∀ r ∈ rows, ∀ d ∈ r, leafD d = true)
  (h : R w M (.sl rows) (.slice (some ⟨b, o, s⟩) len cap)) (hi : rows[i]? = some r) (hj : j < n) (hx : ∀ (w : World) (M : Addr → Prop), R w M x u) :
  R (w.setCell ⟨b, o + i * n + j, none⟩ u) M (.sl (rows.set i (r.set j x))) (.slice (some ⟨b, o, s⟩) len cap) := by
 have hr := hn r (List.mem_of_getElem? hi)
 have hlt := (List.getElem?_eq_some_iff.1 hi).1
 have h0 := h
 obtain ⟨a, len', cap', e, h1, h2, h3, h4, h5⟩ := h
 cases e
 refine flat_of (n := n) (fun r' hr' => ?_) (by simpa using h1) h2 h3 (h5 b o s rfl).1 fun i' j' r' d hi' hj' => ?_
 ·rcases List.mem_or_eq_of_mem_set hr' with h | rfl
  ·exact hn r' h
  ·simpa using hr
 ·have hr'l : r'.length = n := by
   have := List.mem_of_getElem? hi'
   rcases List.mem_or_eq_of_mem_set this with h | rfl
   ·exact hn r' h
   ·simpa using hr
  have hj'n : j' < n := by rw [← hr'l]; exact (List.getElem?_eq_some_iff.1 hj').1
  by_cases hij : i' = i ∧ j' = j
  ·obtain ⟨rfl, rfl⟩ := hij
   obtain ⟨d0, hd0⟩ : ∃ d0, r[j']? = some d0 := ⟨_, List.getElem?_eq_getElem (by omega)⟩
   obtain ⟨u0, c1, c2, c3⟩ := flat_cells hn h0 hi hd0
   rw [List.getElem?_set_self hlt] at hi'
   cases hi'
   rw [List.getElem?_set_self (by omega)] at hj'
   cases hj'
   exact ⟨u, cell_at c1, c2, hx _ _⟩
  ·have hold : ∃ r0, rows[i']? = some r0 ∧ r0[j']? = some d := by
    by_cases e : i' = i
    ·subst e
     rw [List.getElem?_set_self hlt] at hi'
     cases hi'
     refine ⟨r, hi, ?_⟩
     rwa [List.getElem?_set_ne (fun e => hij ⟨rfl, e.symm⟩)] at hj'
    ·rw [List.getElem?_set_ne (fun e' => e e'.symm)] at hi'
     exact ⟨r', hi', hj'⟩
   obtain ⟨r0, q1, q2⟩ := hold
   obtain ⟨u0, c1, c2, c3⟩ := flat_cells hn h0 q1 q2
   refine ⟨u0, ?_, c2, leaf_move (hlf r0 (List.mem_of_getElem? q1) d (List.mem_of_getElem? q2)) c3⟩
   have hne : o + i' * n + j' ≠ o + i * n + j := by
    intro e
    have e2 : i' * n + j' = i * n + j := by omega
    have h6 : i' = i := by
     have h7 : (i' * n + j') / n = (i * n + j) / n := by rw [e2]
     rwa [Nat.mul_comm i', Nat.mul_comm i, Nat.mul_add_div (by omega), Nat.mul_add_div (by omega), Nat.div_eq_of_lt hj'n, Nat.div_eq_of_lt hj, Nat.add_zero, Nat.add_zero] at h7
    subst h6
    exact hij ⟨rfl, by omega⟩
   rcases cell_set_ne (w := w) (v := u) (p := ⟨b, o + i' * n + j', none⟩) (a := ⟨b, o + i * n + j, none⟩) (fun e => hne (congrArg Addr.off e)) rfl (.inr trivial) with h7 | ⟨_, h7⟩
   ·rw [h7]; exact c1
   ·exact absurd h7 hne
theorem Fun.calls {P : Program} {f : FuncId} {ds : List D} {r : D} (h : Fun P f none ds r []) {w : World} {M : Addr → Prop} {vs : List Value} (hG : Rdy w M) (hr : Rs w M ds vs) :
  Calls P f vs.toArray w fun e w' => ∃ v, e = .returned v ∧ R w' M r v ∧ Below w.heap.size w w' :=
 (h.2 w M 0 vs hG hr (fun cs h => by cases h)).mono fun e w' ⟨v, h1, h2, h3, _⟩ => ⟨v, h1, h2, h3.to_below⟩
theorem store_run {P : Program} {w : World} {a : Addr} {u v : Value} (h : w.cell? a = some u) (hf : w.frozen? a = false) (hone : v.oneCell' = true) : (store a v).run P w = .ok () (w.setCell a v) := by
 rw [run_store P w a v .plain hone, h, hf]; rfl
theorem Alt.to_below {A : Addr → Prop} {w w' : World} {B : Nat} (h : Alt A w w') (hB : B ≤ w.heap.size) (hA : ∀ p, A p → B ≤ p.block) : Below B w w' :=
 ⟨h.env.1, h.env.2.1, h.env.2.2, h.size, fun k hk => h.blk k (Nat.lt_of_lt_of_le hk hB) fun p hp ha => by have := hA p ha; omega⟩
theorem up_alt {A : Addr → Prop} {w w' : World} {h : Nat} {d : D} {v : Value} (hr : R w (fun p => h ≤ p.block) d v) (ha : Alt A w w') (hA : ∀ p, A p → h ≤ p.block) : R w' (fun p => h ≤ p.block) d v :=
 R.keep (ha.keeps hA fun _ _ hm => hm) _ _ hr
theorem up_keep {w w' : World} {h : Nat} {d : D} {v : Value} (hr : R w (fun p => h ≤ p.block) d v) (hb : Below w.heap.size w w') : R w' (fun p => h ≤ p.block) d v :=
 R.keep (Keeps.below hb fun _ _ hm => hm) _ _ hr
theorem R.zero {w : World} {M : Addr → Prop} {d : D} {v : Value} (hr : R w M d v) : R w (fun _ => False) d v := R.less hr fun _ h => h.elim
theorem R.over {w : World} {d : D} {v : Value} (hr : R w (fun _ => False) d v) : R w (fun p => w.heap.size ≤ p.block) d v := R.less (R.up hr) fun _ h => .inr h
/-! Rows by a function -/
def rowsM (n : Nat) (f : Nat → List D) : List (List D) := (List.range n).map f
theorem rowsM_len (n : Nat) (f : Nat → List D) : (rowsM n f).length = n := by simp [rowsM]
theorem rowsM_get {n : Nat} {f : Nat → List D} {i : Nat} (h : i < n) : (rowsM n f)[i]? = some (f i) := by simp [rowsM, h]
theorem rowsM_set {n : Nat} {f : Nat → List D} {i : Nat} {x : List D} : (rowsM n f).set i x = rowsM n (fun a => if a = i then x else f a) := by
 apply List.ext_getElem?
 intro j
 rw [List.getElem?_set]
 by_cases hj : j < n
 ·by_cases e : i = j
  ·subst e; simp [rowsM, hj]
  ·rw [if_neg e]
   simp [rowsM, hj]
   intro h; exact absurd h.symm e
 ·by_cases e : i = j
  ·subst e
   rw [if_pos rfl, if_neg (by simp [rowsM]; omega), List.getElem?_eq_none (by simp [rowsM]; omega)]
  ·rw [if_neg e, List.getElem?_eq_none (by simp [rowsM]; omega), List.getElem?_eq_none (by simp [rowsM]; omega)]
theorem rowsM_congr {n : Nat} {f g : Nat → List D} (h : ∀ a, a < n → f a = g a) : rowsM n f = rowsM n g := by
 unfold rowsM
 exact List.map_congr_left fun a ha => h a (by simpa using ha)
theorem rowsM_map {α : Type} [Enc α] (l : List α) : l.map Enc.cells = rowsM l.length fun a => Enc.cells (nth l a) := by
 apply List.ext_getElem
 ·simp [rowsM]
 ·intro i h1 h2
  have hi : i < l.length := by simpa using h1
  simp [rowsM, nth, List.getD_eq_getElem?_getD, hi]
theorem rowsM_mem {n : Nat} {f : Nat → List D} {r : List D} (h : r ∈ rowsM n f) : ∃ a, a < n ∧ r = f a := by
 unfold rowsM at h
 obtain ⟨a, ha, rfl⟩ := List.mem_map.1 h
 exact ⟨a, by simpa using ha, rfl⟩
/-! The shape of entries -/
structure Lens (l l' : List Entry) : Prop where
 len : l'.length = l.length
 rcp : ∀ a, a < l.length → (nth l' a).recipe.length = (nth l a).recipe.length
 nds : ∀ a, a < l.length → (nth l' a).needs.length = (nth l a).needs.length
theorem Lens.refl (l : List Entry) : Lens l l := ⟨rfl, fun _ _ => rfl, fun _ _ => rfl⟩
theorem sh_str : ∀ {l : List ByteArray} {rows : List (List D)}, ShR (l.map Enc.cells) rows → ∃ l' : List ByteArray, rows = l'.map Enc.cells ∧ l'.length = l.length
 | [], rows, h => by
  have h : rows = [] := h
  subst h; exact ⟨[], rfl, rfl⟩
 | s :: l, rows, h => by
  obtain ⟨d', r', rfl, ⟨x, y, rfl, ⟨s', rfl⟩, hy⟩, h2⟩ := (show ∃ d' r', rows = d' :: r' ∧ ShL (Enc.cells s) d' ∧ ShR (l.map Enc.cells) r' from h)
  have hy : y = [] := hy
  subst hy
  obtain ⟨l', rfl, h3⟩ := sh_str h2
  exact ⟨s' :: l', rfl, by simp [h3]⟩
theorem sh_need : ∀ {l : List Need} {rows : List (List D)}, ShR (l.map Enc.cells) rows → ∃ l' : List Need, rows = l'.map Enc.cells ∧ l'.length = l.length
 | [], rows, h => by
  have h : rows = [] := h
  subst h; exact ⟨[], rfl, rfl⟩
 | s :: l, rows, h => by
  obtain ⟨d', r', rfl, ⟨x1, y1, rfl, ⟨n1, rfl⟩, x2, y2, rfl, ⟨n2, rfl⟩, x3, y3, rfl, ⟨n3, rfl⟩, x4, y4, rfl, ⟨n4, rfl⟩, hy⟩, h2⟩ := (show ∃ d' r', rows = d' :: r' ∧ ShL (Enc.cells s) d' ∧ ShR (l.map Enc.cells) r' from h)
  have hy : y4 = [] := hy
  subst hy
  obtain ⟨l', rfl, h3⟩ := sh_need h2
  exact ⟨⟨n1, n2, ⟨n3, n4⟩⟩ :: l', rfl, by simp [h3]⟩
theorem sh_entry : ∀ {l : List Entry} {rows : List (List D)}, ShR (l.map Enc.cells) rows → ∃ l' : List Entry, rows = l'.map Enc.cells ∧ Lens l l'
 | [], rows, h => by
  have h : rows = [] := h
  subst h; exact ⟨[], rfl, Lens.refl _⟩
 | e :: l, rows, h => by
  obtain ⟨d', r', rfl, ⟨x1, y1, rfl, ⟨n1, rfl⟩, x2, y2, rfl, ⟨rr, rfl, hr⟩, x3, y3, rfl, ⟨n3, rfl⟩, x4, y4, rfl, ⟨n4, rfl⟩, x5, y5, rfl, ⟨rn, rfl, hn⟩, hy⟩, h2⟩ := (show ∃ d' r', rows = d' :: r' ∧ ShL (Enc.cells e) d' ∧ ShR (l.map Enc.cells) r' from h)
  have hy : y5 = [] := hy
  subst hy
  obtain ⟨rc, rfl, hrc⟩ := sh_str hr
  obtain ⟨nd, rfl, hnd⟩ := sh_need hn
  obtain ⟨l', rfl, h3⟩ := sh_entry h2
  refine ⟨⟨n1, rc, ⟨n3, n4⟩, nd⟩ :: l', rfl, by simp [h3.len], fun a ha => ?_, fun a ha => ?_⟩
  ·cases a with
   | zero => exact hrc
   | succ a => exact h3.rcp a (by simpa using ha)
  ·cases a with
   | zero => exact hnd
   | succ a => exact h3.nds a (by simpa using ha)
theorem Alt.entriesF {A M : Addr → Prop} {w w' : World} {l : List Entry} {v : Value} (h : Alt A w w') (hr : R w M (encS l) v) (hF : ∀ p, w.frozen? p = true → M p) : ∃ l', Lens l l' ∧ R w' (fun p => M p ∨ w'.frozen? p = true) (encS l') v := by
 obtain ⟨d', h1, h2⟩ := R.shape h (M' := fun p => M p ∨ w'.frozen? p = true) (fun p hp hm => hm.elim id fun hf => hF p (by rw [← h.fro p hp]; exact hf)) _ _ hr
 obtain ⟨rows, rfl, h3⟩ := (show ∃ rows', d' = .sl rows' ∧ ShR (l.map Enc.cells) rows' from h1)
 obtain ⟨l', rfl, h4⟩ := sh_entry h3
 exact ⟨l', h4, h2⟩
end Go.Proofs.YtimickglpboilaaGreat
/- Rows that grow by appends, cell by cell: a cell may hold a flat row that lies in a block of its own. How such rows read; what is left of them where a cell or a row within is written. -/
namespace Go.Proofs.YtimickglpboilaaGreat
open Go.RowKit Go
variable [GC]
def CellIn (B : Nat) (w : World) (d : D) (u : Value) : Option Nat → Prop
 | some r => B ≤ r ∧ r < w.heap.size ∧ R w (fun p => p.block ≠ r ∨ w.frozen? p = true) d u
 | none => R w (fun _ => True) d u
theorem CellIn.keep {B : Nat} {w w' : World} {d : D} {u : Value} {r : Option Nat} (h : CellIn B w d u r) (hs : w.heap.size ≤ w'.heap.size) (hk : ∀ p v, w.cell? p = some v → r = some p.block → w'.cell? p = some v) (hf : ∀ p : Addr, p.block < w.heap.size → r = some p.block → w'.frozen? p = w.frozen? p) : CellIn B w' d u r := by
 cases r with
 | none => exact R.keep (fun p v hp hn => absurd trivial hn) _ _ h
 | some r =>
  obtain ⟨h1, h2, h3⟩ := h
  refine ⟨h1, by omega, R.keep (fun p v hp hn => ?_) _ _ h3⟩
  have hpb : p.block = r := Classical.byContradiction fun e => hn (.inl e)
  exact ⟨hk p v hp (by rw [hpb]), fun hm => hn (hm.imp id fun e => by rw [← hf p (block_lt_of_cell hp) (by rw [hpb])]; exact e)⟩
theorem CellIn.blk {B : Nat} {w w' : World} {d : D} {u : Value} {r : Option Nat} (h : CellIn B w d u r) (hs : w.heap.size ≤ w'.heap.size) (hk : ∀ x, r = some x → x < w.heap.size → w'.heap[x]? = w.heap[x]?) : CellIn B w' d u r :=
 h.keep hs (fun p v hp e => by rw [World.cell?_of_block (hk _ e (block_lt_of_cell hp))]; exact hp) fun p hp e => fro_of_block (hk _ e hp)
theorem CellIn.low {B B' : Nat} {w : World} {d : D} {u : Value} {r : Option Nat} (h : CellIn B w d u r) (hB : B' ≤ B) : CellIn B' w d u r := by
 cases r with
 | none => exact h
 | some r => exact ⟨Nat.le_trans hB h.1, h.2⟩
theorem CellIn.le {B : Nat} {w : World} {d : D} {u : Value} {r : Option Nat} (h : CellIn B w d u r) {x : Nat} (e : r = some x) : B ≤ x ∧ x < w.heap.size := by
 subst e; exact ⟨h.1, h.2.1⟩
theorem CellIn.read {B : Nat} {w : World} {d : D} {u : Value} {r : Option Nat} (h : CellIn B w d u r) : R w (fun _ => False) d u := by
 cases r with
 | none => exact R.less h fun _ h => h.elim
 | some r => exact R.less h.2.2 fun _ h => h.elim
theorem CellIn.leaf {B : Nat} {w w1 : World} {M : Addr → Prop} {d : D} {u : Value} (hl : leafD d = true) (h : R w1 M d u) : CellIn B w d u none := leaf_move hl h
theorem cellIn_of {B n : Nat} {w : World} {M : Addr → Prop} {rows : List (List D)} {u : Value} (hr : R w M (.sl rows) u) (hn : ∀ r ∈ rows, r.length = n) (hlf : ∀ r ∈ rows, ∀ d ∈ r, leafD d = true) (hl : LiveAt B w u n) :
  ∃ r, CellIn B w (.sl rows) u r ∧ ∀ x, r = some x → ∃ o s len cap, u = .slice (some ⟨x, o, s⟩) len cap ∧ 0 < cap := by
 have hr0 := hr
 obtain ⟨a, len, cap, rfl, h1, h2, h3, h4, h5⟩ := hr
 by_cases hc : 0 < cap
 ·rcases a with _ | ⟨b, o, s⟩
  ·have := h4 rfl; omega
  ·refine ⟨some b, ?_, fun x hx => by cases hx; exact ⟨o, s, len, cap, rfl, hc⟩⟩
   obtain ⟨_, q2, cells, T, q3, _⟩ := hl b o s len cap rfl hc
   refine ⟨q2, (Array.getElem?_eq_some_iff.1 q3).1, flat_of hn h1 h2 h3 (h5 b o s rfl).1 fun i j r d hi hj => ?_⟩
   obtain ⟨v, c1, c2, c3⟩ := flat_cells hn hr0 hi hj
   refine ⟨v, c1, fun hm => ?_, leaf_move (hlf r (List.mem_of_getElem? hi) d (List.mem_of_getElem? hj)) c3⟩
   rcases hm with hm | hm
   ·exact hm rfl
   ·unfold World.frozen? at hm; rw [q3] at hm; simp at hm
 ·refine ⟨none, ?_, fun x hx => by cases hx⟩
  have : rows = [] := List.eq_nil_of_length_eq_zero (by omega)
  subst this
  exact ⟨a, len, cap, rfl, h1, h2, h3, h4, fun b o s e => ⟨(h5 b o s e).1, trivial⟩⟩
structure GR (B : Nat) (w : World) (ob : Option Nat) (ds : List D) (xs : List Value) (ow : Nat → Option Nat) : Prop where
 xl : xs.length = ds.length
 ce : ∀ i d u, ds[i]? = some d → xs[i]? = some u → CellIn B w d u (ow i)
 ne : ∀ i x, i < ds.length → ow i = some x → ob ≠ some x
 ap : ∀ i j x, i < ds.length → j < ds.length → i ≠ j → ow i = some x → ow j ≠ some x
section
variable {B : Nat} {w w' : World} {ob ob' : Option Nat} {ds ds' : List D} {xs xs' : List Value} {ow ow' : Nat → Option Nat}
theorem GR.nil : GR B w ob [] [] ow := ⟨rfl, fun i d u h => by simp at h, fun i x h => by simp at h, fun i j x h => by simp at h⟩
theorem GR.has (h : GR B w ob ds xs ow) {i : Nat} (hi : i < ds.length) : ∃ d u, ds[i]? = some d ∧ xs[i]? = some u ∧ CellIn B w d u (ow i) :=
 ⟨ds[i], xs[i]'(by rw [h.xl]; exact hi), List.getElem?_eq_getElem hi, List.getElem?_eq_getElem _, h.ce i _ _ (List.getElem?_eq_getElem hi) (List.getElem?_eq_getElem _)⟩
theorem GR.le (h : GR B w ob ds xs ow) {i x : Nat} (hi : i < ds.length) (e : ow i = some x) : B ≤ x ∧ x < w.heap.size := by
 obtain ⟨d, u, _, _, hc⟩ := h.has hi
 exact hc.le e
theorem GR.move (h : GR B w ob ds xs ow) (hs : w.heap.size ≤ w'.heap.size) (hk : ∀ k, k < w.heap.size → some k ≠ ob → w'.heap[k]? = w.heap[k]?) (hnew : ob' = ob ∨ ∀ x, ob' = some x → w.heap.size ≤ x) : GR B w' ob' ds xs ow :=
 { h with
  ce := fun i d u hd hu => (h.ce i d u hd hu).blk hs fun x e hx => hk x hx fun e2 => h.ne i x (List.getElem?_eq_some_iff.1 hd).1 e e2.symm
  ne := fun i x hi e => by
   rcases hnew with rfl | hnew
   ·exact h.ne i x hi e
   ·intro e2
    have h1 := hnew x e2
    have := (h.le hi e).2
    omega }
theorem GR.low {B' : Nat} (h : GR B w ob ds xs ow) (hB : B' ≤ B) : GR B' w ob ds xs ow := { h with ce := fun i d u hd hu => (h.ce i d u hd hu).low hB }
theorem GR.app (h : GR B w ob ds xs ow) (h' : GR B w ob ds' xs' ow') (hx : ∀ i j x, i < ds.length → j < ds'.length → ow i = some x → ow' j ≠ some x) :
  GR B w ob (ds ++ ds') (xs ++ xs') (fun i => if i < ds.length then ow i else ow' (i - ds.length)) := by
 have lo : ∀ {i : Nat}, i < ds.length → (ds ++ ds')[i]? = ds[i]? ∧ (xs ++ xs')[i]? = xs[i]? := fun hi => ⟨List.getElem?_append_left hi, List.getElem?_append_left (by rw [h.xl]; exact hi)⟩
 have hi' : ∀ {i : Nat}, ¬ i < ds.length → (ds ++ ds')[i]? = ds'[i - ds.length]? ∧ (xs ++ xs')[i]? = xs'[i - ds.length]? := fun hi => ⟨List.getElem?_append_right (by omega), by rw [← h.xl]; exact List.getElem?_append_right (by rw [h.xl]; omega)⟩
 refine ⟨by simp [h.xl, h'.xl], fun i d u hd hu => ?_, fun i x hi e => ?_, fun i j x hi hj hne e => ?_⟩
 ·by_cases hi : i < ds.length
  ·rw [(lo hi).1] at hd; rw [(lo hi).2] at hu
   simp only [hi, if_true]; exact h.ce i d u hd hu
  ·rw [(hi' hi).1] at hd; rw [(hi' hi).2] at hu
   simp only [hi, if_false]; exact h'.ce _ d u hd hu
 ·rw [List.length_append] at hi
  by_cases hl : i < ds.length
  ·simp only [hl, if_true] at e; exact h.ne i x hl e
  ·simp only [hl, if_false] at e; exact h'.ne _ x (by omega) e
 ·rw [List.length_append] at hi hj
  by_cases hl : i < ds.length <;> by_cases hm : j < ds.length
  ·simp only [hl, if_true] at e; simp only [hm, if_true]; exact h.ap i j x hl hm hne e
  ·simp only [hl, if_true] at e; simp only [hm, if_false]; exact hx i _ x hl (by omega) e
  ·simp only [hl, if_false] at e; simp only [hm, if_true]; exact fun e2 => hx j _ x hm (by omega) e2 e
  ·simp only [hl, if_false] at e; simp only [hm, if_false]; exact h'.ap _ _ x (by omega) (by omega) (by omega) e
end
theorem flt_at {α : Type} {m : Nat} : ∀ {rows : List (List α)}, (∀ r ∈ rows, r.length = m) → ∀ {i j : Nat} {r : List α} {d : α}, rows[i]? = some r → r[j]? = some d → rows.flatten[i * m + j]? = some d
 | [], _, i, j, r, d, h, _ => by simp at h
 | r0 :: rs, hn, i, j, r, d, h, hd => by
  have h0 := hn r0 (by simp)
  cases i with
  | zero =>
   simp only [List.getElem?_cons_zero, Option.some.injEq] at h
   subst h
   rw [List.flatten_cons, Nat.zero_mul, Nat.zero_add, List.getElem?_append_left (List.getElem?_eq_some_iff.1 hd).1]; exact hd
  | succ i =>
   rw [List.getElem?_cons_succ] at h
   have := flt_at (fun r hr => hn r (by simp [hr])) h hd
   rw [List.flatten_cons, List.getElem?_append_right (by rw [h0, Nat.add_mul]; omega), h0]
   rw [show (i + 1) * m + j - m = i * m + j by rw [Nat.add_mul]; omega]
   exact this
theorem flt_len {α : Type} {m : Nat} : ∀ {rows : List (List α)}, (∀ r ∈ rows, r.length = m) → rows.flatten.length = rows.length * m
 | [], _ => by simp
 | r :: rs, hn => by rw [List.flatten_cons, List.length_append, hn r (by simp), flt_len fun r hr => hn r (by simp [hr]), List.length_cons, Nat.add_mul]; omega
def OG6 (B : Nat) (T : TypeId) (m : Nat) (w : World) (rows : List (List D)) (v : Value) : Prop := (∀ r ∈ rows, r.length = m) ∧ ∃ xs ow, w.ownsRow B T m v rows.length xs ∧ GR B w v.ownBlock rows.flatten xs ow
structure GS (B : Nat) (w : World) (g : Nat) (ds : List D) (us : Nat → Value) (ow : Nat → Option Nat) : Prop where
 lt : B ≤ g ∧ g < w.heap.size
 c : ∀ i, i < ds.length → w.cell? ⟨g, i, none⟩ = some (us i)
 r : ∀ i d, ds[i]? = some d → CellIn B w d (us i) (ow i)
 fr : ∀ x y, w.frozen? ⟨g, x, y⟩ = false
 ne : ∀ i x, i < ds.length → ow i = some x → x ≠ g
 ap : ∀ i j x, i < ds.length → j < ds.length → i ≠ j → ow i = some x → ow j ≠ some x
theorem OG6.sep {B : Nat} {T : TypeId} {m : Nat} {w : World} {rows : List (List D)} {v : Value} (h : OG6 B T m w rows v) :
  (v = .slice none 0 0 ∧ rows = []) ∨ ∃ g cap us ow, v = .slice (some ⟨g, 0, none⟩) rows.length cap ∧ rows.length ≤ cap ∧ cap ≤ maxLen ∧ GS B w g rows.flatten us ow := by
 obtain ⟨hn, xs, ow, ⟨q0, ⟨rfl, hz⟩ | ⟨g, cap, cur, rfl, q2, q3, q4, q5, q6, q7⟩⟩, hG⟩ := h
 ·exact .inl ⟨rfl, List.eq_nil_of_length_eq_zero hz⟩
 ·refine .inr ⟨g, cap, fun i => xs.getD i undef, ow, rfl, q4, q5, ⟨q2, (Array.getElem?_eq_some_iff.1 q3).1⟩, fun i hi => ?_, fun i d hd => ?_, fun x y => ?_, fun i x hi e => ?_, hG.ap⟩
  ·rw [← hG.xl] at hi
   obtain ⟨u, hx⟩ : ∃ u, xs[i]? = some u := ⟨_, List.getElem?_eq_getElem hi⟩
   simp only [List.getD_eq_getElem?_getD, hx, Option.getD_some]
   have hx2 := hx
   rw [← q7, List.getElem?_take] at hx2
   split at hx2
   ·unfold World.cell?
    simp only [q3]
    simpa using hx2
   ·cases hx2
  ·have hi := (List.getElem?_eq_some_iff.1 hd).1
   rw [← hG.xl] at hi
   obtain ⟨u, hx⟩ : ∃ u, xs[i]? = some u := ⟨_, List.getElem?_eq_getElem hi⟩
   have := hG.ce i d _ hd hx
   simp only [List.getD_eq_getElem?_getD, hx, Option.getD_some]
   exact this
  ·unfold World.frozen?; rw [q3]; simp
  ·exact fun e2 => hG.ne i x hi e (by rw [e2]; rfl)
theorem GS.read {B : Nat} {w : World} {g m cap : Nat} {rows : List (List D)} {us : Nat → Value} {ow : Nat → Option Nat} (h : GS B w g rows.flatten us ow) (hn : ∀ r ∈ rows, r.length = m) (h1 : rows.length ≤ cap) (h2 : cap ≤ maxLen) : R w (fun _ => False) (.sl rows) (.slice (some ⟨g, 0, none⟩) rows.length cap) := by
 refine flat_of hn rfl h1 h2 (fun _ => rfl) fun i j r d hi hj => ?_
 have hf := flt_at hn hi hj
 rw [Nat.zero_add]
 exact ⟨_, h.c _ (List.getElem?_eq_some_iff.1 hf).1, id, (h.r _ _ hf).read⟩
theorem OG6.read {B : Nat} {T : TypeId} {m : Nat} {w : World} {rows : List (List D)} {v : Value} (h : OG6 B T m w rows v) : R w (fun _ => False) (.sl rows) v := by
 have hn := h.1
 rcases h.sep with ⟨rfl, rfl⟩ | ⟨g, cap, us, ow, rfl, h1, h2, h3⟩
 ·exact ⟨none, 0, 0, rfl, rfl, Nat.le_refl _, Nat.zero_le _, fun _ => rfl, fun b o s h => by cases h⟩
 ·exact h3.read hn h1 h2
section
variable {B T m : Nat} {w w' : World} {rows : List (List D)} {v : Value}
theorem OG6.blk (h : OG6 B T m w rows v) (hs : w.heap.size ≤ w'.heap.size) (hk : ∀ k, B ≤ k → k < w.heap.size → w'.heap[k]? = w.heap[k]?) : OG6 B T m w' rows v := by
 obtain ⟨hn, xs, ow, h1, h2⟩ := h
 refine ⟨hn, xs, ow, ?_, ⟨h2.xl, fun i d u hd hu => (h2.ce i d u hd hu).blk hs fun x e hx => hk x ((h2.ce i d u hd hu).le e).1 hx, h2.ne, h2.ap⟩⟩
 obtain ⟨h0, h | ⟨g', cap, cur, q1, q2, q3, q4⟩⟩ := h1
 ·exact ⟨h0, .inl h⟩
 ·exact ⟨h0, .inr ⟨g', cap, cur, q1, q2, by rw [hk g' q2 (Array.getElem?_eq_some_iff.1 q3).1]; exact q3, q4⟩⟩
theorem OG6.nil : OG6 B T m w [] (.slice none 0 0) := ⟨fun r hr => (by cases hr), [], fun _ => none, World.ownsRow_nil _ _ _ _, GR.nil⟩
theorem OG6.len (h : OG6 B T m w rows v) : ∃ a c, v = .slice a rows.length c := by
 obtain ⟨_, xs, ow, ⟨_, ⟨rfl, h⟩ | ⟨g, cap, cur, rfl, _⟩⟩, _⟩ := h
 ·exact ⟨_, _, by rw [h]⟩
 ·exact ⟨_, _, rfl⟩
end
theorem og_append {P : Program} {T Tl ty : TypeId} {ti : TypeInfo} {z : Value} {m by_ : Nat} (ht : P.underlying Tl = some (.slice T)) (hti : P.info? T = some ti) (hz : ti.zero = some z) (hsz : ti.size = m) (hby : ti.bytes = by_) (hzs : z.cells.size = m) (hm : 0 < m)
  {B : Nat} {w1 w : World} {rows : List (List D)} {v : Value} (h1 : OG6 B T m w1 rows v) (hb : Below w1.heap.size w1 w) (hB : B ≤ w1.heap.size) {r : List D} {xs' : List Value} {ow' : Nat → Option Nat} {a : Addr} {c : Nat}
  (h2 : GR w1.heap.size w v.ownBlock r xs' ow') (hr : r.length = m) (hnews : ∀ j u, xs'[j]? = some u → w.cell? (a.add j) = some u) (h1c : ∀ u ∈ xs', u.oneCell' = true) (hl : rows.length < 1048576) (hbb : by_ ≤ 1024) :
  ∃ v' w', (Builtin.append_ #[Tl, Tl] ty #[v, .slice (some a) 1 c]).run P w = .ok v' w' ∧ OG6 B T m w' (rows ++ [r]) v' ∧ ∀ C, C ≤ B → Below C w w' := by
 obtain ⟨hn, xs, ow, O1, R1⟩ := h1
 have O1' : w.ownsRow B T m v rows.length xs := by
  obtain ⟨h0, h | ⟨g', cap, cur, q1, q2, q3, q4⟩⟩ := O1
  ·exact ⟨h0, .inl h⟩
  ·exact ⟨h0, .inr ⟨g', cap, cur, q1, q2, by rw [hb.block g' (Array.getElem?_eq_some_iff.1 q3).1]; exact q3, q4⟩⟩
 have old : ∀ i x, i < rows.flatten.length → ow i = some x → x < w1.heap.size := fun i x hi e => (R1.le hi e).2
 have ob : ∀ x, v.ownBlock = some x → B ≤ x ∧ x < w1.heap.size := fun x e => O1.lt x e
 have R1' : GR B w v.ownBlock rows.flatten xs ow := R1.move hb.size (fun j hj _ => hb.block j hj) (.inl rfl)
 have hbs := hb.size
 have J := R1'.app (h2.low hB) fun i j x hi hj e e2 => by have := old i x hi e; have := (h2.le hj e2).1; omega
 have hby2 : (rows.length + 1) * by_ ≤ 140737488355328 := Nat.le_trans (Nat.mul_le_mul (show rows.length + 1 ≤ 1048576 by omega) hbb) (by decide)
 obtain ⟨v', w', q1, q2, q3, _, q5⟩ := run_append_own_at (P := P) w B Tl ty T ti z m by_ ht hti hz hsz hby hzs hm v rows.length xs O1' a 1 c xs' (by rw [h2.xl, hr]; omega) hnews h1c (by unfold maxLen; omega) hby2 (by omega)
 refine ⟨v', w', q1, ⟨fun r' hr' => ?_, xs ++ xs', fun i => if i < rows.flatten.length then ow i else ow' (i - rows.flatten.length), by simpa using q2, ?_⟩, fun C hC => ⟨q3.os, q3.tape, q3.output, q3.size, fun k hk => q3.block k (by have := hb.size; omega) fun e => by have := (ob k e.symm).1; omega⟩⟩
 ·rcases List.mem_append.1 hr' with h | h
  ·exact hn r' h
  ·rw [List.mem_singleton] at h; rw [h]; exact hr
 ·rw [List.flatten_append, List.flatten_singleton]
  refine J.move q3.size (fun k hk hne => q3.block k hk hne) ?_
  rcases q5 with e | e
  ·exact .inl e
  ·exact .inr fun x hx => by rw [e] at hx; cases hx; exact Nat.le_refl _
/-! What is left where something is written -/
section
variable {B : Nat} {w w' : World} {g : Nat} {ds : List D} {us : Nat → Value} {ow : Nat → Option Nat}
theorem GS.keep (h : GS B w g ds us ow) (hs : w.heap.size ≤ w'.heap.size) (hk : ∀ k, B ≤ k → k < w.heap.size → w'.heap[k]? = w.heap[k]?) : GS B w' g ds us ow :=
 ⟨⟨h.lt.1, Nat.lt_of_lt_of_le h.lt.2 hs⟩, fun i hi => by rw [World.cell?_of_block (hk g h.lt.1 h.lt.2)]; exact h.c i hi, fun i d hd => (h.r i d hd).blk hs fun x e hx => hk x ((h.r i d hd).le e).1 hx, fun x y => by
  exact (show w'.frozen? ⟨g, x, y⟩ = w.frozen? ⟨g, x, y⟩ from fro_of_block (hk g h.lt.1 h.lt.2)).trans (h.fr x y), h.ne, h.ap⟩
theorem GS.put (h : GS B w g ds us ow) {i : Nat} {d : D} {u : Value} (hi : i < ds.length) (ho : ow i = none) (hl : leafD d = true) (hd : R w (fun _ => False) d u) (hs : w'.heap.size = w.heap.size)
  (hc : w'.cell? ⟨g, i, none⟩ = some u) (hk : ∀ p v, w.cell? p = some v → p ≠ ⟨g, i, none⟩ → w'.cell? p = some v) (hf : ∀ p : Addr, w'.frozen? p = w.frozen? p) : GS B w' g (ds.set i d) (fun j => if j = i then u else us j) ow := by
 have hne : ∀ {j : Nat} {p : Addr}, j < ds.length → ow j = some p.block → p ≠ ⟨g, i, none⟩ := fun {j p} hj e e2 => h.ne j _ hj e (by rw [e2])
 refine ⟨⟨h.lt.1, by rw [hs]; exact h.lt.2⟩, fun j hj => ?_, fun j d' hd' => ?_, fun x y => by rw [hf]; exact h.fr x y, fun j x hj e => h.ne j x (by simpa using hj) e, fun j j' x hj hj' hn e => h.ap j j' x (by simpa using hj) (by simpa using hj') hn e⟩
 ·rw [List.length_set] at hj
  by_cases e : j = i
  ·subst e; simp only [if_true]; exact hc
  ·simp only [e, if_false]; exact hk _ _ (h.c j hj) fun e2 => e (by simpa using congrArg Addr.off e2)
 ·by_cases e : j = i
  ·subst e
   rw [List.getElem?_set_self hi] at hd'
   cases hd'
   simp only [if_true]; rw [ho]; exact CellIn.leaf hl hd
  ·rw [List.getElem?_set_ne (fun h => e h.symm)] at hd'
   simp only [e, if_false]
   have hj := (List.getElem?_eq_some_iff.1 hd').1
   exact (h.r j d' hd').keep (Nat.le_of_eq hs.symm) (fun p v hp e2 => hk p v hp (hne hj e2)) fun p _ _ => hf p
theorem GS.row (h : GS B w g ds us ow) {i : Nat} {d : D} {A : Addr → Prop} (hi : i < ds.length) (ha : Alt A w w') (hA : ∀ p, A p → ow i = some p.block) (hd : CellIn B w' d (us i) (ow i)) : GS B w' g (ds.set i d) us ow := by
 have hg : ∀ p, A p → p.block ≠ g := fun p hp => h.ne i _ hi (hA p hp)
 refine ⟨⟨h.lt.1, Nat.lt_of_lt_of_le h.lt.2 ha.size⟩, fun j hj => ?_, fun j d' hd' => ?_, fun x y => by rw [ha.fro _ h.lt.2]; exact h.fr x y, fun j x hj e => h.ne j x (by simpa using hj) e, fun j j' x hj hj' hn e => h.ap j j' x (by simpa using hj) (by simpa using hj') hn e⟩
 ·rw [List.length_set] at hj
  exact ha.keep _ _ (h.c j hj) fun hp => hg _ hp rfl
 ·by_cases e : j = i
  ·subst e
   rw [List.getElem?_set_self hi] at hd'
   cases hd'; exact hd
  ·rw [List.getElem?_set_ne (fun h => e h.symm)] at hd'
   have hj := (List.getElem?_eq_some_iff.1 hd').1
   exact (h.r j d' hd').keep ha.size (fun p v hp e2 => ha.keep p v hp fun hp2 => h.ap j i _ hj hi e e2 (hA p hp2)) fun p hp _ => ha.fro p hp
end
end Go.Proofs.YtimickglpboilaaGreat
/- The laws' helpers: sizes, copies, equality. Written by gen3.py. -/
namespace Go.Proofs.YtimickglpboilaaGreat
open Go.RowKit Go
variable [GC]
def isZ (n : Int) (P : Prop) (r : D) : Prop := ∃ m : Int, r = .int .i64 m ∧ -1 ≤ m ∧ m ≤ n ∧ (0 ≤ m → P)
theorem isZ.no {n : Int} {P : Prop} (h : 0 ≤ n) : isZ n P (.int .i64 (-1)) := ⟨-1, rfl, by omega, by omega, by omega⟩
theorem isZ.ty {n : Int} {P : Prop} {r : D} (h : isZ n P r) : HasVT tbl.tab (.one (.c (.int .i64))) r := by obtain ⟨m, rfl, _⟩ := h; rfl
class Sm (α : Type) where
 sm : α → Prop
instance : Sm ByteArray := ⟨fun s => s.size ≤ 1048576⟩
instance {α : Type} [Inhabited α] [Sm α] : Sm (List α) := ⟨fun l => l.length ≤ 1048576 ∧ ∀ k, k < l.length → Sm.sm (nth l k)⟩
theorem sm_str {s : ByteArray} : Sm.sm s ↔ s.size ≤ 1048576 := Iff.rfl
theorem sm_list {α : Type} [Inhabited α] [Sm α] {l : List α} : Sm.sm l ↔ l.length ≤ 1048576 ∧ ∀ k, k < l.length → Sm.sm (nth l k) := Iff.rfl
theorem z_StringS (l : List ByteArray) (n : Int) (h0 : 0 ≤ n) (h1 : n ≤ 1048576) : ∃ r, isZ n (Sm.sm l) r ∧ Fun Tryz.prog 36 none [encS l, .int .i64 n] r [] := by
 refine Fun.exV vc_laws_szStringS_ok rfl ty_laws_szStringS_ok ⟨ty_strS l, rfl, trivial⟩ (.int .i64 (-1)) (isZ.no h0) fun hfit => ?_; unfold vc_laws_szStringS
 have hl : l.length ≤ 9223372036854775807 := fits_encS hfit.1
 have e : arI .sub .i64 n l.length = n - l.length := ar_sub (by omega) (by omega)
 refine den_ite (fun h => ?_) (fun h => ?_)
 ·exact ⟨isZ.no h0, rfl⟩
 simp only [E.den, List.map_cons, List.map_nil, List.getD_cons_zero, List.getD_cons_succ, D.toI_int, D.toB_bool, D.toS_str, enc_toA, encS_toR, encS_len, len_str, cmpI_lss, e] at h
 simp at h
 refine den_loop (Int × Nat) (fun s => [.int .i64 s.1, .int .i64 s.2]) (fun s => s.2 ≤ l.length ∧ s.1 ≤ n - l.length ∧ 0 ≤ s.1 ∧ ∀ i, i < s.2 → Sm.sm (nth l i)) (fun s => l.length - s.2) (n - l.length, 0) (fun s s' h => by simp at h; omega) ?_ ⟨by omega, by omega, by omega, by omega⟩ ?_
 ·simp only [E.den, List.map_cons, List.map_nil, List.getD_cons_zero, List.getD_cons_succ, D.toI_int, D.toB_bool, D.toS_str, enc_toA, encS_toR, encS_len, len_str, cmpI_lss, e]; rfl
 rintro ⟨m, k⟩ ⟨hk, hm, hm0, hI⟩ -
 simp only at hk hm hm0 hI
 simp only [cA]
 refine den_ite (fun h2 => ?_) (fun h2 => ?_)
 ·simp [E.den, cmpI] at h2
  refine den_cond (fun hg => ?_) ?_
  ·simp [E.den]; omega
  have hs2 := fits_str (fits_nth hfit.1 h2).1
  have e2 : arI .sub .i64 m (nth l k).size = m - (nth l k).size := ar_sub (by omega) (by omega)
  refine den_ite (fun h3 => ?_) (fun h3 => ?_)
  ·exact ⟨isZ.no h0, rfl⟩
  simp only [E.den, List.map_cons, List.map_nil, List.getD_cons_zero, List.getD_cons_succ, D.toI_int, D.toB_bool, D.toS_str, enc_toA, encS_toR, encS_len, len_str, cmpI_lss, row_str, cells_str, Int.toNat_natCast, e2] at h3
  simp at h3
  refine ⟨(m - (nth l k).size, k + 1), ?_, ⟨by omega, by omega, by omega, fun i hi => ?_⟩, by omega⟩
  ·simp only [E.den, List.map_cons, List.map_nil, List.getD_cons_zero, List.getD_cons_succ, D.toI_int, D.toB_bool, D.toS_str, enc_toA, encS_toR, encS_len, len_str, cmpI_lss, row_str, cells_str, Int.toNat_natCast, e2]; rw [ar_add (by omega) (by omega)]; rfl
  rcases Nat.lt_or_ge i k with h' | h'
  ·exact hI i h'
  ·obtain rfl : i = k := by omega
   exact sm_str.2 (by omega)
 ·simp [E.den, cmpI] at h2
  obtain rfl : k = l.length := by omega
  exact ⟨⟨m, rfl, by omega, by omega, fun _ => sm_list.2 ⟨by omega, hI⟩⟩, rfl⟩
def copyTo {α : Type} [Enc α] (l : List α) (z : List D) (k : Nat) : List (List D) := (l.take k).map Enc.cells ++ List.replicate (l.length - k) z
theorem copyTo_zero {α : Type} [Enc α] (l : List α) (z : List D) : List.replicate l.length z = copyTo l z 0 := by simp [copyTo]
theorem copyTo_all {α : Type} [Enc α] (l : List α) (z : List D) : D.sl (copyTo l z l.length) = encS l := by simp [copyTo, encS]
theorem setL_all {α : Type} {cs l : List α} (h : l.length = cs.length) : setL cs 0 l = l := by
 apply List.ext_getElem?
 intro i
 rw [setL_get?]
 split
 ·rw [Nat.sub_zero]
 ·rw [List.getElem?_eq_none (by omega), List.getElem?_eq_none (by omega)]
theorem copyTo_upd {α : Type} [Enc α] {l : List α} {z : List D} {k : Nat} (hk : k < l.length) (hz : (Enc.cells (nth l k)).length = z.length) : updR (copyTo l z k) k 0 (Enc.cells (nth l k)) = copyTo l z (k + 1) := by
 have hA : ((l.take k).map (Enc.cells (α := α))).length = k := by simp; omega
 have hr : List.replicate (l.length - k) z = z :: List.replicate (l.length - (k + 1)) z := by
  rw [show l.length - k = (l.length - (k + 1)) + 1 by omega, List.replicate_succ]
 unfold updR copyTo
 rw [hr]
 have hg : (((l.take k).map Enc.cells ++ z :: List.replicate (l.length - (k + 1)) z).getD k []) = z := by
  rw [List.getD, List.getElem?_append_right (by omega), hA, Nat.sub_self]; rfl
 rw [hg, setL_all hz, List.set_append_right _ _ (by omega), hA, Nat.sub_self, List.set_cons_zero, List.take_succ_eq_append_getElem hk, List.map_append]
 have : nth l k = l[k] := by simp [nth, hk]
 rw [this]
 simp
theorem c_laws_toStringS (l : List ByteArray) (h : l.length ≤ 1048576) : FunR Tryz.prog 48 none [encS l] (encS l) [] [(0, 1)] := by
 refine FunR.ofV vc_laws_toStringS_ok ty_laws_toStringS_ok rt_laws_toStringS_ok rfl ?_ (fun hfit => ?_)
 ·exact ⟨ty_strS l, trivial⟩
 unfold vc_laws_toStringS
 refine den_cond (fun _ => ?_) ?_
 ·simp only [E.den, dEq, iEq, sEq]; simp; omega
 refine den_for l.length (fun k => [.int .i64 k, .sl (copyTo l (List.map zeroD [.str]) k)]) (fun _ => True) ?_ trivial ?_
 ·simp only [E.den, dEq, iEq, sEq]
  rw [copyTo_zero]; rfl
 intro k hk _ _
 simp only [cA]
 refine den_ite (fun h2 => ?_) (fun h2 => ?_)
 ·simp only [E.den, dEq, iEq, sEq] at h2
  have h2 : k < l.length := by simp at h2; exact h2
  (refine den_cond (fun hg => ?_) ?_; (focus (simp only [gsH, gE, E.den, dEq, iEq, sEq] at hg ⊢; (try simp only [D.bool.injEq] at hg); (try simp only [D.bool.injEq]); grind)))
  refine den_cond (fun _ => ?_) ?_
  ·simp only [E.den, dEq, iEq, sEq, lenD_sl, lenD_mem]; simp; omega
  refine den_next h2 ?_ trivial
  simp only [E.den, dEq, iEq, sEq, row_str, cells_str]
  rw [ar_add (by omega) (by omega)]
  exact congrArg (fun r => [D.int .i64 ((k + 1 : Nat) : Int), D.sl r]) (copyTo_upd h2 rfl)
 ·simp only [E.den, dEq, iEq, sEq] at h2
  obtain rfl : k = l.length := by simp at h2; omega
  refine den_ret ?_
  simp only [E.den, dEq, iEq, sEq]
  exact copyTo_all l _
theorem c_laws_eqStringS (l l' : List ByteArray) : Fun Tryz.prog 24 none [encS l, encS l'] (.bool (decide (l = l'))) [] := by
 refine Fun.ofV vc_laws_eqStringS_ok ty_laws_eqStringS_ok rfl ?_ (fun hfit => ?_)
 ·exact ⟨ty_strS l, ty_strS l', trivial⟩
 have hl : l.length ≤ 9223372036854775807 := fits_encS hfit.1
 unfold vc_laws_eqStringS
 refine den_ite (fun h => ?_) (fun h => ?_)
 ·simp [E.den, cmpI] at h
  refine den_ret ?_
  have : l ≠ l' := fun e => h (by rw [e])
  simp [E.den, this]
 simp [E.den, cmpI] at h
 have h : l.length = l'.length := by omega
 refine den_for l.length (fun k => [.int .i64 k]) (fun k => ∀ i, i < k → nth l i = nth l' i) rfl (by omega) ?_
 intro k hk hI _
 simp only [cA]
 refine den_ite (fun h2 => ?_) (fun h2 => ?_)
 ·simp [E.den, cmpI] at h2
  refine den_cond (fun hg => ?_) (den_cond (fun hg => ?_) ?_)
  ·simp [E.den]; omega
  ·simp [E.den]; omega
  refine den_ite (fun h3 => ?_) (fun h3 => ?_)
  ·simp only [E.den, List.map_cons, List.map_nil, List.getD_cons_zero, List.getD_cons_succ, D.toI_int, D.toB_bool, D.toS_str, enc_toA, encS_toR, encS_len, len_str, cmpI_lss, row_str, cells_str, Int.toNat_natCast, cmpS_neq] at h3
   simp at h3
   exact den_ret (by have : l ≠ l' := fun e => h3 (by rw [e])
                     simp [E.den, this])
  simp only [E.den, List.map_cons, List.map_nil, List.getD_cons_zero, List.getD_cons_succ, D.toI_int, D.toB_bool, D.toS_str, enc_toA, encS_toR, encS_len, len_str, cmpI_lss, row_str, cells_str, Int.toNat_natCast, cmpS_neq] at h3
  simp at h3
  refine den_next h2 ?_ fun i hi => ?_
  ·simp [E.den]; rw [ar_add (by omega) (by omega)]
  rcases Nat.lt_or_ge i k with h' | h'
  ·exact hI i h'
  ·obtain rfl : i = k := by omega
   exact h3
 ·simp [E.den, cmpI] at h2
  obtain rfl : k = l.length := by omega
  exact den_ret (by simp [E.den, ext_nth h hI])
instance : Sm Layer := ⟨fun x => Sm.sm x.name⟩
theorem c_laws_eqLayer (x y : Layer) : Fun Tryz.prog 114 none [enc x, enc y] (.bool (decide (x = y))) [] := by
 refine Fun.ofV vc_laws_eqLayer_ok ty_laws_eqLayer_ok rfl ?_ (fun hfit => ?_)
 ·exact ⟨ty_Layer x, ty_Layer y, trivial⟩
 have e := eq_Layer x y
 unfold vc_laws_eqLayer
 refine den_ite (fun h => ?_) (fun h0 => ?_)
 ·simp [E.den, cmpI, cmpS_neq, cells_Layer] at h
  exact den_ret (by simp [E.den, e, h])
 simp [E.den, cmpI, cmpS_neq, cells_Layer] at h0
 refine den_ite (fun h => ?_) (fun h1 => ?_)
 ·simp [E.den, cmpI, cmpS_neq, cells_Layer] at h
  exact den_ret (by simp [E.den, e, h])
 simp [E.den, cmpI, cmpS_neq, cells_Layer] at h1
 exact den_ret (by simp [E.den, e, h0, h1])
theorem c_laws_eqLayerS (l l' : List Layer) : Fun Tryz.prog 96 none [encS l, encS l'] (.bool (decide (l = l'))) [] := by
 refine Fun.ofV vc_laws_eqLayerS_ok ty_laws_eqLayerS_ok rfl ?_ (fun hfit => ?_)
 ·exact ⟨ty_LayerS l, ty_LayerS l', trivial⟩
 have hl : l.length ≤ 9223372036854775807 := fits_encS hfit.1
 unfold vc_laws_eqLayerS
 refine den_ite (fun h => ?_) (fun h => ?_)
 ·simp [E.den, cmpI] at h
  refine den_ret ?_
  have : l ≠ l' := fun e => h (by rw [e])
  simp [E.den, this]
 simp [E.den, cmpI] at h
 have h : l.length = l'.length := by omega
 refine den_for l.length (fun k => [.int .i64 k]) (fun k => ∀ i, i < k → nth l i = nth l' i) rfl (by omega) ?_
 intro k hk hI _
 simp only [cA]
 refine den_ite (fun h2 => ?_) (fun h2 => ?_)
 ·simp [E.den, cmpI] at h2
  refine den_cond (fun hg => ?_) (den_cond (fun hg => ?_) ?_)
  ·simp [E.den]; omega
  ·simp [E.den]; omega
  ((first | refine den_call ?_ (c_laws_eqLayer (nth l k) (nth l' k)) (trivial) ?_ | refine den_callR ?_ (c_laws_eqLayer (nth l k) (nth l' k)) (trivial) ?_ | refine den_call ?_ (.ofR (c_laws_eqLayer (nth l k) (nth l' k))) (trivial) ?_); (focus (simp only [VC.den, E.den, dEq, gsH_nil, and_true, row_Layer, Int.toNat_natCast]; try exact rfl)); (simp only [cA]))
  refine den_ite (fun h3 => ?_) (fun h3 => ?_)
  ·simp [E.den] at h3
   exact den_ret (by have : l ≠ l' := fun e => h3 (by rw [e])
                     simp [E.den, this])
  simp [E.den] at h3
  refine den_next h2 ?_ fun i hi => ?_
  ·simp [E.den]; rw [ar_add (by omega) (by omega)]
  rcases Nat.lt_or_ge i k with h' | h'
  ·exact hI i h'
  ·obtain rfl : i = k := by omega
   exact h3
 ·simp [E.den, cmpI] at h2
  obtain rfl : k = l.length := by omega
  exact den_ret (by simp [E.den, ext_nth h hI])
instance : Sm Cell := ⟨fun x => Sm.sm x.key⟩
theorem c_laws_eqCell (x y : Cell) : Fun Tryz.prog 119 none [enc x, enc y] (.bool (decide (x = y))) [] := by
 refine Fun.ofV vc_laws_eqCell_ok ty_laws_eqCell_ok rfl ?_ (fun hfit => ?_)
 ·exact ⟨ty_Cell x, ty_Cell y, trivial⟩
 have e := eq_Cell x y
 unfold vc_laws_eqCell
 refine den_ite (fun h => ?_) (fun h0 => ?_)
 ·simp [E.den, cmpI, cmpS_neq, cells_Cell] at h
  exact den_ret (by simp [E.den, e, h])
 simp [E.den, cmpI, cmpS_neq, cells_Cell] at h0
 refine den_ite (fun h => ?_) (fun h1 => ?_)
 ·simp [E.den, cmpI, cmpS_neq, cells_Cell] at h
  exact den_ret (by simp [E.den, e, h])
 simp [E.den, cmpI, cmpS_neq, cells_Cell] at h1
 exact den_ret (by simp [E.den, e, h0, h1])
theorem c_laws_eqCellS (l l' : List Cell) : Fun Tryz.prog 113 none [encS l, encS l'] (.bool (decide (l = l'))) [] := by
 refine Fun.ofV vc_laws_eqCellS_ok ty_laws_eqCellS_ok rfl ?_ (fun hfit => ?_)
 ·exact ⟨ty_CellS l, ty_CellS l', trivial⟩
 have hl : l.length ≤ 9223372036854775807 := fits_encS hfit.1
 unfold vc_laws_eqCellS
 refine den_ite (fun h => ?_) (fun h => ?_)
 ·simp [E.den, cmpI] at h
  refine den_ret ?_
  have : l ≠ l' := fun e => h (by rw [e])
  simp [E.den, this]
 simp [E.den, cmpI] at h
 have h : l.length = l'.length := by omega
 refine den_for l.length (fun k => [.int .i64 k]) (fun k => ∀ i, i < k → nth l i = nth l' i) rfl (by omega) ?_
 intro k hk hI _
 simp only [cA]
 refine den_ite (fun h2 => ?_) (fun h2 => ?_)
 ·simp [E.den, cmpI] at h2
  refine den_cond (fun hg => ?_) (den_cond (fun hg => ?_) ?_)
  ·simp [E.den]; omega
  ·simp [E.den]; omega
  ((first | refine den_call ?_ (c_laws_eqCell (nth l k) (nth l' k)) (trivial) ?_ | refine den_callR ?_ (c_laws_eqCell (nth l k) (nth l' k)) (trivial) ?_ | refine den_call ?_ (.ofR (c_laws_eqCell (nth l k) (nth l' k))) (trivial) ?_); (focus (simp only [VC.den, E.den, dEq, gsH_nil, and_true, row_Cell, Int.toNat_natCast]; try exact rfl)); (simp only [cA]))
  refine den_ite (fun h3 => ?_) (fun h3 => ?_)
  ·simp [E.den] at h3
   exact den_ret (by have : l ≠ l' := fun e => h3 (by rw [e])
                     simp [E.den, this])
  simp [E.den] at h3
  refine den_next h2 ?_ fun i hi => ?_
  ·simp [E.den]; rw [ar_add (by omega) (by omega)]
  rcases Nat.lt_or_ge i k with h' | h'
  ·exact hI i h'
  ·obtain rfl : i = k := by omega
   exact h3
 ·simp [E.den, cmpI] at h2
  obtain rfl : k = l.length := by omega
  exact den_ret (by simp [E.den, ext_nth h hI])
instance : Sm Core := ⟨fun x => Sm.sm x.kind ∧ Sm.sm x.cells⟩
theorem c_laws_eqCore (x y : Core) : Fun Tryz.prog 95 none [enc x, enc y] (.bool (decide (x = y))) [] := by
 refine Fun.ofV vc_laws_eqCore_ok ty_laws_eqCore_ok rfl ?_ (fun hfit => ?_)
 ·exact ⟨ty_Core x, ty_Core y, trivial⟩
 have e := eq_Core x y
 unfold vc_laws_eqCore
 refine den_ite (fun h => ?_) (fun h0 => ?_)
 ·simp [E.den, cmpI, cmpS_neq, cells_Core] at h
  exact den_ret (by simp [E.den, e, h])
 simp [E.den, cmpI, cmpS_neq, cells_Core] at h0
 refine den_ite (fun h => ?_) (fun h1 => ?_)
 ·simp [E.den, cmpI, cmpS_neq, cells_Core] at h
  exact den_ret (by simp [E.den, e, h])
 simp [E.den, cmpI, cmpS_neq, cells_Core] at h1
 refine den_ite (fun h => ?_) (fun h2 => ?_)
 ·simp [E.den, cmpI, cmpS_neq, cells_Core] at h
  exact den_ret (by simp [E.den, e, h])
 simp [E.den, cmpI, cmpS_neq, cells_Core] at h2
 ((first | refine den_call ?_ (c_laws_eqCellS x.cells y.cells) (trivial) ?_ | refine den_callR ?_ (c_laws_eqCellS x.cells y.cells) (trivial) ?_ | refine den_call ?_ (.ofR (c_laws_eqCellS x.cells y.cells)) (trivial) ?_); (focus (simp only [VC.den, E.den, dEq, gsH_nil, and_true, cells_Core]; try exact rfl)); (simp only [cA]))
 refine den_ite (fun h => ?_) (fun h3 => ?_)
 ·simp [E.den] at h
  exact den_ret (by simp [E.den, e, h])
 simp [E.den] at h3
 refine den_ite (fun h => ?_) (fun h4 => ?_)
 ·simp [E.den, cmpI, cmpS_neq, cells_Core] at h
  exact den_ret (by simp [E.den, e, h])
 simp [E.den, cmpI, cmpS_neq, cells_Core] at h4
 exact den_ret (by simp [E.den, e, h0, h1, h2, h3, h4])
instance : Sm Call := ⟨fun x => Sm.sm x.method ∧ Sm.sm x.key ∧ Sm.sm x.text⟩
theorem c_laws_eqCall (x y : Call) : Fun Tryz.prog 97 none [enc x, enc y] (.bool (decide (x = y))) [] := by
 refine Fun.ofV vc_laws_eqCall_ok ty_laws_eqCall_ok rfl ?_ (fun hfit => ?_)
 ·exact ⟨ty_Call x, ty_Call y, trivial⟩
 have e := eq_Call x y
 unfold vc_laws_eqCall
 refine den_ite (fun h => ?_) (fun h0 => ?_)
 ·simp [E.den, cmpI, cmpS_neq, cells_Call] at h
  exact den_ret (by simp [E.den, e, h])
 simp [E.den, cmpI, cmpS_neq, cells_Call] at h0
 refine den_ite (fun h => ?_) (fun h1 => ?_)
 ·simp [E.den, cmpI, cmpS_neq, cells_Call] at h
  exact den_ret (by simp [E.den, e, h])
 simp [E.den, cmpI, cmpS_neq, cells_Call] at h1
 refine den_ite (fun h => ?_) (fun h2 => ?_)
 ·simp [E.den, cmpI, cmpS_neq, cells_Call] at h
  exact den_ret (by simp [E.den, e, h])
 simp [E.den, cmpI, cmpS_neq, cells_Call] at h2
 refine den_ite (fun h => ?_) (fun h3 => ?_)
 ·simp [E.den, cmpI, cmpS_neq, cells_Call] at h
  exact den_ret (by simp [E.den, e, h])
 simp [E.den, cmpI, cmpS_neq, cells_Call] at h3
 exact den_ret (by simp [E.den, e, h0, h1, h2, h3])
instance : Sm Reply := ⟨fun x => Sm.sm x.text⟩
instance : Sm Part := ⟨fun x => Sm.sm x.core ∧ Sm.sm x.layers⟩
theorem c_laws_eqPart (x y : Part) : Fun Tryz.prog 60 none [enc x, enc y] (.bool (decide (x = y))) [] := by
 refine Fun.ofV vc_laws_eqPart_ok ty_laws_eqPart_ok rfl ?_ (fun hfit => ?_)
 ·exact ⟨ty_Part x, ty_Part y, trivial⟩
 have e := eq_Part x y
 unfold vc_laws_eqPart
 ((first | refine den_call ?_ (c_laws_eqCore x.core y.core) (trivial) ?_ | refine den_callR ?_ (c_laws_eqCore x.core y.core) (trivial) ?_ | refine den_call ?_ (.ofR (c_laws_eqCore x.core y.core)) (trivial) ?_); (focus (simp only [VC.den, E.den, dEq, gsH_nil, and_true, cells_Part]; try exact rfl)); (simp only [cA]))
 refine den_ite (fun h => ?_) (fun h0 => ?_)
 ·simp [E.den] at h
  exact den_ret (by simp [E.den, e, h])
 simp [E.den] at h0
 ((first | refine den_call ?_ (c_laws_eqLayerS x.layers y.layers) (trivial) ?_ | refine den_callR ?_ (c_laws_eqLayerS x.layers y.layers) (trivial) ?_ | refine den_call ?_ (.ofR (c_laws_eqLayerS x.layers y.layers)) (trivial) ?_); (focus (simp only [VC.den, E.den, dEq, gsH_nil, and_true, cells_Part]; try exact rfl)); (simp only [cA]))
 refine den_ite (fun h => ?_) (fun h1 => ?_)
 ·simp [E.den] at h
  exact den_ret (by simp [E.den, e, h])
 simp [E.den] at h1
 exact den_ret (by simp [E.den, e, h0, h1])
theorem c_laws_eqPartS (l l' : List Part) : Fun Tryz.prog 23 none [encS l, encS l'] (.bool (decide (l = l'))) [] := by
 refine Fun.ofV vc_laws_eqPartS_ok ty_laws_eqPartS_ok rfl ?_ (fun hfit => ?_)
 ·exact ⟨ty_PartS l, ty_PartS l', trivial⟩
 have hl : l.length ≤ 9223372036854775807 := fits_encS hfit.1
 unfold vc_laws_eqPartS
 refine den_ite (fun h => ?_) (fun h => ?_)
 ·simp [E.den, cmpI] at h
  refine den_ret ?_
  have : l ≠ l' := fun e => h (by rw [e])
  simp [E.den, this]
 simp [E.den, cmpI] at h
 have h : l.length = l'.length := by omega
 refine den_for l.length (fun k => [.int .i64 k]) (fun k => ∀ i, i < k → nth l i = nth l' i) rfl (by omega) ?_
 intro k hk hI _
 simp only [cA]
 refine den_ite (fun h2 => ?_) (fun h2 => ?_)
 ·simp [E.den, cmpI] at h2
  refine den_cond (fun hg => ?_) (den_cond (fun hg => ?_) ?_)
  ·simp [E.den]; omega
  ·simp [E.den]; omega
  ((first | refine den_call ?_ (c_laws_eqPart (nth l k) (nth l' k)) (trivial) ?_ | refine den_callR ?_ (c_laws_eqPart (nth l k) (nth l' k)) (trivial) ?_ | refine den_call ?_ (.ofR (c_laws_eqPart (nth l k) (nth l' k))) (trivial) ?_); (focus (simp only [VC.den, E.den, dEq, gsH_nil, and_true, row_Part, Int.toNat_natCast]; try exact rfl)); (simp only [cA]))
  refine den_ite (fun h3 => ?_) (fun h3 => ?_)
  ·simp [E.den] at h3
   exact den_ret (by have : l ≠ l' := fun e => h3 (by rw [e])
                     simp [E.den, this])
  simp [E.den] at h3
  refine den_next h2 ?_ fun i hi => ?_
  ·simp [E.den]; rw [ar_add (by omega) (by omega)]
  rcases Nat.lt_or_ge i k with h' | h'
  ·exact hI i h'
  ·obtain rfl : i = k := by omega
   exact h3
 ·simp [E.den, cmpI] at h2
  obtain rfl : k = l.length := by omega
  exact den_ret (by simp [E.den, ext_nth h hI])
instance : Sm Ver := ⟨fun x => True⟩
theorem c_laws_toVersion (x : Ver) : Fun Tryz.prog 49 none [enc x] (enc x) [] := by
 refine Fun.ofV vc_laws_toVersion_ok ty_laws_toVersion_ok rfl ?_ (fun hfit => ?_)
 ·exact ⟨ty_laws_Ver x, trivial⟩
 unfold vc_laws_toVersion
 exact den_ret (by simp [E.den, cells_Ver, enc])
theorem c_laws_eqVersion (x y : Ver) : Fun Tryz.prog 62 none [enc x, enc y] (.bool (decide (x = y))) [] := by
 refine Fun.ofV vc_laws_eqVersion_ok ty_laws_eqVersion_ok rfl ?_ (fun hfit => ?_)
 ·exact ⟨ty_Ver x, ty_Ver y, trivial⟩
 have e := eq_Ver x y
 unfold vc_laws_eqVersion
 refine den_ite (fun h => ?_) (fun h0 => ?_)
 ·simp [E.den, cmpI, cmpS_neq, cells_Ver] at h
  exact den_ret (by simp [E.den, e, h])
 simp [E.den, cmpI, cmpS_neq, cells_Ver] at h0
 refine den_ite (fun h => ?_) (fun h1 => ?_)
 ·simp [E.den, cmpI, cmpS_neq, cells_Ver] at h
  exact den_ret (by simp [E.den, e, h])
 simp [E.den, cmpI, cmpS_neq, cells_Ver] at h1
 exact den_ret (by simp [E.den, e, h0, h1])
instance : Sm Need := ⟨fun x => Sm.sm x.frm⟩
theorem z_Need (x : Need) (n : Int) (h0 : 0 ≤ n) (h1 : n ≤ 1048576) : ∃ r, isZ n (Sm.sm x) r ∧ Fun Tryz.prog 69 none [enc x, .int .i64 n] r [] := by
 refine Fun.exV vc_laws_szNeed_ok rfl ty_laws_szNeed_ok ⟨ty_laws_Need x, rfl, trivial⟩ (.int .i64 (-1)) (isZ.no h0) fun hfit => ?_; unfold vc_laws_szNeed
 have hf := hfit.1
 simp only [enc, Fits, cells_Need, FitsL] at hf
 have hs0 : x.frm.size ≤ 9223372036854775807 := fits_str (by simp only [Fits]; exact hf.2.1)
 have e0 : arI .sub .i64 n x.frm.size = n - x.frm.size := ar_sub (by omega) (by omega)
 refine den_ite (fun h => ⟨isZ.no h0, rfl⟩) (fun g0 => ?_)
 simp only [E.den, List.map_cons, List.map_nil, List.getD_cons_zero, List.getD_cons_succ, D.toI_int, D.toB_bool, D.toS_str, enc_toA, encS_toR, encS_len, len_str, cmpI_lss, cells_Need, e0] at g0
 simp at g0
 refine ⟨⟨(n - x.frm.size), ?_, by omega, by omega, fun _ => sm_str.2 (by omega)⟩, rfl⟩
 simp only [E.den, List.map_cons, List.map_nil, List.getD_cons_zero, List.getD_cons_succ, D.toI_int, D.toB_bool, D.toS_str, enc_toA, encS_toR, encS_len, len_str, cmpI_lss, cells_Need, e0]
theorem z_NeedS (l : List Need) (n : Int) (h0 : 0 ≤ n) (h1 : n ≤ 1048576) : ∃ r, isZ n (Sm.sm l) r ∧ Fun Tryz.prog 37 none [encS l, .int .i64 n] r [] := by
 refine Fun.exV vc_laws_szNeedS_ok rfl ty_laws_szNeedS_ok ⟨ty_laws_NeedS l, rfl, trivial⟩ (.int .i64 (-1)) (isZ.no h0) fun hfit => ?_; unfold vc_laws_szNeedS
 have hl : l.length ≤ 9223372036854775807 := fits_encS hfit.1
 have e : arI .sub .i64 n l.length = n - l.length := ar_sub (by omega) (by omega)
 refine den_ite (fun h => ?_) (fun h => ?_)
 ·exact ⟨isZ.no h0, rfl⟩
 simp only [E.den, List.map_cons, List.map_nil, List.getD_cons_zero, List.getD_cons_succ, D.toI_int, D.toB_bool, D.toS_str, enc_toA, encS_toR, encS_len, len_str, cmpI_lss, e] at h
 simp at h
 refine den_loop (Int × Nat) (fun s => [.int .i64 s.1, .int .i64 s.2]) (fun s => s.2 ≤ l.length ∧ s.1 ≤ n - l.length ∧ 0 ≤ s.1 ∧ ∀ i, i < s.2 → Sm.sm (nth l i)) (fun s => l.length - s.2) (n - l.length, 0) (fun s s' h => by simp at h; omega) ?_ ⟨by omega, by omega, by omega, by omega⟩ ?_
 ·simp only [E.den, List.map_cons, List.map_nil, List.getD_cons_zero, List.getD_cons_succ, D.toI_int, D.toB_bool, D.toS_str, enc_toA, encS_toR, encS_len, len_str, cmpI_lss, e]; rfl
 rintro ⟨m, k⟩ ⟨hk, hm, hm0, hI⟩ -
 simp only at hk hm hm0 hI
 simp only [cA]
 refine den_ite (fun h2 => ?_) (fun h2 => ?_)
 ·simp [E.den, cmpI] at h2
  refine den_cond (fun hg => ?_) ?_
  ·simp [E.den]; omega
  ((first | refine den_callE ?_ (z_Need (nth l k) m hm0 (by omega)) (fun _ h => isZ.ty h) ?_ | refine den_callRE ?_ (z_Need (nth l k) m hm0 (by omega)) (fun _ h => isZ.ty h) ?_ | refine den_callE ?_ (exR (z_Need (nth l k) m hm0 (by omega))) (fun _ h => isZ.ty h) ?_); (focus (simp only [VC.den, E.den, dEq, gsH_nil, and_true, row_Need, Int.toNat_natCast]; try exact rfl)); rintro _ ⟨q, rfl, q1, q2, q3⟩; (simp only [cA]))
  refine den_ite (fun h3 => ?_) (fun h3 => ?_)
  ·exact ⟨isZ.no h0, rfl⟩
  simp only [E.den, List.map_cons, List.map_nil, List.getD_cons_zero, List.getD_cons_succ, D.toI_int, D.toB_bool, D.toS_str, enc_toA, encS_toR, encS_len, len_str, cmpI_lss] at h3
  simp at h3
  refine ⟨(q, k + 1), ?_, ⟨by omega, by omega, h3, fun i hi => ?_⟩, by omega⟩
  ·simp only [E.den, List.map_cons, List.map_nil, List.getD_cons_zero, List.getD_cons_succ, D.toI_int, D.toB_bool, D.toS_str, enc_toA, encS_toR, encS_len, len_str, cmpI_lss]; rw [ar_add (by omega) (by omega)]; rfl
  rcases Nat.lt_or_ge i k with h' | h'
  ·exact hI i h'
  ·obtain rfl : i = k := by omega
   exact q3 h3
 ·simp [E.den, cmpI] at h2
  obtain rfl : k = l.length := by omega
  exact ⟨⟨m, rfl, by omega, by omega, fun _ => sm_list.2 ⟨by omega, hI⟩⟩, rfl⟩
theorem c_laws_toNeed (x : Need) (h : Sm.sm x) : Fun Tryz.prog 82 none [enc x] (enc x) [] := by
 refine Fun.ofV vc_laws_toNeed_ok ty_laws_toNeed_ok rfl ?_ (fun hfit => ?_)
 ·exact ⟨ty_laws_Need x, trivial⟩
 unfold vc_laws_toNeed
 ((first | refine den_call ?_ (c_laws_toVersion x.least) (ty_Ver _) ?_ | refine den_callR ?_ (c_laws_toVersion x.least) (ty_Ver _) ?_ | refine den_call ?_ (.ofR (c_laws_toVersion x.least)) (ty_Ver _) ?_); (focus (simp only [VC.den, E.den, dEq, gsH_nil, and_true, cells_Need]; try exact rfl)); (simp only [cA]))
 exact den_ret (by simp [E.den, cells_Need, cells_Ver, enc])
theorem c_laws_toNeedS (l : List Need) (h : l.length ≤ 1048576) (H : ∀ k, k < l.length → Sm.sm (nth l k)) : FunR Tryz.prog 50 none [encS l] (encS l) [] [(0, 4)] := by
 refine FunR.ofV vc_laws_toNeedS_ok ty_laws_toNeedS_ok rt_laws_toNeedS_ok rfl ?_ (fun hfit => ?_)
 ·exact ⟨ty_laws_NeedS l, trivial⟩
 unfold vc_laws_toNeedS
 refine den_cond (fun _ => ?_) ?_
 ·simp only [E.den, dEq, iEq, sEq]; simp; omega
 refine den_for l.length (fun k => [.int .i64 k, .sl (copyTo l (List.map zeroD [.int .i64, .str, .int .i64, .int .i64]) k)]) (fun _ => True) ?_ trivial ?_
 ·simp only [E.den, dEq, iEq, sEq]
  rw [copyTo_zero]; rfl
 intro k hk _ _
 simp only [cA]
 refine den_ite (fun h2 => ?_) (fun h2 => ?_)
 ·simp only [E.den, dEq, iEq, sEq] at h2
  have h2 : k < l.length := by simp at h2; exact h2
  (refine den_cond (fun hg => ?_) ?_; (focus (simp only [gsH, gE, E.den, dEq, iEq, sEq] at hg ⊢; (try simp only [D.bool.injEq] at hg); (try simp only [D.bool.injEq]); grind)))
  ((first | refine den_call ?_ (c_laws_toNeed (nth l k) (H k h2)) (ty_Need _) ?_ | refine den_callR ?_ (c_laws_toNeed (nth l k) (H k h2)) (ty_Need _) ?_ | refine den_call ?_ (.ofR (c_laws_toNeed (nth l k) (H k h2))) (ty_Need _) ?_); (focus (simp only [VC.den, E.den, dEq, gsH_nil, and_true, row_Need, Int.toNat_natCast]; try exact rfl)); (simp only [cA]))
  refine den_cond (fun _ => ?_) ?_
  ·simp only [E.den, dEq, iEq, sEq, lenD_sl, lenD_mem]; simp; omega
  refine den_next h2 ?_ trivial
  simp only [E.den, dEq, iEq, sEq, enc_toA]
  rw [ar_add (by omega) (by omega)]
  exact congrArg (fun r => [D.int .i64 ((k + 1 : Nat) : Int), D.sl r]) (copyTo_upd h2 rfl)
 ·simp only [E.den, dEq, iEq, sEq] at h2
  obtain rfl : k = l.length := by simp at h2; omega
  refine den_ret ?_
  simp only [E.den, dEq, iEq, sEq]
  exact copyTo_all l _
theorem c_laws_eqNeed (x y : Need) : Fun Tryz.prog 98 none [enc x, enc y] (.bool (decide (x = y))) [] := by
 refine Fun.ofV vc_laws_eqNeed_ok ty_laws_eqNeed_ok rfl ?_ (fun hfit => ?_)
 ·exact ⟨ty_Need x, ty_Need y, trivial⟩
 have e := eq_Need x y
 unfold vc_laws_eqNeed
 refine den_ite (fun h => ?_) (fun h0 => ?_)
 ·simp [E.den, cmpI, cmpS_neq, cells_Need] at h
  exact den_ret (by simp [E.den, e, h])
 simp [E.den, cmpI, cmpS_neq, cells_Need] at h0
 refine den_ite (fun h => ?_) (fun h1 => ?_)
 ·simp [E.den, cmpI, cmpS_neq, cells_Need] at h
  exact den_ret (by simp [E.den, e, h])
 simp [E.den, cmpI, cmpS_neq, cells_Need] at h1
 ((first | refine den_call ?_ (c_laws_eqVersion x.least y.least) (trivial) ?_ | refine den_callR ?_ (c_laws_eqVersion x.least y.least) (trivial) ?_ | refine den_call ?_ (.ofR (c_laws_eqVersion x.least y.least)) (trivial) ?_); (focus (simp only [VC.den, E.den, dEq, gsH_nil, and_true, cells_Need]; try exact rfl)); (simp only [cA]))
 refine den_ite (fun h => ?_) (fun h2 => ?_)
 ·simp [E.den] at h
  exact den_ret (by simp [E.den, e, h])
 simp [E.den] at h2
 exact den_ret (by simp [E.den, e, h0, h1, h2])
theorem c_laws_eqNeedS (l l' : List Need) : Fun Tryz.prog 63 none [encS l, encS l'] (.bool (decide (l = l'))) [] := by
 refine Fun.ofV vc_laws_eqNeedS_ok ty_laws_eqNeedS_ok rfl ?_ (fun hfit => ?_)
 ·exact ⟨ty_NeedS l, ty_NeedS l', trivial⟩
 have hl : l.length ≤ 9223372036854775807 := fits_encS hfit.1
 unfold vc_laws_eqNeedS
 refine den_ite (fun h => ?_) (fun h => ?_)
 ·simp [E.den, cmpI] at h
  refine den_ret ?_
  have : l ≠ l' := fun e => h (by rw [e])
  simp [E.den, this]
 simp [E.den, cmpI] at h
 have h : l.length = l'.length := by omega
 refine den_for l.length (fun k => [.int .i64 k]) (fun k => ∀ i, i < k → nth l i = nth l' i) rfl (by omega) ?_
 intro k hk hI _
 simp only [cA]
 refine den_ite (fun h2 => ?_) (fun h2 => ?_)
 ·simp [E.den, cmpI] at h2
  refine den_cond (fun hg => ?_) (den_cond (fun hg => ?_) ?_)
  ·simp [E.den]; omega
  ·simp [E.den]; omega
  ((first | refine den_call ?_ (c_laws_eqNeed (nth l k) (nth l' k)) (trivial) ?_ | refine den_callR ?_ (c_laws_eqNeed (nth l k) (nth l' k)) (trivial) ?_ | refine den_call ?_ (.ofR (c_laws_eqNeed (nth l k) (nth l' k))) (trivial) ?_); (focus (simp only [VC.den, E.den, dEq, gsH_nil, and_true, row_Need, Int.toNat_natCast]; try exact rfl)); (simp only [cA]))
  refine den_ite (fun h3 => ?_) (fun h3 => ?_)
  ·simp [E.den] at h3
   exact den_ret (by have : l ≠ l' := fun e => h3 (by rw [e])
                     simp [E.den, this])
  simp [E.den] at h3
  refine den_next h2 ?_ fun i hi => ?_
  ·simp [E.den]; rw [ar_add (by omega) (by omega)]
  rcases Nat.lt_or_ge i k with h' | h'
  ·exact hI i h'
  ·obtain rfl : i = k := by omega
   exact h3
 ·simp [E.den, cmpI] at h2
  obtain rfl : k = l.length := by omega
  exact den_ret (by simp [E.den, ext_nth h hI])
instance : Sm Entry := ⟨fun x => Sm.sm x.name ∧ Sm.sm x.recipe ∧ Sm.sm x.needs⟩
theorem z_Entry (x : Entry) (n : Int) (h0 : 0 ≤ n) (h1 : n ≤ 1048576) : ∃ r, isZ n (Sm.sm x) r ∧ Fun Tryz.prog 13 none [enc x, .int .i64 n] r [] := by
 refine Fun.exV vc_laws_szEntry_ok rfl ty_laws_szEntry_ok ⟨ty_laws_Entry x, rfl, trivial⟩ (.int .i64 (-1)) (isZ.no h0) fun hfit => ?_; unfold vc_laws_szEntry
 have hf := hfit.1
 simp only [enc, Fits, cells_Entry, FitsL] at hf
 have hs0 : x.name.size ≤ 9223372036854775807 := fits_str (by simp only [Fits]; exact hf.1)
 have e0 : arI .sub .i64 n x.name.size = n - x.name.size := ar_sub (by omega) (by omega)
 refine den_ite (fun h => ⟨isZ.no h0, rfl⟩) (fun g0 => ?_)
 simp only [E.den, List.map_cons, List.map_nil, List.getD_cons_zero, List.getD_cons_succ, D.toI_int, D.toB_bool, D.toS_str, enc_toA, encS_toR, encS_len, len_str, cmpI_lss, cells_Entry, e0] at g0
 simp at g0
 ((first | refine den_callE ?_ (z_StringS x.recipe (n - x.name.size) (by omega) (by omega)) (fun _ h => isZ.ty h) ?_ | refine den_callRE ?_ (z_StringS x.recipe (n - x.name.size) (by omega) (by omega)) (fun _ h => isZ.ty h) ?_ | refine den_callE ?_ (exR (z_StringS x.recipe (n - x.name.size) (by omega) (by omega))) (fun _ h => isZ.ty h) ?_); (focus (simp only [VC.den, E.den, dEq, gsH_nil, and_true, cells_Entry, len_str, e0]; try exact rfl)); rintro _ ⟨m1, rfl, p1, q1, s1⟩; (simp only [cA]))
 refine den_ite (fun h => ⟨isZ.no h0, rfl⟩) (fun g1 => ?_)
 simp only [E.den, List.map_cons, List.map_nil, List.getD_cons_zero, List.getD_cons_succ, D.toI_int, D.toB_bool, D.toS_str, enc_toA, encS_toR, encS_len, len_str, cmpI_lss] at g1
 simp at g1
 ((first | refine den_callE ?_ (z_NeedS x.needs m1 (by omega) (by omega)) (fun _ h => isZ.ty h) ?_ | refine den_callRE ?_ (z_NeedS x.needs m1 (by omega) (by omega)) (fun _ h => isZ.ty h) ?_ | refine den_callE ?_ (exR (z_NeedS x.needs m1 (by omega) (by omega))) (fun _ h => isZ.ty h) ?_); (focus (simp only [VC.den, E.den, dEq, gsH_nil, and_true, cells_Entry, len_str, e0]; try exact rfl)); rintro _ ⟨m2, rfl, p2, q2, s2⟩; (simp only [cA]))
 refine den_ite (fun h => ⟨isZ.no h0, rfl⟩) (fun g2 => ?_)
 simp only [E.den, List.map_cons, List.map_nil, List.getD_cons_zero, List.getD_cons_succ, D.toI_int, D.toB_bool, D.toS_str, enc_toA, encS_toR, encS_len, len_str, cmpI_lss] at g2
 simp at g2
 refine ⟨⟨m2, ?_, by omega, by omega, fun _ => ⟨sm_str.2 (by omega), s1 g1, s2 g2⟩⟩, rfl⟩
 simp only [E.den, List.map_cons, List.map_nil, List.getD_cons_zero, List.getD_cons_succ, D.toI_int, D.toB_bool, D.toS_str, enc_toA, encS_toR, encS_len, len_str, cmpI_lss, cells_Entry, e0]
theorem z_EntryS (l : List Entry) (n : Int) (h0 : 0 ≤ n) (h1 : n ≤ 1048576) : ∃ r, isZ n (Sm.sm l) r ∧ Fun Tryz.prog 4 none [encS l, .int .i64 n] r [] := by
 refine Fun.exV vc_laws_szEntryS_ok rfl ty_laws_szEntryS_ok ⟨ty_laws_EntryS l, rfl, trivial⟩ (.int .i64 (-1)) (isZ.no h0) fun hfit => ?_; unfold vc_laws_szEntryS
 have hl : l.length ≤ 9223372036854775807 := fits_encS hfit.1
 have e : arI .sub .i64 n l.length = n - l.length := ar_sub (by omega) (by omega)
 refine den_ite (fun h => ?_) (fun h => ?_)
 ·exact ⟨isZ.no h0, rfl⟩
 simp only [E.den, List.map_cons, List.map_nil, List.getD_cons_zero, List.getD_cons_succ, D.toI_int, D.toB_bool, D.toS_str, enc_toA, encS_toR, encS_len, len_str, cmpI_lss, e] at h
 simp at h
 refine den_loop (Int × Nat) (fun s => [.int .i64 s.1, .int .i64 s.2]) (fun s => s.2 ≤ l.length ∧ s.1 ≤ n - l.length ∧ 0 ≤ s.1 ∧ ∀ i, i < s.2 → Sm.sm (nth l i)) (fun s => l.length - s.2) (n - l.length, 0) (fun s s' h => by simp at h; omega) ?_ ⟨by omega, by omega, by omega, by omega⟩ ?_
 ·simp only [E.den, List.map_cons, List.map_nil, List.getD_cons_zero, List.getD_cons_succ, D.toI_int, D.toB_bool, D.toS_str, enc_toA, encS_toR, encS_len, len_str, cmpI_lss, e]; rfl
 rintro ⟨m, k⟩ ⟨hk, hm, hm0, hI⟩ -
 simp only at hk hm hm0 hI
 simp only [cA]
 refine den_ite (fun h2 => ?_) (fun h2 => ?_)
 ·simp [E.den, cmpI] at h2
  refine den_cond (fun hg => ?_) ?_
  ·simp [E.den]; omega
  ((first | refine den_callE ?_ (z_Entry (nth l k) m hm0 (by omega)) (fun _ h => isZ.ty h) ?_ | refine den_callRE ?_ (z_Entry (nth l k) m hm0 (by omega)) (fun _ h => isZ.ty h) ?_ | refine den_callE ?_ (exR (z_Entry (nth l k) m hm0 (by omega))) (fun _ h => isZ.ty h) ?_); (focus (simp only [VC.den, E.den, dEq, gsH_nil, and_true, row_laws_Entry, Int.toNat_natCast]; try exact rfl)); rintro _ ⟨q, rfl, q1, q2, q3⟩; (simp only [cA]))
  refine den_ite (fun h3 => ?_) (fun h3 => ?_)
  ·exact ⟨isZ.no h0, rfl⟩
  simp only [E.den, List.map_cons, List.map_nil, List.getD_cons_zero, List.getD_cons_succ, D.toI_int, D.toB_bool, D.toS_str, enc_toA, encS_toR, encS_len, len_str, cmpI_lss] at h3
  simp at h3
  refine ⟨(q, k + 1), ?_, ⟨by omega, by omega, h3, fun i hi => ?_⟩, by omega⟩
  ·simp only [E.den, List.map_cons, List.map_nil, List.getD_cons_zero, List.getD_cons_succ, D.toI_int, D.toB_bool, D.toS_str, enc_toA, encS_toR, encS_len, len_str, cmpI_lss]; rw [ar_add (by omega) (by omega)]; rfl
  rcases Nat.lt_or_ge i k with h' | h'
  ·exact hI i h'
  ·obtain rfl : i = k := by omega
   exact q3 h3
 ·simp [E.den, cmpI] at h2
  obtain rfl : k = l.length := by omega
  exact ⟨⟨m, rfl, by omega, by omega, fun _ => sm_list.2 ⟨by omega, hI⟩⟩, rfl⟩
theorem c_laws_eqEntry (x y : Entry) : Fun Tryz.prog 26 none [enc x, enc y] (.bool (decide (x = y))) [] := by
 refine Fun.ofV vc_laws_eqEntry_ok ty_laws_eqEntry_ok rfl ?_ (fun hfit => ?_)
 ·exact ⟨ty_Entry x, ty_Entry y, trivial⟩
 have e := eq_Entry x y
 unfold vc_laws_eqEntry
 refine den_ite (fun h => ?_) (fun h0 => ?_)
 ·simp [E.den, cmpI, cmpS_neq, cells_Entry] at h
  exact den_ret (by simp [E.den, e, h])
 simp [E.den, cmpI, cmpS_neq, cells_Entry] at h0
 ((first | refine den_call ?_ (c_laws_eqStringS x.recipe y.recipe) (trivial) ?_ | refine den_callR ?_ (c_laws_eqStringS x.recipe y.recipe) (trivial) ?_ | refine den_call ?_ (.ofR (c_laws_eqStringS x.recipe y.recipe)) (trivial) ?_); (focus (simp only [VC.den, E.den, dEq, gsH_nil, and_true, cells_Entry]; try exact rfl)); (simp only [cA]))
 refine den_ite (fun h => ?_) (fun h1 => ?_)
 ·simp [E.den] at h
  exact den_ret (by simp [E.den, e, h])
 simp [E.den] at h1
 ((first | refine den_call ?_ (c_laws_eqVersion x.ver y.ver) (trivial) ?_ | refine den_callR ?_ (c_laws_eqVersion x.ver y.ver) (trivial) ?_ | refine den_call ?_ (.ofR (c_laws_eqVersion x.ver y.ver)) (trivial) ?_); (focus (simp only [VC.den, E.den, dEq, gsH_nil, and_true, cells_Entry]; try exact rfl)); (simp only [cA]))
 refine den_ite (fun h => ?_) (fun h2 => ?_)
 ·simp [E.den] at h
  exact den_ret (by simp [E.den, e, h])
 simp [E.den] at h2
 ((first | refine den_call ?_ (c_laws_eqNeedS x.needs y.needs) (trivial) ?_ | refine den_callR ?_ (c_laws_eqNeedS x.needs y.needs) (trivial) ?_ | refine den_call ?_ (.ofR (c_laws_eqNeedS x.needs y.needs)) (trivial) ?_); (focus (simp only [VC.den, E.den, dEq, gsH_nil, and_true, cells_Entry]; try exact rfl)); (simp only [cA]))
 refine den_ite (fun h => ?_) (fun h3 => ?_)
 ·simp [E.den] at h
  exact den_ret (by simp [E.den, e, h])
 simp [E.den] at h3
 exact den_ret (by simp [E.den, e, h0, h1, h2, h3])
theorem c_laws_eqEntryS (l l' : List Entry) : Fun Tryz.prog 9 none [encS l, encS l'] (.bool (decide (l = l'))) [] := by
 refine Fun.ofV vc_laws_eqEntryS_ok ty_laws_eqEntryS_ok rfl ?_ (fun hfit => ?_)
 ·exact ⟨ty_EntryS l, ty_EntryS l', trivial⟩
 have hl : l.length ≤ 9223372036854775807 := fits_encS hfit.1
 unfold vc_laws_eqEntryS
 refine den_ite (fun h => ?_) (fun h => ?_)
 ·simp [E.den, cmpI] at h
  refine den_ret ?_
  have : l ≠ l' := fun e => h (by rw [e])
  simp [E.den, this]
 simp [E.den, cmpI] at h
 have h : l.length = l'.length := by omega
 refine den_for l.length (fun k => [.int .i64 k]) (fun k => ∀ i, i < k → nth l i = nth l' i) rfl (by omega) ?_
 intro k hk hI _
 simp only [cA]
 refine den_ite (fun h2 => ?_) (fun h2 => ?_)
 ·simp [E.den, cmpI] at h2
  refine den_cond (fun hg => ?_) (den_cond (fun hg => ?_) ?_)
  ·simp [E.den]; omega
  ·simp [E.den]; omega
  ((first | refine den_call ?_ (c_laws_eqEntry (nth l k) (nth l' k)) (trivial) ?_ | refine den_callR ?_ (c_laws_eqEntry (nth l k) (nth l' k)) (trivial) ?_ | refine den_call ?_ (.ofR (c_laws_eqEntry (nth l k) (nth l' k))) (trivial) ?_); (focus (simp only [VC.den, E.den, dEq, gsH_nil, and_true, row_Entry, Int.toNat_natCast]; try exact rfl)); (simp only [cA]))
  refine den_ite (fun h3 => ?_) (fun h3 => ?_)
  ·simp [E.den] at h3
   exact den_ret (by have : l ≠ l' := fun e => h3 (by rw [e])
                     simp [E.den, this])
  simp [E.den] at h3
  refine den_next h2 ?_ fun i hi => ?_
  ·simp [E.den]; rw [ar_add (by omega) (by omega)]
  rcases Nat.lt_or_ge i k with h' | h'
  ·exact hI i h'
  ·obtain rfl : i = k := by omega
   exact h3
 ·simp [E.den, cmpI] at h2
  obtain rfl : k = l.length := by omega
  exact den_ret (by simp [E.den, ext_nth h hI])
instance : Sm Link := ⟨fun x => Sm.sm x.frm ∧ Sm.sm x.to⟩
instance : Sm Event := ⟨fun x => Sm.sm x.name ∧ Sm.sm x.call ∧ Sm.sm x.recipe⟩
theorem c_laws_eqEvent (x y : Event) : Fun Tryz.prog 61 none [enc x, enc y] (.bool (decide (x = y))) [] := by
 refine Fun.ofV vc_laws_eqEvent_ok ty_laws_eqEvent_ok rfl ?_ (fun hfit => ?_)
 ·exact ⟨ty_Event x, ty_Event y, trivial⟩
 have e := eq_Event x y
 unfold vc_laws_eqEvent
 refine den_ite (fun h => ?_) (fun h0 => ?_)
 ·simp [E.den, cmpI, cmpS_neq, cells_Event] at h
  exact den_ret (by simp [E.den, e, h])
 simp [E.den, cmpI, cmpS_neq, cells_Event] at h0
 refine den_ite (fun h => ?_) (fun h1 => ?_)
 ·simp [E.den, cmpI, cmpS_neq, cells_Event] at h
  exact den_ret (by simp [E.den, e, h])
 simp [E.den, cmpI, cmpS_neq, cells_Event] at h1
 ((first | refine den_call ?_ (c_laws_eqCall x.call y.call) (trivial) ?_ | refine den_callR ?_ (c_laws_eqCall x.call y.call) (trivial) ?_ | refine den_call ?_ (.ofR (c_laws_eqCall x.call y.call)) (trivial) ?_); (focus (simp only [VC.den, E.den, dEq, gsH_nil, and_true, cells_Event]; try exact rfl)); (simp only [cA]))
 refine den_ite (fun h => ?_) (fun h2 => ?_)
 ·simp [E.den] at h
  exact den_ret (by simp [E.den, e, h])
 simp [E.den] at h2
 ((first | refine den_call ?_ (c_laws_eqStringS x.recipe y.recipe) (trivial) ?_ | refine den_callR ?_ (c_laws_eqStringS x.recipe y.recipe) (trivial) ?_ | refine den_call ?_ (.ofR (c_laws_eqStringS x.recipe y.recipe)) (trivial) ?_); (focus (simp only [VC.den, E.den, dEq, gsH_nil, and_true, cells_Event]; try exact rfl)); (simp only [cA]))
 refine den_ite (fun h => ?_) (fun h3 => ?_)
 ·simp [E.den] at h
  exact den_ret (by simp [E.den, e, h])
 simp [E.den] at h3
 exact den_ret (by simp [E.den, e, h0, h1, h2, h3])
theorem c_laws_eqEventS (l l' : List Event) : Fun Tryz.prog 25 none [encS l, encS l'] (.bool (decide (l = l'))) [] := by
 refine Fun.ofV vc_laws_eqEventS_ok ty_laws_eqEventS_ok rfl ?_ (fun hfit => ?_)
 ·exact ⟨ty_EventS l, ty_EventS l', trivial⟩
 have hl : l.length ≤ 9223372036854775807 := fits_encS hfit.1
 unfold vc_laws_eqEventS
 refine den_ite (fun h => ?_) (fun h => ?_)
 ·simp [E.den, cmpI] at h
  refine den_ret ?_
  have : l ≠ l' := fun e => h (by rw [e])
  simp [E.den, this]
 simp [E.den, cmpI] at h
 have h : l.length = l'.length := by omega
 refine den_for l.length (fun k => [.int .i64 k]) (fun k => ∀ i, i < k → nth l i = nth l' i) rfl (by omega) ?_
 intro k hk hI _
 simp only [cA]
 refine den_ite (fun h2 => ?_) (fun h2 => ?_)
 ·simp [E.den, cmpI] at h2
  refine den_cond (fun hg => ?_) (den_cond (fun hg => ?_) ?_)
  ·simp [E.den]; omega
  ·simp [E.den]; omega
  ((first | refine den_call ?_ (c_laws_eqEvent (nth l k) (nth l' k)) (trivial) ?_ | refine den_callR ?_ (c_laws_eqEvent (nth l k) (nth l' k)) (trivial) ?_ | refine den_call ?_ (.ofR (c_laws_eqEvent (nth l k) (nth l' k))) (trivial) ?_); (focus (simp only [VC.den, E.den, dEq, gsH_nil, and_true, row_Event, Int.toNat_natCast]; try exact rfl)); (simp only [cA]))
  refine den_ite (fun h3 => ?_) (fun h3 => ?_)
  ·simp [E.den] at h3
   exact den_ret (by have : l ≠ l' := fun e => h3 (by rw [e])
                     simp [E.den, this])
  simp [E.den] at h3
  refine den_next h2 ?_ fun i hi => ?_
  ·simp [E.den]; rw [ar_add (by omega) (by omega)]
  rcases Nat.lt_or_ge i k with h' | h'
  ·exact hI i h'
  ·obtain rfl : i = k := by omega
   exact h3
 ·simp [E.den, cmpI] at h2
  obtain rfl : k = l.length := by omega
  exact den_ret (by simp [E.den, ext_nth h hI])
instance : Sm Host := ⟨fun x => Sm.sm x.entries ∧ Sm.sm x.parts ∧ Sm.sm x.up ∧ Sm.sm x.shut ∧ Sm.sm x.log⟩
theorem c_laws_eqHost (x y : Host) : Fun Tryz.prog 8 none [enc x, enc y] (.bool (decide (x = y))) [] := by
 refine Fun.ofV vc_laws_eqHost_ok ty_laws_eqHost_ok rfl ?_ (fun hfit => ?_)
 ·exact ⟨ty_Host x, ty_Host y, trivial⟩
 have e := eq_Host x y
 unfold vc_laws_eqHost
 ((first | refine den_call ?_ (c_laws_eqEntryS x.entries y.entries) (trivial) ?_ | refine den_callR ?_ (c_laws_eqEntryS x.entries y.entries) (trivial) ?_ | refine den_call ?_ (.ofR (c_laws_eqEntryS x.entries y.entries)) (trivial) ?_); (focus (simp only [VC.den, E.den, dEq, gsH_nil, and_true, cells_Host]; try exact rfl)); (simp only [cA]))
 refine den_ite (fun h => ?_) (fun h0 => ?_)
 ·simp [E.den] at h
  exact den_ret (by simp [E.den, e, h])
 simp [E.den] at h0
 ((first | refine den_call ?_ (c_laws_eqPartS x.parts y.parts) (trivial) ?_ | refine den_callR ?_ (c_laws_eqPartS x.parts y.parts) (trivial) ?_ | refine den_call ?_ (.ofR (c_laws_eqPartS x.parts y.parts)) (trivial) ?_); (focus (simp only [VC.den, E.den, dEq, gsH_nil, and_true, cells_Host]; try exact rfl)); (simp only [cA]))
 refine den_ite (fun h => ?_) (fun h1 => ?_)
 ·simp [E.den] at h
  exact den_ret (by simp [E.den, e, h])
 simp [E.den] at h1
 ((first | refine den_call ?_ (c_laws_eqStringS x.up y.up) (trivial) ?_ | refine den_callR ?_ (c_laws_eqStringS x.up y.up) (trivial) ?_ | refine den_call ?_ (.ofR (c_laws_eqStringS x.up y.up)) (trivial) ?_); (focus (simp only [VC.den, E.den, dEq, gsH_nil, and_true, cells_Host]; try exact rfl)); (simp only [cA]))
 refine den_ite (fun h => ?_) (fun h2 => ?_)
 ·simp [E.den] at h
  exact den_ret (by simp [E.den, e, h])
 simp [E.den] at h2
 ((first | refine den_call ?_ (c_laws_eqStringS x.shut y.shut) (trivial) ?_ | refine den_callR ?_ (c_laws_eqStringS x.shut y.shut) (trivial) ?_ | refine den_call ?_ (.ofR (c_laws_eqStringS x.shut y.shut)) (trivial) ?_); (focus (simp only [VC.den, E.den, dEq, gsH_nil, and_true, cells_Host]; try exact rfl)); (simp only [cA]))
 refine den_ite (fun h => ?_) (fun h3 => ?_)
 ·simp [E.den] at h
  exact den_ret (by simp [E.den, e, h])
 simp [E.den] at h3
 ((first | refine den_call ?_ (c_laws_eqEventS x.log y.log) (trivial) ?_ | refine den_callR ?_ (c_laws_eqEventS x.log y.log) (trivial) ?_ | refine den_call ?_ (.ofR (c_laws_eqEventS x.log y.log)) (trivial) ?_); (focus (simp only [VC.den, E.den, dEq, gsH_nil, and_true, cells_Host]; try exact rfl)); (simp only [cA]))
 refine den_ite (fun h => ?_) (fun h4 => ?_)
 ·simp [E.den] at h
  exact den_ret (by simp [E.den, e, h])
 simp [E.den] at h4
 exact den_ret (by simp [E.den, e, h0, h1, h2, h3, h4])
end Go.Proofs.YtimickglpboilaaGreat
/- What the rows ask of the seat's program as a whole, decided once. -/
namespace Go.Proofs.YtimickglpboilaaGreat
open Go
theorem jfOwn : ownKnob Tryz.prog.godebug = none := by kernel_rfl
theorem jfLaid : laidOutB Tryz.prog = true := by kernel_rfl
theorem jfRowed : mapsRowed Tryz.prog = true := by kernel_rfl
theorem jfStops : (Tryz.prog.stops == []) = true := by kernel_rfl
theorem jfKnobs : (Tryz.prog.stopKnobs == []) = true := by kernel_rfl
theorem jfKeys : (Rows.fnExactNewHostRow.plainKeys == Tryz.prog.plainKeys) = true := by kernel_rfl
theorem jfHeard : Tryz.prog.stopsHeard = true := by kernel_rfl
theorem jfEnter : Tryz.prog.mayEnter = true := by kernel_rfl
theorem jfLifted : (Rows.fnExactNewHostRow.lifted == Tryz.prog.liftsFinal) = true := by kernel_rfl
theorem jfMake : (Tryz.prog.make == some Rows.fnExactNewHostRow.make) = true := by kernel_rfl
theorem and_tt {a b : Bool} (ha : a = true) (hb : b = true) : (a && b) = true := by rw [ha, hb]; rfl
instance instGC : GC := ⟨fun _ => True, 0, fun _ _ => trivial⟩
end Go.Proofs.YtimickglpboilaaGreat
