/- Writing marks into memory of one's own: what stays, what the shape of data is, a row of leaves with one cell written. No program in sight. -/
import Derived.Test.YthoafgehfgblaaaBRowN
namespace Go.Proofs.Ythoafgehfgblaaa
open Go.RowKit Go
set_option linter.unusedVariables false
set_option linter.unusedSimpArgs false
set_option linter.unusedSectionVars false
variable [GC]
/-- All but what is new since B and may be written. -/
def NF (w : World) (B : Nat) : Addr → Prop := fun p => p.block < B ∨ w.frozen? p = true
def Same (u u' : Value) : Prop := u' = u ∨ (∃ s s' : ByteArray, u = .string s ∧ u' = .string s' ∧ s'.size ≤ maxLen) ∨ ∃ (k : IntKind) (n n' : Int), u = .int k n ∧ u' = .int k n' ∧ k.min ≤ n' ∧ n' ≤ k.max
theorem Same.trans {a b c : Value} (h : Same a b) (h' : Same b c) : Same a c := by
  rcases h with rfl | ⟨s, s', rfl, rfl, h⟩ | ⟨k, n, n', rfl, rfl, h⟩
  · exact h'
  · rcases h' with rfl | ⟨t, t', e, rfl, h'⟩ | ⟨k, n, n', e, _⟩
    · exact .inr (.inl ⟨s, s', rfl, rfl, h⟩)
    · exact .inr (.inl ⟨s, t', rfl, rfl, h'⟩)
    · cases e
  · rcases h' with rfl | ⟨t, t', e, _⟩ | ⟨k', m, m', e, rfl, h'⟩
    · exact .inr (.inr ⟨k, n, n', rfl, rfl, h⟩)
    · cases e
    · cases e
      exact .inr (.inr ⟨k, n, m', rfl, rfl, h'⟩)
/-- Only cells of A are written, and by what is like what they held. -/
structure Alt (A : Addr → Prop) (w w' : World) : Prop where
  size : w.heap.size ≤ w'.heap.size
  fro : ∀ p : Addr, p.block < w.heap.size → w'.frozen? p = w.frozen? p
  keep : ∀ p v, w.cell? p = some v → ¬ A p → w'.cell? p = some v
  same : ∀ p u, w.cell? p = some u → ∃ u', w'.cell? p = some u' ∧ Same u u'
  env : w'.os = w.os ∧ w'.tape = w.tape ∧ w'.output = w.output
  blk : ∀ k, k < w.heap.size → (∀ p : Addr, p.block = k → ¬ A p) → w'.heap[k]? = w.heap[k]?
theorem Alt.refl (A : Addr → Prop) (w : World) : Alt A w w := ⟨Nat.le_refl _, fun _ _ => rfl, fun _ _ h _ => h, fun _ u h => ⟨u, h, .inl rfl⟩, ⟨rfl, rfl, rfl⟩, fun _ _ _ => rfl⟩
theorem Alt.trans {A : Addr → Prop} {w w' w'' : World} (h : Alt A w w') (h' : Alt A w' w'') : Alt A w w'' where
  size := Nat.le_trans h.size h'.size
  fro := fun p hp => by rw [h'.fro p (Nat.lt_of_lt_of_le hp h.size), h.fro p hp]
  keep := fun p v hp ha => h'.keep p v (h.keep p v hp ha) ha
  same := fun p u hp => by
    obtain ⟨u1, h1, h2⟩ := h.same p u hp
    obtain ⟨u2, h3, h4⟩ := h'.same p u1 h1
    exact ⟨u2, h3, h2.trans h4⟩
  env := ⟨h'.env.1.trans h.env.1, h'.env.2.1.trans h.env.2.1, h'.env.2.2.trans h.env.2.2⟩
  blk := fun k hk ha => (h'.blk k (Nat.lt_of_lt_of_le hk h.size) ha).trans (h.blk k hk ha)
theorem Alt.mono {A A' : Addr → Prop} {w w' : World} (h : Alt A w w') (hA : ∀ p, p.block < w.heap.size → A p → A' p) : Alt A' w w' :=
  ⟨h.size, h.fro, fun p v hp ha => h.keep p v hp fun h => ha (hA p (block_lt_of_cell hp) h), h.same, h.env, fun k hk ha => h.blk k hk fun p hp hq => ha p hp (hA p (by rw [hp]; exact hk) hq)⟩
theorem fro_of_block {w w' : World} {p : Addr} (h : w'.heap[p.block]? = w.heap[p.block]?) : w'.frozen? p = w.frozen? p := by
  unfold World.frozen?; rw [h]
theorem Alt.below {A : Addr → Prop} {w w' : World} (h : Below w.heap.size w w') : Alt A w w' :=
  ⟨h.size, fun p hp => fro_of_block (h.block p.block hp), fun p v hp _ => by rw [h.cell (block_lt_of_cell hp)]; exact hp, fun p u hp => ⟨u, by rw [h.cell (block_lt_of_cell hp)]; exact hp, .inl rfl⟩, ⟨h.os, h.tape, h.output⟩, fun k hk _ => h.block k hk⟩
theorem cell_set_ne {w : World} {a p : Addr} {v : Value} (h : p ≠ a) (hs : a.spot = none) (hp : p.spot = none ∨ True) : (w.setCell a v).cell? p = w.cell? p ∨ (p.block = a.block ∧ p.off = a.off) := by
  by_cases hb : p.block = a.block
  · by_cases ho : p.off = a.off
    · exact .inr ⟨hb, ho⟩
    · left
      unfold World.cell? World.setCell
      rw [hb]
      simp only [Array.getElem?_modify]
      cases hw : w.heap[a.block]? with
      | none => simp
      | some x =>
        cases x with
        | cells c e f =>
          simp only [hs, Option.isSome_none, Option.map_some, if_true]
          split
          · rfl
          · simp [Array.getElem?_setIfInBounds, Ne.symm ho]
        | _ => simp
  · left
    exact World.cell?_of_block (Below.heap_setCell _ _ _ _ hb)
theorem cell_spot {w : World} {p : Addr} {v : Value} (h : w.cell? p = some v) : p.spot = none := by
  unfold World.cell? at h
  split at h
  · split at h
    · cases h
    · rename_i hs; simpa using hs
  · cases h
theorem cell_at {w : World} {a : Addr} {u v : Value} (h : w.cell? a = some u) : (w.setCell a v).cell? a = some v := by
  have hs := cell_spot h
  unfold World.cell? World.setCell at *
  simp only [Array.getElem?_modify, if_true]
  cases hw : w.heap[a.block]? with
  | none => rw [hw] at h; cases h
  | some x =>
    rw [hw] at h
    cases x with
    | cells c e f =>
      simp only [hs, Option.isSome_none, Bool.false_eq_true, if_false, Option.map_some] at h ⊢
      have := (Array.getElem?_eq_some_iff.1 h).1
      simp [Array.getElem?_setIfInBounds, this]
    | _ => cases h
theorem size_setCell (w : World) (a : Addr) (v : Value) : (w.setCell a v).heap.size = w.heap.size := by unfold World.setCell; simp
theorem fro_setCell (w : World) (a p : Addr) (v : Value) : (w.setCell a v).frozen? p = w.frozen? p := by
  unfold World.frozen? World.setCell
  simp only [Array.getElem?_modify]
  by_cases hb : a.block = p.block
  · simp only [hb, if_true]
    cases hw : w.heap[p.block]? with
    | none => simp
    | some x => cases x <;> simp
  · simp [hb]
theorem Alt.set {A : Addr → Prop} {w : World} {a : Addr} {u v : Value} (hA : A a) (h : w.cell? a = some u) (hs : Same u v) : Alt A w (w.setCell a v) := by
  have hsp := cell_spot h
  refine ⟨by rw [size_setCell]; exact Nat.le_refl _, fun p _ => fro_setCell _ _ _ _, fun p x hp ha => ?_, fun p x hp => ?_, ⟨rfl, rfl, rfl⟩, fun k _ ha => Below.heap_setCell _ _ _ _ fun e => ha a e.symm hA⟩
  · rcases cell_set_ne (w := w) (v := v) (p := p) (a := a) (fun e => ha (by rw [e]; exact hA)) hsp (.inr trivial) with h1 | ⟨h1, h2⟩
    · rw [h1]; exact hp
    · have h3 := cell_spot hp
      have : p = a := by cases p; cases a; simp_all
      exact absurd (this.symm ▸ hA) ha
  · by_cases e : p = a
    · subst e
      rw [h] at hp; cases hp
      exact ⟨v, cell_at h, hs⟩
    · rcases cell_set_ne (w := w) (v := v) (p := p) (a := a) e hsp (.inr trivial) with h1 | ⟨h1, h2⟩
      · exact ⟨x, by rw [h1]; exact hp, .inl rfl⟩
      · have h3 := cell_spot hp
        exact absurd (by cases p; cases a; simp_all) e
/-- A reading that lies outside what is written stays. -/
theorem Alt.keeps {A M M' : Addr → Prop} {w w' : World} (h : Alt A w w') (hA : ∀ p, A p → M p) (hM : ∀ p, p.block < w.heap.size → M' p → M p) : Keeps w M w' M' :=
  fun p v hp hn => ⟨h.keep p v hp fun ha => hn (hA p ha), fun hm => hn (hM p (block_lt_of_cell hp) hm)⟩
theorem R.up {w : World} {M : Addr → Prop} {d : D} {v : Value} (h : R w M d v) : R w (fun p => M p ∨ w.heap.size ≤ p.block) d v :=
  R.keep (fun p v hp hn => ⟨hp, fun hm => hm.elim hn fun h => by have := block_lt_of_cell hp; omega⟩) d v h
/-- Fewer cells are barred. -/
theorem R.less {w : World} {M M' : Addr → Prop} {d : D} {v : Value} (h : R w M d v) (hM : ∀ p, M' p → M p) : R w M' d v :=
  R.keep (fun p v hp hn => ⟨hp, fun hm => hn (hM p hm)⟩) d v h
mutual
/-- Like data: the same but for numbers and texts. -/
def Sh : D → D → Prop
  | .str _, d' => ∃ s, d' = .str s
  | .int k _, d' => ∃ n, d' = .int k n
  | .sl rows, d' => ∃ rows', d' = .sl rows' ∧ ShR rows rows'
  | .agg l, d' => ∃ l', d' = .agg l' ∧ ShL l l'
  | .tup l, d' => ∃ l', d' = .tup l' ∧ ShL l l'
  | .fn f caps, d' => ∃ caps', d' = .fn f caps' ∧ ShR caps caps'
  | .bool b, d' => d' = .bool b
  | .mem n, d' => d' = .mem n
  | .un, d' => d' = .un
def ShL : List D → List D → Prop
  | [], l' => l' = []
  | d :: l, l' => ∃ d' r', l' = d' :: r' ∧ Sh d d' ∧ ShL l r'
def ShR : List (List D) → List (List D) → Prop
  | [], l' => l' = []
  | r :: l, l' => ∃ d' r', l' = d' :: r' ∧ ShL r d' ∧ ShR l r'
end
theorem ShL.length : ∀ {l l' : List D}, ShL l l' → l'.length = l.length
  | [], _, h => by subst h; rfl
  | _ :: l, _, ⟨_, _, e, _, h⟩ => by subst e; simp [ShL.length h]
theorem ShR.length : ∀ {l l' : List (List D)}, ShR l l' → l'.length = l.length
  | [], _, h => by subst h; rfl
  | _ :: l, _, ⟨_, _, e, _, h⟩ => by subst e; simp [ShR.length h]
theorem sh_val {w : World} {M : Addr → Prop} : ∀ {d : D} {u u' : Value}, R w M d u → Same u u' → u' = u ∨ ∃ d', Sh d d' ∧ ∀ (w' : World) (M' : Addr → Prop), R w' M' d' u'
  | d, u, u', hr, h => by
    rcases h with rfl | ⟨s, s', rfl, rfl, h⟩ | ⟨k, n, n', rfl, rfl, h⟩
    · exact .inl rfl
    · right
      cases d with
      | str t => exact ⟨.str s', ⟨_, rfl⟩, fun _ _ => ⟨rfl, h⟩⟩
      | bool b => cases (show Value.string s = .bool b from hr)
      | int k n => cases hr.1
      | agg l => obtain ⟨cs, e, _⟩ := hr; cases e
      | tup l => obtain ⟨cs, e, _⟩ := hr; cases e
      | sl rows => obtain ⟨a, len, cap, e, _⟩ := hr; cases e
      | mem n => obtain ⟨a, cap, e, _⟩ := hr; cases e
      | fn f c => obtain ⟨ps, e, _⟩ := hr; cases e
      | un => exact hr.elim
    · right
      cases d with
      | str t => cases hr.1
      | bool b => cases (show Value.int k n = .bool b from hr)
      | int k2 m =>
        cases hr.1
        exact ⟨.int k n', ⟨_, rfl⟩, fun _ _ => ⟨rfl, h⟩⟩
      | agg l => obtain ⟨cs, e, _⟩ := hr; cases e
      | tup l => obtain ⟨cs, e, _⟩ := hr; cases e
      | sl rows => obtain ⟨a, len, cap, e, _⟩ := hr; cases e
      | mem n => obtain ⟨a, cap, e, _⟩ := hr; cases e
      | fn f c => obtain ⟨ps, e, _⟩ := hr; cases e
      | un => exact hr.elim
section
variable {w w' : World} {A M M' : Addr → Prop}
mutual
theorem R.shape (h : Alt A w w') (hM : ∀ p, p.block < w.heap.size → M' p → M p) : ∀ (d : D) (v : Value), R w M d v → ∃ d', Sh d d' ∧ R w' M' d' v
  | .bool b, _, hr => ⟨.bool b, rfl, hr⟩
  | .int k n, _, hr => ⟨.int k n, ⟨_, rfl⟩, hr⟩
  | .str s, _, hr => ⟨.str s, ⟨_, rfl⟩, hr⟩
  | .agg l, v, ⟨cs, e, hr⟩ => by
    obtain ⟨l', h1, h2⟩ := Rs.shape h hM l _ hr
    exact ⟨.agg l', ⟨_, rfl, h1⟩, cs, e, h2⟩
  | .tup l, v, ⟨cs, e, hr⟩ => by
    obtain ⟨l', h1, h2⟩ := Rs.shape h hM l _ hr
    exact ⟨.tup l', ⟨_, rfl, h1⟩, cs, e, h2⟩
  | .sl rows, v, ⟨a, len, cap, e, h1, h2, h3, h4, h5⟩ => by
    rcases a with _ | ⟨b, o, s⟩
    · have : rows = [] := List.eq_nil_of_length_eq_zero (by have := h4 rfl; omega)
      subst this
      exact ⟨.sl [], ⟨_, rfl, rfl⟩, none, len, cap, e, h1, h2, h3, h4, fun b o s ha => by cases ha⟩
    · obtain ⟨rows', q1, q2⟩ := Rws.shape h hM rows b o (h5 b o s rfl).2
      refine ⟨.sl rows', ⟨_, rfl, q1⟩, _, len, cap, e, by rw [q1.length]; exact h1, h2, h3, h4, fun b' o' s' ha => ?_⟩
      cases ha
      exact ⟨(h5 b o s rfl).1, q2⟩
  | .mem n, _, hr => ⟨.mem n, rfl, hr⟩
  | .fn f caps, v, ⟨ps, e, hr⟩ => by
    obtain ⟨c', h1, h2⟩ := Rps.shape h hM caps _ hr
    exact ⟨.fn f c', ⟨_, rfl, h1⟩, ps, e, h2⟩
  | .un, _, hr => hr.elim
theorem Rs.shape (h : Alt A w w') (hM : ∀ p, p.block < w.heap.size → M' p → M p) : ∀ (l : List D) (vs : List Value), Rs w M l vs → ∃ l', ShL l l' ∧ Rs w' M' l' vs
  | [], _, hr => ⟨[], rfl, hr⟩
  | d :: l, vs, ⟨v, r, e, h1, h2⟩ => by
    obtain ⟨d', q1, q2⟩ := R.shape h hM d v h1
    obtain ⟨l', q3, q4⟩ := Rs.shape h hM l r h2
    exact ⟨d' :: l', ⟨_, _, rfl, q1, q3⟩, v, r, e, q2, q4⟩
theorem Rw.shape (h : Alt A w w') (hM : ∀ p, p.block < w.heap.size → M' p → M p) : ∀ (l : List D) (b o : Nat), Rw w M l b o → ∃ l', ShL l l' ∧ Rw w' M' l' b o
  | [], _, _, _ => ⟨[], rfl, trivial⟩
  | d :: l, b, o, ⟨⟨v, h1, h2, h3⟩, h4⟩ => by
    obtain ⟨l', q3, q4⟩ := Rw.shape h hM l b (o + 1) h4
    obtain ⟨u', q5, q6⟩ := h.same _ _ h1
    have hn : ¬ M' ⟨b, o, none⟩ := fun hm => h2 (hM ⟨b, o, none⟩ (block_lt_of_cell h1) hm)
    obtain ⟨d0, q1, q2⟩ := R.shape h hM d v h3
    rcases sh_val h3 q6 with rfl | ⟨d', q7, q8⟩
    · exact ⟨d0 :: l', ⟨_, _, rfl, q1, q3⟩, ⟨_, q5, hn, q2⟩, q4⟩
    · exact ⟨d' :: l', ⟨_, _, rfl, q7, q3⟩, ⟨_, q5, hn, q8 _ _⟩, q4⟩
theorem Rws.shape (h : Alt A w w') (hM : ∀ p, p.block < w.heap.size → M' p → M p) : ∀ (l : List (List D)) (b o : Nat), Rws w M l b o → ∃ l', ShR l l' ∧ Rws w' M' l' b o
  | [], _, _, _ => ⟨[], rfl, trivial⟩
  | r :: l, b, o, ⟨h1, h2⟩ => by
    obtain ⟨r', q1, q2⟩ := Rw.shape h hM r b o h1
    obtain ⟨l', q3, q4⟩ := Rws.shape h hM l b (o + r.length) h2
    exact ⟨r' :: l', ⟨_, _, rfl, q1, q3⟩, q2, by rw [q1.length]; exact q4⟩
theorem Rps.shape (h : Alt A w w') (hM : ∀ p, p.block < w.heap.size → M' p → M p) : ∀ (l : List (List D)) (vs : List Value), Rps w M l vs → ∃ l', ShR l l' ∧ Rps w' M' l' vs
  | [], _, hr => ⟨[], rfl, hr⟩
  | r :: l, vs, ⟨b, q, e, h1, h2⟩ => by
    obtain ⟨r', q1, q2⟩ := Rw.shape h hM r b 0 h1
    obtain ⟨l', q3, q4⟩ := Rps.shape h hM l q h2
    exact ⟨r' :: l', ⟨_, _, rfl, q1, q3⟩, b, q, e, q2, q4⟩
end
end
/-! Rows of leaves -/
def leafD : D → Bool
  | .bool _ | .int _ _ | .str _ => true
  | _ => false
theorem leaf_move {w w' : World} {M M' : Addr → Prop} {d : D} {v : Value} (hl : leafD d = true) (h : R w M d v) : R w' M' d v := by
  cases d <;> simp [leafD] at hl <;> exact h
/-- A slice's cells, and back. -/
theorem flat_cells {w : World} {M : Addr → Prop} {rows : List (List D)} {n b o len cap : Nat} {s : Option Nat} (hn : ∀ r ∈ rows, r.length = n) (h : R w M (.sl rows) (.slice (some ⟨b, o, s⟩) len cap)) {i j : Nat} {r : List D} {d : D} (hi : rows[i]? = some r) (hj : r[j]? = some d) :
    ∃ u, w.cell? ⟨b, o + i * n + j, none⟩ = some u ∧ ¬ M ⟨b, o + i * n + j, none⟩ ∧ R w M d u := by
  obtain ⟨a, len', cap', e, h1, h2, h3, h4, h5⟩ := h
  cases e
  exact ((h5 b o s rfl).2.get hn hi).get hj
theorem flat_of {w : World} {M : Addr → Prop} {rows : List (List D)} {n b o len cap : Nat} {s : Option Nat} (hn : ∀ r ∈ rows, r.length = n) (h1 : len = rows.length) (h2 : len ≤ cap) (h3 : cap ≤ maxLen) (h4 : 0 < len → s = none)
    (hc : ∀ (i j : Nat) (r : List D) (d : D), rows[i]? = some r → r[j]? = some d → ∃ u, w.cell? ⟨b, o + i * n + j, none⟩ = some u ∧ ¬ M ⟨b, o + i * n + j, none⟩ ∧ R w M d u) : R w M (.sl rows) (.slice (some ⟨b, o, s⟩) len cap) := by
  refine ⟨_, _, _, rfl, h1, h2, h3, (fun e => by cases e), fun b' o' s' e => ?_⟩
  cases e
  exact ⟨h4, Rws.of hn fun i r hr => Rw.of fun j d hd => hc i j r d hr hd⟩
theorem flat_set {w : World} {M : Addr → Prop} {rows : List (List D)} {n b o len cap i j : Nat} {s : Option Nat} {r : List D} {x : D} {u : Value} (hn : ∀ r ∈ rows, r.length = n) (hlf : ∀ r ∈ rows, ∀ d ∈ r, leafD d = true)
    (h : R w M (.sl rows) (.slice (some ⟨b, o, s⟩) len cap)) (hi : rows[i]? = some r) (hj : j < n) (hx : ∀ (w : World) (M : Addr → Prop), R w M x u) :
    R (w.setCell ⟨b, o + i * n + j, none⟩ u) M (.sl (rows.set i (r.set j x))) (.slice (some ⟨b, o, s⟩) len cap) := by
  have hr := hn r (List.mem_of_getElem? hi)
  have hlt := (List.getElem?_eq_some_iff.1 hi).1
  have h0 := h
  obtain ⟨a, len', cap', e, h1, h2, h3, h4, h5⟩ := h
  cases e
  refine flat_of (n := n) (fun r' hr' => ?_) (by simpa using h1) h2 h3 (h5 b o s rfl).1 fun i' j' r' d hi' hj' => ?_
  · rcases List.mem_or_eq_of_mem_set hr' with h | rfl
    · exact hn r' h
    · simpa using hr
  · have hr'l : r'.length = n := by
      have := List.mem_of_getElem? hi'
      rcases List.mem_or_eq_of_mem_set this with h | rfl
      · exact hn r' h
      · simpa using hr
    have hj'n : j' < n := by rw [← hr'l]; exact (List.getElem?_eq_some_iff.1 hj').1
    by_cases hij : i' = i ∧ j' = j
    · obtain ⟨rfl, rfl⟩ := hij
      obtain ⟨d0, hd0⟩ : ∃ d0, r[j']? = some d0 := ⟨_, List.getElem?_eq_getElem (by omega)⟩
      obtain ⟨u0, c1, c2, c3⟩ := flat_cells hn h0 hi hd0
      rw [List.getElem?_set_self hlt] at hi'
      cases hi'
      rw [List.getElem?_set_self (by omega)] at hj'
      cases hj'
      exact ⟨u, cell_at c1, c2, hx _ _⟩
    · have hold : ∃ r0, rows[i']? = some r0 ∧ r0[j']? = some d := by
        by_cases e : i' = i
        · subst e
          rw [List.getElem?_set_self hlt] at hi'
          cases hi'
          refine ⟨r, hi, ?_⟩
          rwa [List.getElem?_set_ne (fun e => hij ⟨rfl, e.symm⟩)] at hj'
        · rw [List.getElem?_set_ne (fun e' => e e'.symm)] at hi'
          exact ⟨r', hi', hj'⟩
      obtain ⟨r0, q1, q2⟩ := hold
      obtain ⟨u0, c1, c2, c3⟩ := flat_cells hn h0 q1 q2
      refine ⟨u0, ?_, c2, leaf_move (hlf r0 (List.mem_of_getElem? q1) d (List.mem_of_getElem? q2)) c3⟩
      have hne : o + i' * n + j' ≠ o + i * n + j := by
        intro e
        have e2 : i' * n + j' = i * n + j := by omega
        have h6 : i' = i := by
          have h7 : (i' * n + j') / n = (i * n + j) / n := by rw [e2]
          rwa [Nat.mul_comm i', Nat.mul_comm i, Nat.mul_add_div (by omega), Nat.mul_add_div (by omega), Nat.div_eq_of_lt hj'n, Nat.div_eq_of_lt hj, Nat.add_zero, Nat.add_zero] at h7
        subst h6
        exact hij ⟨rfl, by omega⟩
      rcases cell_set_ne (w := w) (v := u) (p := ⟨b, o + i' * n + j', none⟩) (a := ⟨b, o + i * n + j, none⟩) (fun e => hne (congrArg Addr.off e)) rfl (.inr trivial) with h7 | ⟨_, h7⟩
      · rw [h7]; exact c1
      · exact absurd h7 hne
theorem Fun.calls {P : Program} {f : FuncId} {ds : List D} {r : D} (h : Fun P f none ds r []) {w : World} {M : Addr → Prop} {vs : List Value} (hG : Rdy w M) (hr : Rs w M ds vs) :
    Calls P f vs.toArray w fun e w' => ∃ v, e = .returned v ∧ R w' M r v ∧ Below w.heap.size w w' :=
  (h.2 w M 0 vs hG hr (fun cs h => by cases h)).mono fun e w' ⟨v, h1, h2, h3, _⟩ => ⟨v, h1, h2, h3.to_below⟩
/-- A store that goes through. -/
theorem store_run {P : Program} {w : World} {a : Addr} {u v : Value} (h : w.cell? a = some u) (hf : w.frozen? a = false) (hone : v.oneCell' = true) : (store a v).run P w = .ok () (w.setCell a v) := by
  rw [run_store P w a v .plain hone, h, hf]; rfl
theorem Alt.to_below {A : Addr → Prop} {w w' : World} {B : Nat} (h : Alt A w w') (hB : B ≤ w.heap.size) (hA : ∀ p, A p → B ≤ p.block) : Below B w w' :=
  ⟨h.env.1, h.env.2.1, h.env.2.2, h.size, fun k hk => h.blk k (Nat.lt_of_lt_of_le hk hB) fun p hp ha => by have := hA p ha; omega⟩
theorem nf_keep {w w' : World} {h : Nat} {d : D} {v : Value} (hr : R w (NF w h) d v) (hb : Below w.heap.size w w') : R w' (NF w' h) d v :=
  R.keep (Keeps.below hb fun p hp hm => hm.imp id fun hf => by rw [← fro_of_block (w' := w') (hb.block p.block hp)]; exact hf) _ _ hr
theorem nf_alt {A : Addr → Prop} {w w' : World} {h : Nat} {d : D} {v : Value} (hr : R w (NF w h) d v) (ha : Alt A w w') (hA : ∀ p, A p → NF w h p) : R w' (NF w' h) d v :=
  R.keep (ha.keeps hA fun p hp hm => hm.imp id fun hf => by rw [← ha.fro p hp]; exact hf) _ _ hr
theorem up_alt {A : Addr → Prop} {w w' : World} {h : Nat} {d : D} {v : Value} (hr : R w (fun p => h ≤ p.block) d v) (ha : Alt A w w') (hA : ∀ p, A p → h ≤ p.block) : R w' (fun p => h ≤ p.block) d v :=
  R.keep (ha.keeps hA fun _ _ hm => hm) _ _ hr
theorem up_keep {w w' : World} {h : Nat} {d : D} {v : Value} (hr : R w (fun p => h ≤ p.block) d v) (hb : Below w.heap.size w w') : R w' (fun p => h ≤ p.block) d v :=
  R.keep (Keeps.below hb fun _ _ hm => hm) _ _ hr
theorem R.zero {w : World} {M : Addr → Prop} {d : D} {v : Value} (hr : R w M d v) : R w (fun _ => False) d v := R.less hr fun _ h => h.elim
theorem R.over {w : World} {d : D} {v : Value} (hr : R w (fun _ => False) d v) : R w (fun p => w.heap.size ≤ p.block) d v := R.less (R.up hr) fun _ h => .inr h
/-! Rows by a function -/
def rowsM (n : Nat) (f : Nat → List D) : List (List D) := (List.range n).map f
theorem rowsM_len (n : Nat) (f : Nat → List D) : (rowsM n f).length = n := by simp [rowsM]
theorem rowsM_get {n : Nat} {f : Nat → List D} {i : Nat} (h : i < n) : (rowsM n f)[i]? = some (f i) := by simp [rowsM, h]
theorem rowsM_set {n : Nat} {f : Nat → List D} {i : Nat} {x : List D} : (rowsM n f).set i x = rowsM n (fun a => if a = i then x else f a) := by
  apply List.ext_getElem?
  intro j
  rw [List.getElem?_set]
  by_cases hj : j < n
  · by_cases e : i = j
    · subst e; simp [rowsM, hj]
    · rw [if_neg e]
      simp [rowsM, hj]
      intro h; exact absurd h.symm e
  · by_cases e : i = j
    · subst e
      rw [if_pos rfl, if_neg (by simp [rowsM]; omega), List.getElem?_eq_none (by simp [rowsM]; omega)]
    · rw [if_neg e, List.getElem?_eq_none (by simp [rowsM]; omega), List.getElem?_eq_none (by simp [rowsM]; omega)]
theorem rowsM_congr {n : Nat} {f g : Nat → List D} (h : ∀ a, a < n → f a = g a) : rowsM n f = rowsM n g := by
  unfold rowsM
  exact List.map_congr_left fun a ha => h a (by simpa using ha)
theorem rowsM_map {α : Type} [Enc α] (l : List α) : l.map Enc.cells = rowsM l.length fun a => Enc.cells (nth l a) := by
  apply List.ext_getElem
  · simp [rowsM]
  · intro i h1 h2
    have hi : i < l.length := by simpa using h1
    simp [rowsM, nth, List.getD_eq_getElem?_getD, hi]
theorem rowsM_mem {n : Nat} {f : Nat → List D} {r : List D} (h : r ∈ rowsM n f) : ∃ a, a < n ∧ r = f a := by
  unfold rowsM at h
  obtain ⟨a, ha, rfl⟩ := List.mem_map.1 h
  exact ⟨a, by simpa using ha, rfl⟩
/-! The shape of entries -/
structure Lens (l l' : List Entry) : Prop where
  len : l'.length = l.length
  rcp : ∀ a, a < l.length → (nth l' a).recipe.length = (nth l a).recipe.length
  nds : ∀ a, a < l.length → (nth l' a).needs.length = (nth l a).needs.length
theorem Lens.refl (l : List Entry) : Lens l l := ⟨rfl, fun _ _ => rfl, fun _ _ => rfl⟩
theorem Lens.trans {a b c : List Entry} (h : Lens a b) (h' : Lens b c) : Lens a c :=
  ⟨h'.len.trans h.len, fun i hi => (h'.rcp i (by rw [h.len]; exact hi)).trans (h.rcp i hi), fun i hi => (h'.nds i (by rw [h.len]; exact hi)).trans (h.nds i hi)⟩
theorem sh_str : ∀ {l : List ByteArray} {rows : List (List D)}, ShR (l.map Enc.cells) rows → ∃ l' : List ByteArray, rows = l'.map Enc.cells ∧ l'.length = l.length
  | [], rows, h => by
    have h : rows = [] := h
    subst h; exact ⟨[], rfl, rfl⟩
  | s :: l, rows, h => by
    obtain ⟨d', r', rfl, ⟨x, y, rfl, ⟨s', rfl⟩, hy⟩, h2⟩ := (show ∃ d' r', rows = d' :: r' ∧ ShL (Enc.cells s) d' ∧ ShR (l.map Enc.cells) r' from h)
    have hy : y = [] := hy
    subst hy
    obtain ⟨l', rfl, h3⟩ := sh_str h2
    exact ⟨s' :: l', rfl, by simp [h3]⟩
theorem sh_need : ∀ {l : List Need} {rows : List (List D)}, ShR (l.map Enc.cells) rows → ∃ l' : List Need, rows = l'.map Enc.cells ∧ l'.length = l.length
  | [], rows, h => by
    have h : rows = [] := h
    subst h; exact ⟨[], rfl, rfl⟩
  | s :: l, rows, h => by
    obtain ⟨d', r', rfl, ⟨x1, y1, rfl, ⟨n1, rfl⟩, x2, y2, rfl, ⟨n2, rfl⟩, x3, y3, rfl, ⟨n3, rfl⟩, x4, y4, rfl, ⟨n4, rfl⟩, hy⟩, h2⟩ := (show ∃ d' r', rows = d' :: r' ∧ ShL (Enc.cells s) d' ∧ ShR (l.map Enc.cells) r' from h)
    have hy : y4 = [] := hy
    subst hy
    obtain ⟨l', rfl, h3⟩ := sh_need h2
    exact ⟨⟨n1, n2, ⟨n3, n4⟩⟩ :: l', rfl, by simp [h3]⟩
theorem sh_entry : ∀ {l : List Entry} {rows : List (List D)}, ShR (l.map Enc.cells) rows → ∃ l' : List Entry, rows = l'.map Enc.cells ∧ Lens l l'
  | [], rows, h => by
    have h : rows = [] := h
    subst h; exact ⟨[], rfl, Lens.refl _⟩
  | e :: l, rows, h => by
    obtain ⟨d', r', rfl, ⟨x1, y1, rfl, ⟨n1, rfl⟩, x2, y2, rfl, ⟨rr, rfl, hr⟩, x3, y3, rfl, ⟨n3, rfl⟩, x4, y4, rfl, ⟨n4, rfl⟩, x5, y5, rfl, ⟨rn, rfl, hn⟩, hy⟩, h2⟩ := (show ∃ d' r', rows = d' :: r' ∧ ShL (Enc.cells e) d' ∧ ShR (l.map Enc.cells) r' from h)
    have hy : y5 = [] := hy
    subst hy
    obtain ⟨rc, rfl, hrc⟩ := sh_str hr
    obtain ⟨nd, rfl, hnd⟩ := sh_need hn
    obtain ⟨l', rfl, h3⟩ := sh_entry h2
    refine ⟨⟨n1, rc, ⟨n3, n4⟩, nd⟩ :: l', rfl, by simp [h3.len], fun a ha => ?_, fun a ha => ?_⟩
    · cases a with
      | zero => exact hrc
      | succ a => exact h3.rcp a (by simpa using ha)
    · cases a with
      | zero => exact hnd
      | succ a => exact h3.nds a (by simpa using ha)
/-- The same, and what is frozen now is barred too. -/
theorem Alt.entriesF {A M : Addr → Prop} {w w' : World} {l : List Entry} {v : Value} (h : Alt A w w') (hr : R w M (encS l) v) (hF : ∀ p, w.frozen? p = true → M p) : ∃ l', Lens l l' ∧ R w' (fun p => M p ∨ w'.frozen? p = true) (encS l') v := by
  obtain ⟨d', h1, h2⟩ := R.shape h (M' := fun p => M p ∨ w'.frozen? p = true) (fun p hp hm => hm.elim id fun hf => hF p (by rw [← h.fro p hp]; exact hf)) _ _ hr
  obtain ⟨rows, rfl, h3⟩ := (show ∃ rows', d' = .sl rows' ∧ ShR (l.map Enc.cells) rows' from h1)
  obtain ⟨l', rfl, h4⟩ := sh_entry h3
  exact ⟨l', h4, h2⟩
theorem Alt.entries {A M : Addr → Prop} {w w' : World} {l : List Entry} {v : Value} (h : Alt A w w') (hr : R w M (encS l) v) : ∃ l', Lens l l' ∧ R w' M (encS l') v := by
  obtain ⟨d', h1, h2⟩ := R.shape h (fun _ _ h => h) _ _ hr
  obtain ⟨rows, rfl, h3⟩ := (show ∃ rows', d' = .sl rows' ∧ ShR (l.map Enc.cells) rows' from h1)
  obtain ⟨l', rfl, h4⟩ := sh_entry h3
  exact ⟨l', h4, h2⟩
end Go.Proofs.Ythoafgehfgblaaa
