/- Writing marks into memory of one's own: what stays, what the shape of data is, a row of leaves with one cell written. No program in sight. -/
import Derived.Test.YthoafgehfgblaaaBRowN
namespace Go.Proofs.Ythoafgehfgblaaa
open Go.RowKit Go
set_option linter.unusedVariables false
set_option linter.unusedSimpArgs false
set_option linter.unusedSectionVars false
variable [GC]
/-- All but what is new since B and may be written. -/
def NF (w : World) (B : Nat) : Addr → Prop := fun p => p.block < B ∨ w.frozen? p = true
def Same (u u' : Value) : Prop := u' = u ∨ (∃ s s' : ByteArray, u = .string s ∧ u' = .string s' ∧ s'.size ≤ maxLen) ∨ ∃ (k : IntKind) (n n' : Int), u = .int k n ∧ u' = .int k n' ∧ k.min ≤ n' ∧ n' ≤ k.max
theorem Same.trans {a b c : Value} (h : Same a b) (h' : Same b c) : Same a c := by
  rcases h with rfl | ⟨s, s', rfl, rfl, h⟩ | ⟨k, n, n', rfl, rfl, h⟩
  · exact h'
  · rcases h' with rfl | ⟨t, t', e, rfl, h'⟩ | ⟨k, n, n', e, _⟩
    · exact .inr (.inl ⟨s, s', rfl, rfl, h⟩)
    · exact .inr (.inl ⟨s, t', rfl, rfl, h'⟩)
    · cases e
  · rcases h' with rfl | ⟨t, t', e, _⟩ | ⟨k', m, m', e, rfl, h'⟩
    · exact .inr (.inr ⟨k, n, n', rfl, rfl, h⟩)
    · cases e
    · cases e
      exact .inr (.inr ⟨k, n, m', rfl, rfl, h'⟩)
/-- Only cells of A are written, and by what is like what they held. -/
structure Alt (A : Addr → Prop) (w w' : World) : Prop where
  size : w.heap.size ≤ w'.heap.size
  fro : ∀ p : Addr, p.block < w.heap.size → w'.frozen? p = w.frozen? p
  keep : ∀ p v, w.cell? p = some v → ¬ A p → w'.cell? p = some v
  same : ∀ p u, w.cell? p = some u → ∃ u', w'.cell? p = some u' ∧ Same u u'
theorem Alt.refl (A : Addr → Prop) (w : World) : Alt A w w := ⟨Nat.le_refl _, fun _ _ => rfl, fun _ _ h _ => h, fun _ u h => ⟨u, h, .inl rfl⟩⟩
theorem Alt.trans {A : Addr → Prop} {w w' w'' : World} (h : Alt A w w') (h' : Alt A w' w'') : Alt A w w'' where
  size := Nat.le_trans h.size h'.size
  fro := fun p hp => by rw [h'.fro p (Nat.lt_of_lt_of_le hp h.size), h.fro p hp]
  keep := fun p v hp ha => h'.keep p v (h.keep p v hp ha) ha
  same := fun p u hp => by
    obtain ⟨u1, h1, h2⟩ := h.same p u hp
    obtain ⟨u2, h3, h4⟩ := h'.same p u1 h1
    exact ⟨u2, h3, h2.trans h4⟩
theorem Alt.mono {A A' : Addr → Prop} {w w' : World} (h : Alt A w w') (hA : ∀ p, p.block < w.heap.size → A p → A' p) : Alt A' w w' :=
  ⟨h.size, h.fro, fun p v hp ha => h.keep p v hp fun h => ha (hA p (block_lt_of_cell hp) h), h.same⟩
theorem fro_of_block {w w' : World} {p : Addr} (h : w'.heap[p.block]? = w.heap[p.block]?) : w'.frozen? p = w.frozen? p := by
  unfold World.frozen?; rw [h]
theorem Alt.below {A : Addr → Prop} {w w' : World} (h : Below w.heap.size w w') : Alt A w w' :=
  ⟨h.size, fun p hp => fro_of_block (h.block p.block hp), fun p v hp _ => by rw [h.cell (block_lt_of_cell hp)]; exact hp, fun p u hp => ⟨u, by rw [h.cell (block_lt_of_cell hp)]; exact hp, .inl rfl⟩⟩
theorem cell_set_ne {w : World} {a p : Addr} {v : Value} (h : p ≠ a) (hs : a.spot = none) (hp : p.spot = none ∨ True) : (w.setCell a v).cell? p = w.cell? p ∨ (p.block = a.block ∧ p.off = a.off) := by
  by_cases hb : p.block = a.block
  · by_cases ho : p.off = a.off
    · exact .inr ⟨hb, ho⟩
    · left
      unfold World.cell? World.setCell
      rw [hb]
      simp only [Array.getElem?_modify]
      cases hw : w.heap[a.block]? with
      | none => simp
      | some x =>
        cases x with
        | cells c e f =>
          simp only [hs, Option.isSome_none, Option.map_some, if_true]
          split
          · rfl
          · simp [Array.getElem?_setIfInBounds, Ne.symm ho]
        | _ => simp
  · left
    exact World.cell?_of_block (Below.heap_setCell _ _ _ _ hb)
theorem cell_spot {w : World} {p : Addr} {v : Value} (h : w.cell? p = some v) : p.spot = none := by
  unfold World.cell? at h
  split at h
  · split at h
    · cases h
    · rename_i hs; simpa using hs
  · cases h
theorem cell_at {w : World} {a : Addr} {u v : Value} (h : w.cell? a = some u) : (w.setCell a v).cell? a = some v := by
  have hs := cell_spot h
  unfold World.cell? World.setCell at *
  simp only [Array.getElem?_modify, if_true]
  cases hw : w.heap[a.block]? with
  | none => rw [hw] at h; cases h
  | some x =>
    rw [hw] at h
    cases x with
    | cells c e f =>
      simp only [hs, Option.isSome_none, Bool.false_eq_true, if_false, Option.map_some] at h ⊢
      have := (Array.getElem?_eq_some_iff.1 h).1
      simp [Array.getElem?_setIfInBounds, this]
    | _ => cases h
theorem size_setCell (w : World) (a : Addr) (v : Value) : (w.setCell a v).heap.size = w.heap.size := by unfold World.setCell; simp
theorem fro_setCell (w : World) (a p : Addr) (v : Value) : (w.setCell a v).frozen? p = w.frozen? p := by
  unfold World.frozen? World.setCell
  simp only [Array.getElem?_modify]
  by_cases hb : a.block = p.block
  · simp only [hb, if_true]
    cases hw : w.heap[p.block]? with
    | none => simp
    | some x => cases x <;> simp
  · simp [hb]
theorem Alt.set {A : Addr → Prop} {w : World} {a : Addr} {u v : Value} (hA : A a) (h : w.cell? a = some u) (hs : Same u v) : Alt A w (w.setCell a v) := by
  have hsp := cell_spot h
  refine ⟨by rw [size_setCell]; exact Nat.le_refl _, fun p _ => fro_setCell _ _ _ _, fun p x hp ha => ?_, fun p x hp => ?_⟩
  · rcases cell_set_ne (w := w) (v := v) (p := p) (a := a) (fun e => ha (by rw [e]; exact hA)) hsp (.inr trivial) with h1 | ⟨h1, h2⟩
    · rw [h1]; exact hp
    · have h3 := cell_spot hp
      have : p = a := by cases p; cases a; simp_all
      exact absurd (this.symm ▸ hA) ha
  · by_cases e : p = a
    · subst e
      rw [h] at hp; cases hp
      exact ⟨v, cell_at h, hs⟩
    · rcases cell_set_ne (w := w) (v := v) (p := p) (a := a) e hsp (.inr trivial) with h1 | ⟨h1, h2⟩
      · exact ⟨x, by rw [h1]; exact hp, .inl rfl⟩
      · have h3 := cell_spot hp
        exact absurd (by cases p; cases a; simp_all) e
/-- A reading that lies outside what is written stays. -/
theorem Alt.keeps {A M M' : Addr → Prop} {w w' : World} (h : Alt A w w') (hA : ∀ p, A p → M p) (hM : ∀ p, p.block < w.heap.size → M' p → M p) : Keeps w M w' M' :=
  fun p v hp hn => ⟨h.keep p v hp fun ha => hn (hA p ha), fun hm => hn (hM p (block_lt_of_cell hp) hm)⟩
theorem R.up {w : World} {M : Addr → Prop} {d : D} {v : Value} (h : R w M d v) : R w (fun p => M p ∨ w.heap.size ≤ p.block) d v :=
  R.keep (fun p v hp hn => ⟨hp, fun hm => hm.elim hn fun h => by have := block_lt_of_cell hp; omega⟩) d v h
/-- Fewer cells are barred. -/
theorem R.less {w : World} {M M' : Addr → Prop} {d : D} {v : Value} (h : R w M d v) (hM : ∀ p, M' p → M p) : R w M' d v :=
  R.keep (fun p v hp hn => ⟨hp, fun hm => hn (hM p hm)⟩) d v h
mutual
/-- Like data: the same but for numbers and texts. -/
def Sh : D → D → Prop
  | .str _, d' => ∃ s, d' = .str s
  | .int k _, d' => ∃ n, d' = .int k n
  | .sl rows, d' => ∃ rows', d' = .sl rows' ∧ ShR rows rows'
  | .agg l, d' => ∃ l', d' = .agg l' ∧ ShL l l'
  | .tup l, d' => ∃ l', d' = .tup l' ∧ ShL l l'
  | .fn f caps, d' => ∃ caps', d' = .fn f caps' ∧ ShR caps caps'
  | .bool b, d' => d' = .bool b
  | .mem n, d' => d' = .mem n
  | .un, d' => d' = .un
def ShL : List D → List D → Prop
  | [], l' => l' = []
  | d :: l, l' => ∃ d' r', l' = d' :: r' ∧ Sh d d' ∧ ShL l r'
def ShR : List (List D) → List (List D) → Prop
  | [], l' => l' = []
  | r :: l, l' => ∃ d' r', l' = d' :: r' ∧ ShL r d' ∧ ShR l r'
end
theorem ShL.length : ∀ {l l' : List D}, ShL l l' → l'.length = l.length
  | [], _, h => by subst h; rfl
  | _ :: l, _, ⟨_, _, e, _, h⟩ => by subst e; simp [ShL.length h]
theorem ShR.length : ∀ {l l' : List (List D)}, ShR l l' → l'.length = l.length
  | [], _, h => by subst h; rfl
  | _ :: l, _, ⟨_, _, e, _, h⟩ => by subst e; simp [ShR.length h]
theorem sh_val {w : World} {M : Addr → Prop} : ∀ {d : D} {u u' : Value}, R w M d u → Same u u' → u' = u ∨ ∃ d', Sh d d' ∧ ∀ (w' : World) (M' : Addr → Prop), R w' M' d' u'
  | d, u, u', hr, h => by
    rcases h with rfl | ⟨s, s', rfl, rfl, h⟩ | ⟨k, n, n', rfl, rfl, h⟩
    · exact .inl rfl
    · right
      cases d with
      | str t => exact ⟨.str s', ⟨_, rfl⟩, fun _ _ => ⟨rfl, h⟩⟩
      | bool b => cases (show Value.string s = .bool b from hr)
      | int k n => cases hr.1
      | agg l => obtain ⟨cs, e, _⟩ := hr; cases e
      | tup l => obtain ⟨cs, e, _⟩ := hr; cases e
      | sl rows => obtain ⟨a, len, cap, e, _⟩ := hr; cases e
      | mem n => obtain ⟨a, cap, e, _⟩ := hr; cases e
      | fn f c => obtain ⟨ps, e, _⟩ := hr; cases e
      | un => exact hr.elim
    · right
      cases d with
      | str t => cases hr.1
      | bool b => cases (show Value.int k n = .bool b from hr)
      | int k2 m =>
        cases hr.1
        exact ⟨.int k n', ⟨_, rfl⟩, fun _ _ => ⟨rfl, h⟩⟩
      | agg l => obtain ⟨cs, e, _⟩ := hr; cases e
      | tup l => obtain ⟨cs, e, _⟩ := hr; cases e
      | sl rows => obtain ⟨a, len, cap, e, _⟩ := hr; cases e
      | mem n => obtain ⟨a, cap, e, _⟩ := hr; cases e
      | fn f c => obtain ⟨ps, e, _⟩ := hr; cases e
      | un => exact hr.elim
section
variable {w w' : World} {A M M' : Addr → Prop}
mutual
theorem R.shape (h : Alt A w w') (hM : ∀ p, p.block < w.heap.size → M' p → M p) : ∀ (d : D) (v : Value), R w M d v → ∃ d', Sh d d' ∧ R w' M' d' v
  | .bool b, _, hr => ⟨.bool b, rfl, hr⟩
  | .int k n, _, hr => ⟨.int k n, ⟨_, rfl⟩, hr⟩
  | .str s, _, hr => ⟨.str s, ⟨_, rfl⟩, hr⟩
  | .agg l, v, ⟨cs, e, hr⟩ => by
    obtain ⟨l', h1, h2⟩ := Rs.shape h hM l _ hr
    exact ⟨.agg l', ⟨_, rfl, h1⟩, cs, e, h2⟩
  | .tup l, v, ⟨cs, e, hr⟩ => by
    obtain ⟨l', h1, h2⟩ := Rs.shape h hM l _ hr
    exact ⟨.tup l', ⟨_, rfl, h1⟩, cs, e, h2⟩
  | .sl rows, v, ⟨a, len, cap, e, h1, h2, h3, h4, h5⟩ => by
    rcases a with _ | ⟨b, o, s⟩
    · have : rows = [] := List.eq_nil_of_length_eq_zero (by have := h4 rfl; omega)
      subst this
      exact ⟨.sl [], ⟨_, rfl, rfl⟩, none, len, cap, e, h1, h2, h3, h4, fun b o s ha => by cases ha⟩
    · obtain ⟨rows', q1, q2⟩ := Rws.shape h hM rows b o (h5 b o s rfl).2
      refine ⟨.sl rows', ⟨_, rfl, q1⟩, _, len, cap, e, by rw [q1.length]; exact h1, h2, h3, h4, fun b' o' s' ha => ?_⟩
      cases ha
      exact ⟨(h5 b o s rfl).1, q2⟩
  | .mem n, _, hr => ⟨.mem n, rfl, hr⟩
  | .fn f caps, v, ⟨ps, e, hr⟩ => by
    obtain ⟨c', h1, h2⟩ := Rps.shape h hM caps _ hr
    exact ⟨.fn f c', ⟨_, rfl, h1⟩, ps, e, h2⟩
  | .un, _, hr => hr.elim
theorem Rs.shape (h : Alt A w w') (hM : ∀ p, p.block < w.heap.size → M' p → M p) : ∀ (l : List D) (vs : List Value), Rs w M l vs → ∃ l', ShL l l' ∧ Rs w' M' l' vs
  | [], _, hr => ⟨[], rfl, hr⟩
  | d :: l, vs, ⟨v, r, e, h1, h2⟩ => by
    obtain ⟨d', q1, q2⟩ := R.shape h hM d v h1
    obtain ⟨l', q3, q4⟩ := Rs.shape h hM l r h2
    exact ⟨d' :: l', ⟨_, _, rfl, q1, q3⟩, v, r, e, q2, q4⟩
theorem Rw.shape (h : Alt A w w') (hM : ∀ p, p.block < w.heap.size → M' p → M p) : ∀ (l : List D) (b o : Nat), Rw w M l b o → ∃ l', ShL l l' ∧ Rw w' M' l' b o
  | [], _, _, _ => ⟨[], rfl, trivial⟩
  | d :: l, b, o, ⟨⟨v, h1, h2, h3⟩, h4⟩ => by
    obtain ⟨l', q3, q4⟩ := Rw.shape h hM l b (o + 1) h4
    obtain ⟨u', q5, q6⟩ := h.same _ _ h1
    have hn : ¬ M' ⟨b, o, none⟩ := fun hm => h2 (hM ⟨b, o, none⟩ (block_lt_of_cell h1) hm)
    obtain ⟨d0, q1, q2⟩ := R.shape h hM d v h3
    rcases sh_val h3 q6 with rfl | ⟨d', q7, q8⟩
    · exact ⟨d0 :: l', ⟨_, _, rfl, q1, q3⟩, ⟨_, q5, hn, q2⟩, q4⟩
    · exact ⟨d' :: l', ⟨_, _, rfl, q7, q3⟩, ⟨_, q5, hn, q8 _ _⟩, q4⟩
theorem Rws.shape (h : Alt A w w') (hM : ∀ p, p.block < w.heap.size → M' p → M p) : ∀ (l : List (List D)) (b o : Nat), Rws w M l b o → ∃ l', ShR l l' ∧ Rws w' M' l' b o
  | [], _, _, _ => ⟨[], rfl, trivial⟩
  | r :: l, b, o, ⟨h1, h2⟩ => by
    obtain ⟨r', q1, q2⟩ := Rw.shape h hM r b o h1
    obtain ⟨l', q3, q4⟩ := Rws.shape h hM l b (o + r.length) h2
    exact ⟨r' :: l', ⟨_, _, rfl, q1, q3⟩, q2, by rw [q1.length]; exact q4⟩
theorem Rps.shape (h : Alt A w w') (hM : ∀ p, p.block < w.heap.size → M' p → M p) : ∀ (l : List (List D)) (vs : List Value), Rps w M l vs → ∃ l', ShR l l' ∧ Rps w' M' l' vs
  | [], _, hr => ⟨[], rfl, hr⟩
  | r :: l, vs, ⟨b, q, e, h1, h2⟩ => by
    obtain ⟨r', q1, q2⟩ := Rw.shape h hM r b 0 h1
    obtain ⟨l', q3, q4⟩ := Rps.shape h hM l q h2
    exact ⟨r' :: l', ⟨_, _, rfl, q1, q3⟩, b, q, e, q2, q4⟩
end
end
/-! Rows of leaves -/
def leafD : D → Bool
  | .bool _ | .int _ _ | .str _ => true
  | _ => false
theorem leaf_move {w w' : World} {M M' : Addr → Prop} {d : D} {v : Value} (hl : leafD d = true) (h : R w M d v) : R w' M' d v := by
  cases d <;> simp [leafD] at hl <;> exact h
/-- A slice's cells, and back. -/
theorem flat_cells {w : World} {M : Addr → Prop} {rows : List (List D)} {n b o len cap : Nat} {s : Option Nat} (hn : ∀ r ∈ rows, r.length = n) (h : R w M (.sl rows) (.slice (some ⟨b, o, s⟩) len cap)) {i j : Nat} {r : List D} {d : D} (hi : rows[i]? = some r) (hj : r[j]? = some d) :
    ∃ u, w.cell? ⟨b, o + i * n + j, none⟩ = some u ∧ ¬ M ⟨b, o + i * n + j, none⟩ ∧ R w M d u := by
  obtain ⟨a, len', cap', e, h1, h2, h3, h4, h5⟩ := h
  cases e
  exact ((h5 b o s rfl).2.get hn hi).get hj
theorem flat_of {w : World} {M : Addr → Prop} {rows : List (List D)} {n b o len cap : Nat} {s : Option Nat} (hn : ∀ r ∈ rows, r.length = n) (h1 : len = rows.length) (h2 : len ≤ cap) (h3 : cap ≤ maxLen) (h4 : 0 < len → s = none)
    (hc : ∀ (i j : Nat) (r : List D) (d : D), rows[i]? = some r → r[j]? = some d → ∃ u, w.cell? ⟨b, o + i * n + j, none⟩ = some u ∧ ¬ M ⟨b, o + i * n + j, none⟩ ∧ R w M d u) : R w M (.sl rows) (.slice (some ⟨b, o, s⟩) len cap) := by
  refine ⟨_, _, _, rfl, h1, h2, h3, (fun e => by cases e), fun b' o' s' e => ?_⟩
  cases e
  exact ⟨h4, Rws.of hn fun i r hr => Rw.of fun j d hd => hc i j r d hr hd⟩
theorem flat_set {w : World} {M : Addr → Prop} {rows : List (List D)} {n b o len cap i j : Nat} {s : Option Nat} {r : List D} {x : D} {u : Value} (hn : ∀ r ∈ rows, r.length = n) (hlf : ∀ r ∈ rows, ∀ d ∈ r, leafD d = true)
    (h : R w M (.sl rows) (.slice (some ⟨b, o, s⟩) len cap)) (hi : rows[i]? = some r) (hj : j < n) (hx : ∀ (w : World) (M : Addr → Prop), R w M x u) :
    R (w.setCell ⟨b, o + i * n + j, none⟩ u) M (.sl (rows.set i (r.set j x))) (.slice (some ⟨b, o, s⟩) len cap) := by
  have hr := hn r (List.mem_of_getElem? hi)
  have hlt := (List.getElem?_eq_some_iff.1 hi).1
  have h0 := h
  obtain ⟨a, len', cap', e, h1, h2, h3, h4, h5⟩ := h
  cases e
  refine flat_of (n := n) (fun r' hr' => ?_) (by simpa using h1) h2 h3 (h5 b o s rfl).1 fun i' j' r' d hi' hj' => ?_
  · rcases List.mem_or_eq_of_mem_set hr' with h | rfl
    · exact hn r' h
    · simpa using hr
  · have hr'l : r'.length = n := by
      have := List.mem_of_getElem? hi'
      rcases List.mem_or_eq_of_mem_set this with h | rfl
      · exact hn r' h
      · simpa using hr
    have hj'n : j' < n := by rw [← hr'l]; exact (List.getElem?_eq_some_iff.1 hj').1
    by_cases hij : i' = i ∧ j' = j
    · obtain ⟨rfl, rfl⟩ := hij
      obtain ⟨d0, hd0⟩ : ∃ d0, r[j']? = some d0 := ⟨_, List.getElem?_eq_getElem (by omega)⟩
      obtain ⟨u0, c1, c2, c3⟩ := flat_cells hn h0 hi hd0
      rw [List.getElem?_set_self hlt] at hi'
      cases hi'
      rw [List.getElem?_set_self (by omega)] at hj'
      cases hj'
      exact ⟨u, cell_at c1, c2, hx _ _⟩
    · have hold : ∃ r0, rows[i']? = some r0 ∧ r0[j']? = some d := by
        by_cases e : i' = i
        · subst e
          rw [List.getElem?_set_self hlt] at hi'
          cases hi'
          refine ⟨r, hi, ?_⟩
          rwa [List.getElem?_set_ne (fun e => hij ⟨rfl, e.symm⟩)] at hj'
        · rw [List.getElem?_set_ne (fun e' => e e'.symm)] at hi'
          exact ⟨r', hi', hj'⟩
      obtain ⟨r0, q1, q2⟩ := hold
      obtain ⟨u0, c1, c2, c3⟩ := flat_cells hn h0 q1 q2
      refine ⟨u0, ?_, c2, leaf_move (hlf r0 (List.mem_of_getElem? q1) d (List.mem_of_getElem? q2)) c3⟩
      have hne : o + i' * n + j' ≠ o + i * n + j := by
        intro e
        have e2 : i' * n + j' = i * n + j := by omega
        have h6 : i' = i := by
          have h7 : (i' * n + j') / n = (i * n + j) / n := by rw [e2]
          rwa [Nat.mul_comm i', Nat.mul_comm i, Nat.mul_add_div (by omega), Nat.mul_add_div (by omega), Nat.div_eq_of_lt hj'n, Nat.div_eq_of_lt hj, Nat.add_zero, Nat.add_zero] at h7
        subst h6
        exact hij ⟨rfl, by omega⟩
      rcases cell_set_ne (w := w) (v := u) (p := ⟨b, o + i' * n + j', none⟩) (a := ⟨b, o + i * n + j, none⟩) (fun e => hne (congrArg Addr.off e)) rfl (.inr trivial) with h7 | ⟨_, h7⟩
      · rw [h7]; exact c1
      · exact absurd h7 hne
end Go.Proofs.Ythoafgehfgblaaa
