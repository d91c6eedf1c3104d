/- Abstract data: what Go values hold, without memory; how a value reads as data in a world; what keeps a reading. No program in sight. -/
import Derived.Test.YtgaeigomhhbkfaaGreatAGlob
namespace Go.Proofs.YtgaeigomhhbkfaaGreat
open Go.RowKit
set_option linter.unusedVariables false
set_option linter.unusedSimpArgs false

inductive D where
  | bool (b : Bool)
  | int (k : IntKind) (n : Int)
  | str (s : ByteArray)
  | agg (l : List D)
  | tup (l : List D)
  | sl (rows : List (List D))
  /-- A row that is someone's own: how long it is, and nothing of what it holds. -/
  | mem (n : Nat)
  /-- A function with what it has captured: for each captured variable its cells. -/
  | fn (f : Nat) (caps : List (List D))
  | un
instance : Inhabited D := ⟨.un⟩

mutual
/-- The value reads as the data; no cell that is met lies in M. -/
def R (w : World) (M : Addr → Prop) : D → Value → Prop
  | .bool b, v => v = .bool b
  | .int k n, v => v = .int k n ∧ k.min ≤ n ∧ n ≤ k.max
  | .str s, v => v = .string s ∧ s.size ≤ maxLen
  | .agg l, v => ∃ cs : Array Value, v = .agg cs ∧ Rs w M l cs.toList
  | .tup l, v => ∃ cs : Array Value, v = .tuple cs ∧ Rs w M l cs.toList
  | .sl rows, v => ∃ a len cap, v = .slice a len cap ∧ len = rows.length ∧ len ≤ cap ∧ cap ≤ maxLen ∧ (a = none → cap = 0) ∧
      ∀ b o s, a = some ⟨b, o, s⟩ → (0 < len → s = none) ∧ Rws w M rows b o
  | .mem n, v => ∃ a cap, v = .slice a n cap ∧ n ≤ cap ∧ cap ≤ maxLen ∧ (a = none → cap = 0) ∧ ∀ b o s, a = some ⟨b, o, s⟩ → 0 < n → s = none
  | .fn f caps, v => ∃ ps : Array Value, v = .func (.func f) #[] ps ∧ Rps w M caps ps.toList
  | .un, _ => False
def Rs (w : World) (M : Addr → Prop) : List D → List Value → Prop
  | [], vs => vs = []
  | d :: l, vs => ∃ v r, vs = v :: r ∧ R w M d v ∧ Rs w M l r
/-- The cells from o on read as the row. -/
def Rw (w : World) (M : Addr → Prop) : List D → Nat → Nat → Prop
  | [], _, _ => True
  | d :: l, b, o => (∃ v, w.cell? ⟨b, o, none⟩ = some v ∧ ¬ M ⟨b, o, none⟩ ∧ R w M d v) ∧ Rw w M l b (o + 1)
def Rws (w : World) (M : Addr → Prop) : List (List D) → Nat → Nat → Prop
  | [], _, _ => True
  | r :: l, b, o => Rw w M r b o ∧ Rws w M l b (o + r.length)
/-- Addresses of blocks that read as the rows. -/
def Rps (w : World) (M : Addr → Prop) : List (List D) → List Value → Prop
  | [], vs => vs = []
  | r :: l, vs => ∃ b q, vs = .pointer (some ⟨b, 0, none⟩) :: q ∧ Rw w M r b 0 ∧ Rps w M l q
end

/-- All cells that hold something outside M hold it still, outside M'. -/
def Keeps (w : World) (M : Addr → Prop) (w' : World) (M' : Addr → Prop) : Prop := ∀ p v, w.cell? p = some v → ¬ M p → w'.cell? p = some v ∧ ¬ M' p
section
variable {w w' : World} {M M' : Addr → Prop}
mutual
theorem R.keep (h : Keeps w M w' M') : ∀ (d : D) (v : Value), R w M d v → R w' M' d v
  | .bool _, _, hr => hr
  | .int _ _, _, hr => hr
  | .str _, _, hr => hr
  | .agg l, v, ⟨cs, e, hr⟩ => ⟨cs, e, Rs.keep h l _ hr⟩
  | .tup l, v, ⟨cs, e, hr⟩ => ⟨cs, e, Rs.keep h l _ hr⟩
  | .sl rows, v, ⟨a, len, cap, e, h1, h2, h3, h4, h5⟩ => ⟨a, len, cap, e, h1, h2, h3, h4, fun b o s ha => ⟨(h5 b o s ha).1, Rws.keep h rows b o (h5 b o s ha).2⟩⟩
  | .mem _, _, hr => hr
  | .fn _ caps, v, ⟨ps, e, hr⟩ => ⟨ps, e, Rps.keep h caps _ hr⟩
  | .un, _, hr => hr
theorem Rs.keep (h : Keeps w M w' M') : ∀ (l : List D) (vs : List Value), Rs w M l vs → Rs w' M' l vs
  | [], _, hr => hr
  | d :: l, vs, ⟨v, r, e, h1, h2⟩ => ⟨v, r, e, R.keep h d v h1, Rs.keep h l r h2⟩
theorem Rw.keep (h : Keeps w M w' M') : ∀ (l : List D) (b o : Nat), Rw w M l b o → Rw w' M' l b o
  | [], _, _, _ => trivial
  | d :: l, b, o, ⟨⟨v, h1, h2, h3⟩, h4⟩ => ⟨⟨v, (h _ _ h1 h2).1, (h _ _ h1 h2).2, R.keep h d v h3⟩, Rw.keep h l b (o + 1) h4⟩
theorem Rws.keep (h : Keeps w M w' M') : ∀ (l : List (List D)) (b o : Nat), Rws w M l b o → Rws w' M' l b o
  | [], _, _, _ => trivial
  | r :: l, b, o, ⟨h1, h2⟩ => ⟨Rw.keep h r b o h1, Rws.keep h l b (o + r.length) h2⟩
theorem Rps.keep (h : Keeps w M w' M') : ∀ (l : List (List D)) (vs : List Value), Rps w M l vs → Rps w' M' l vs
  | [], _, hr => hr
  | r :: l, vs, ⟨b, q, e, h1, h2⟩ => ⟨b, q, e, Rw.keep h r b 0 h1, Rps.keep h l q h2⟩
end
theorem Rps.snoc {r : List D} {b : Nat} (h : Rw w M r b 0) : ∀ {l : List (List D)} {vs : List Value}, Rps w M l vs → Rps w M (l ++ [r]) (vs ++ [.pointer (some ⟨b, 0, none⟩)])
  | [], _, hr => by subst hr; exact ⟨b, [], rfl, h, rfl⟩
  | r' :: l, vs, ⟨b', q, e, h1, h2⟩ => by subst e; exact ⟨b', q ++ [_], rfl, h1, Rps.snoc h h2⟩
theorem Rps.length : ∀ {l : List (List D)} {vs : List Value}, Rps w M l vs → vs.length = l.length
  | [], _, h => by subst h; rfl
  | _ :: l, _, ⟨_, _, e, _, h2⟩ => by subst e; simp [Rps.length h2]
theorem Rps.get : ∀ {l : List (List D)} {vs : List Value}, Rps w M l vs → ∀ {i : Nat} {r : List D}, l[i]? = some r → ∃ b, vs[i]? = some (.pointer (some ⟨b, 0, none⟩)) ∧ Rw w M r b 0
  | [], _, _, i, r, hr => by simp at hr
  | r :: l, _, ⟨b, q, e, h1, h2⟩, 0, r', hr => by subst e; simp at hr; subst hr; exact ⟨b, rfl, h1⟩
  | r :: l, _, ⟨b, q, e, h1, h2⟩, i + 1, r', hr => by subst e; simp at hr; obtain ⟨u, hu, h3⟩ := Rps.get h2 hr; exact ⟨u, by simpa using hu, h3⟩
theorem Rs.length : ∀ {l : List D} {vs : List Value}, Rs w M l vs → vs.length = l.length
  | [], _, h => by subst h; rfl
  | d :: l, vs, ⟨v, r, e, h1, h2⟩ => by subst e; simp [Rs.length h2]
theorem Rs.get : ∀ {l : List D} {vs : List Value}, Rs w M l vs → ∀ {i : Nat} {d : D}, l[i]? = some d → ∃ v, vs[i]? = some v ∧ R w M d v
  | [], _, _, i, d, hd => by simp at hd
  | d :: l, vs, ⟨v, r, e, h1, h2⟩, 0, d', hd => by subst e; simp at hd; subst hd; exact ⟨v, rfl, h1⟩
  | d :: l, vs, ⟨v, r, e, h1, h2⟩, i + 1, d', hd => by subst e; simp at hd; obtain ⟨u, hu, hr⟩ := Rs.get h2 hd; exact ⟨u, by simpa using hu, hr⟩
theorem Rs.append : ∀ {l l' : List D} {vs vs' : List Value}, Rs w M l vs → Rs w M l' vs' → Rs w M (l ++ l') (vs ++ vs')
  | [], _, _, _, h, h' => by subst h; simpa using h'
  | d :: l, _, vs, vs', ⟨v, r, e, h1, h2⟩, h' => by subst e; exact ⟨v, r ++ vs', rfl, h1, Rs.append h2 h'⟩
theorem Rs.drop : ∀ {l : List D} {vs : List Value}, Rs w M l vs → ∀ n, Rs w M (l.drop n) (vs.drop n)
  | _, _, h, 0 => by simpa using h
  | [], _, h, n + 1 => by subst h; simp [Rs]
  | d :: l, vs, ⟨v, r, e, h1, h2⟩, n + 1 => by subst e; simpa using Rs.drop h2 n
theorem Rs.take : ∀ {l : List D} {vs : List Value}, Rs w M l vs → ∀ n, Rs w M (l.take n) (vs.take n)
  | _, _, h, 0 => by simp [Rs]
  | [], _, h, n + 1 => by subst h; simp [Rs]
  | d :: l, vs, ⟨v, r, e, h1, h2⟩, n + 1 => by subst e; exact ⟨v, r.take n, by simp, h1, Rs.take h2 n⟩
theorem Rs.one {d : D} {v : Value} (h : R w M d v) : Rs w M [d] [v] := ⟨v, [], rfl, h, rfl⟩
theorem Rw.get : ∀ {l : List D} {b o : Nat}, Rw w M l b o → ∀ {i : Nat} {d : D}, l[i]? = some d → ∃ v, w.cell? ⟨b, o + i, none⟩ = some v ∧ ¬ M ⟨b, o + i, none⟩ ∧ R w M d v
  | [], _, _, _, i, d, hd => by simp at hd
  | d :: l, b, o, ⟨h1, h2⟩, 0, d', hd => by simp at hd; subst hd; simpa using h1
  | d :: l, b, o, ⟨h1, h2⟩, i + 1, d', hd => by
    simp at hd
    have := Rw.get h2 hd
    rwa [show o + 1 + i = o + (i + 1) by omega] at this
theorem Rw.drop : ∀ {l : List D} {b o : Nat}, Rw w M l b o → ∀ n, Rw w M (l.drop n) b (o + n)
  | _, _, _, h, 0 => by simpa using h
  | [], _, _, h, n + 1 => by simp [Rw]
  | d :: l, b, o, ⟨h1, h2⟩, n + 1 => by
    have := Rw.drop h2 n
    simpa [Nat.add_assoc, Nat.add_comm 1 n] using this
theorem Rw.take : ∀ {l : List D} {b o : Nat}, Rw w M l b o → ∀ n, Rw w M (l.take n) b o
  | _, _, _, h, 0 => by simp [Rw]
  | [], _, _, h, n + 1 => by simp [Rw]
  | d :: l, b, o, ⟨h1, h2⟩, n + 1 => ⟨h1, Rw.take h2 n⟩
theorem Rw.of : ∀ {l : List D} {b o : Nat}, (∀ i d, l[i]? = some d → ∃ v, w.cell? ⟨b, o + i, none⟩ = some v ∧ ¬ M ⟨b, o + i, none⟩ ∧ R w M d v) → Rw w M l b o
  | [], _, _, _ => trivial
  | d :: l, b, o, h => ⟨by simpa using h 0 d rfl, Rw.of fun i d' hd => by
      have := h (i + 1) d' (by simpa using hd)
      rwa [show o + (i + 1) = o + 1 + i by omega] at this⟩
theorem Rw.append : ∀ {l l' : List D} {b o : Nat}, Rw w M l b o → Rw w M l' b (o + l.length) → Rw w M (l ++ l') b o
  | [], _, _, _, _, h' => by simpa using h'
  | d :: l, l', b, o, ⟨h1, h2⟩, h' => ⟨h1, Rw.append h2 (by simpa [Nat.add_assoc, Nat.add_comm 1 l.length] using h')⟩
/-- The cells of a row, read at once. -/
theorem Rw.cells : ∀ {l : List D} {b o : Nat}, Rw w M l b o → ∃ vs : List Value, vs.length = l.length ∧ Rs w M l vs ∧ ∀ i u, vs[i]? = some u → w.cell? ⟨b, o + i, none⟩ = some u
  | [], _, _, _ => ⟨[], rfl, rfl, fun i u h => by simp at h⟩
  | d :: l, b, o, ⟨⟨v, h1, h2, h3⟩, h4⟩ => by
    obtain ⟨vs, e, hr, hc⟩ := Rw.cells h4
    refine ⟨v :: vs, by simp [e], ⟨v, vs, rfl, h3, hr⟩, fun i u hu => ?_⟩
    cases i with
    | zero => simp at hu; subst hu; simpa using h1
    | succ i => simp at hu; have := hc i u hu; rwa [show o + 1 + i = o + (i + 1) by omega] at this
theorem Rws.get {n : Nat} : ∀ {rows : List (List D)} {b o : Nat}, Rws w M rows b o → (∀ r ∈ rows, r.length = n) → ∀ {i : Nat} {r : List D}, rows[i]? = some r → Rw w M r b (o + i * n)
  | [], _, _, _, _, i, r, hr => by simp at hr
  | r :: l, b, o, ⟨h1, h2⟩, hn, 0, r', hr => by simp at hr; subst hr; simpa using h1
  | r :: l, b, o, ⟨h1, h2⟩, hn, i + 1, r', hr => by
    simp at hr
    have e := hn r (by simp)
    have := Rws.get h2 (fun x hx => hn x (by simp [hx])) hr
    rw [e] at this
    rwa [show o + n + i * n = o + (i + 1) * n by rw [Nat.add_mul]; omega] at this
theorem Rws.of {n : Nat} : ∀ {rows : List (List D)} {b o : Nat}, (∀ r ∈ rows, r.length = n) → (∀ i r, rows[i]? = some r → Rw w M r b (o + i * n)) → Rws w M rows b o
  | [], _, _, _, _ => trivial
  | r :: l, b, o, hn, h => ⟨by simpa using h 0 r rfl, Rws.of (fun x hx => hn x (by simp [hx])) fun i r' hr => by
      have := h (i + 1) r' (by simpa using hr)
      rw [hn r (by simp)]
      rwa [show o + (i + 1) * n = o + n + i * n by rw [Nat.add_mul]; omega] at this⟩
end
section
set_option linter.unusedSectionVars false
variable [GC]
/-- A world in which a function may begin: what is kept from it lies there, and the package's variables hold what they should. -/
def Rdy (w : World) (M : Addr → Prop) : Prop := (∀ p, M p → p.block < w.heap.size) ∧ GInv w ∧ NG ≤ w.heap.size
theorem Rdy.below {w w' : World} {M M' : Addr → Prop} (h : Rdy w M) (hb : Below w.heap.size w w') (hM : ∀ p, M' p → p.block < w'.heap.size) : Rdy w' M' :=
  ⟨hM, h.2.1.keep fun k hk => hb.block k (Nat.lt_of_lt_of_le hk h.2.2), Nat.le_trans h.2.2 hb.size⟩
end
theorem Keeps.refl (w : World) (M : Addr → Prop) : Keeps w M w M := fun _ _ h hm => ⟨h, hm⟩
theorem Keeps.trans {w w' w'' : World} {M M' M'' : Addr → Prop} (h : Keeps w M w' M') (h' : Keeps w' M' w'' M'') : Keeps w M w'' M'' :=
  fun p v hp hm => h' p v (h p v hp hm).1 (h p v hp hm).2
/-- New memory keeps all; a set that grows by new cells alone. -/
theorem Keeps.below {w w' : World} {M M' : Addr → Prop} (hb : Below w.heap.size w w') (hM : ∀ p, p.block < w.heap.size → M' p → M p) : Keeps w M w' M' :=
  fun p v hp hm => ⟨by rw [hb.cell (block_lt_of_cell hp)]; exact hp, fun h => hm (hM p (block_lt_of_cell hp) h)⟩

/-- Types of cells: a slice's element type by its number. -/
inductive CT where
  | bool | int (k : IntKind) | str | sl (e : Nat) | mem | fn
  deriving DecidableEq
mutual
def HasTy (tab : Nat → List CT) : CT → D → Prop
  | .bool, .bool _ => True
  | .int k, .int k' _ => k = k'
  | .str, .str _ => True
  | .sl e, .sl rows => RowsTy tab (tab e) rows
  | .mem, .mem _ => True
  | .fn, .fn _ _ => True
  | _, _ => False
def RowTy (tab : Nat → List CT) : List CT → List D → Prop
  | [], [] => True
  | t :: ts, d :: ds => HasTy tab t d ∧ RowTy tab ts ds
  | _, _ => False
def RowsTy (tab : Nat → List CT) : List CT → List (List D) → Prop
  | _, [] => True
  | ts, r :: rs => RowTy tab ts r ∧ RowsTy tab ts rs
end
theorem RowTy.length {tab : Nat → List CT} : ∀ {ts : List CT} {l : List D}, RowTy tab ts l → l.length = ts.length
  | [], [], _ => rfl
  | t :: ts, d :: ds, h => by simp [RowTy] at h; simp [RowTy.length h.2]
  | [], _ :: _, h => by simp [RowTy] at h
  | _ :: _, [], h => by simp [RowTy] at h
theorem RowsTy.mem {tab : Nat → List CT} {ts : List CT} : ∀ {rows : List (List D)}, RowsTy tab ts rows → ∀ r ∈ rows, RowTy tab ts r
  | [], _, r, hr => by simp at hr
  | r :: l, h, r', hr => by
    simp [RowsTy] at h
    rcases List.mem_cons.1 hr with e | e
    · subst e; exact h.1
    · exact RowsTy.mem h.2 r' e
theorem RowsTy.of {tab : Nat → List CT} {ts : List CT} : ∀ {rows : List (List D)}, (∀ r ∈ rows, RowTy tab ts r) → RowsTy tab ts rows
  | [], _ => by simp [RowsTy]
  | r :: l, h => by simp only [RowsTy]; exact ⟨h r (by simp), RowsTy.of fun x hx => h x (by simp [hx])⟩
theorem RowsTy.len {tab : Nat → List CT} {ts : List CT} {rows : List (List D)} (h : RowsTy tab ts rows) : ∀ r ∈ rows, r.length = ts.length := fun r hr => (h.mem r hr).length
theorem RowTy.get {tab : Nat → List CT} : ∀ {ts : List CT} {l : List D}, RowTy tab ts l → ∀ {i : Nat} {t : CT}, ts[i]? = some t → ∃ d, l[i]? = some d ∧ HasTy tab t d
  | [], _, _, i, t, ht => by simp at ht
  | t :: ts, d :: ds, h, 0, t', ht => by simp [RowTy] at h; simp at ht; subst ht; exact ⟨d, rfl, h.1⟩
  | t :: ts, d :: ds, h, i + 1, t', ht => by simp [RowTy] at h; simp at ht; obtain ⟨x, hx, h2⟩ := RowTy.get h.2 ht; exact ⟨x, by simpa using hx, h2⟩
  | _ :: _, [], h, _, _, _ => by simp [RowTy] at h
theorem RowTy.append {tab : Nat → List CT} : ∀ {ts ts' : List CT} {l l' : List D}, RowTy tab ts l → RowTy tab ts' l' → RowTy tab (ts ++ ts') (l ++ l')
  | [], _, [], _, _, h' => by simpa using h'
  | t :: ts, _, d :: ds, _, h, h' => by simp [RowTy] at h; simp only [List.cons_append, RowTy]; exact ⟨h.1, RowTy.append h.2 h'⟩
  | [], _, _ :: _, _, h, _ => by simp [RowTy] at h
  | _ :: _, _, [], _, h, _ => by simp [RowTy] at h
theorem RowTy.drop {tab : Nat → List CT} : ∀ {ts : List CT} {l : List D}, RowTy tab ts l → ∀ n, RowTy tab (ts.drop n) (l.drop n)
  | _, _, h, 0 => by simpa using h
  | [], [], h, n + 1 => by simp [RowTy]
  | t :: ts, d :: ds, h, n + 1 => by simp [RowTy] at h; simpa using RowTy.drop h.2 n
  | [], _ :: _, h, _ + 1 => by simp [RowTy] at h
  | _ :: _, [], h, _ + 1 => by simp [RowTy] at h
theorem RowTy.take {tab : Nat → List CT} : ∀ {ts : List CT} {l : List D}, RowTy tab ts l → ∀ n, RowTy tab (ts.take n) (l.take n)
  | _, _, h, 0 => by simp [RowTy]
  | [], [], h, n + 1 => by simp [RowTy]
  | t :: ts, d :: ds, h, n + 1 => by simp [RowTy] at h; simp only [List.take_succ_cons, RowTy]; exact ⟨h.1, RowTy.take h.2 n⟩
  | [], _ :: _, h, _ + 1 => by simp [RowTy] at h
  | _ :: _, [], h, _ + 1 => by simp [RowTy] at h

mutual
/-- The bounds that data read from memory keep. -/
def Fits : D → Prop
  | .int k n => k.min ≤ n ∧ n ≤ k.max
  | .str s => s.size ≤ maxLen
  | .agg l => FitsL l
  | .tup l => FitsL l
  | .sl rows => rows.length ≤ maxLen ∧ FitsR rows
  | _ => True
def FitsL : List D → Prop
  | [] => True
  | d :: l => Fits d ∧ FitsL l
def FitsR : List (List D) → Prop
  | [] => True
  | r :: l => FitsL r ∧ FitsR l
end
section
variable {w : World} {M : Addr → Prop}
mutual
theorem R.fits : ∀ (d : D) (v : Value), R w M d v → Fits d
  | .bool _, _, _ => trivial
  | .int _ _, _, h => h.2
  | .str _, _, h => h.2
  | .agg l, v, ⟨cs, e, hr⟩ => Rs.fits l _ hr
  | .tup l, v, ⟨cs, e, hr⟩ => Rs.fits l _ hr
  | .sl rows, v, ⟨a, len, cap, e, h1, h2, h3, h4, h5⟩ => ⟨by omega, by
      rcases a with _ | ⟨b, o, s⟩
      · have : rows = [] := List.eq_nil_of_length_eq_zero (by have := h4 rfl; omega)
        subst this; trivial
      · exact Rws.fits rows b o (h5 b o s rfl).2⟩
  | .mem _, _, _ => trivial
  | .fn _ _, _, _ => trivial
  | .un, _, h => h.elim
theorem Rs.fits : ∀ (l : List D) (vs : List Value), Rs w M l vs → FitsL l
  | [], _, _ => trivial
  | d :: l, vs, ⟨v, r, e, h1, h2⟩ => ⟨R.fits d v h1, Rs.fits l r h2⟩
theorem Rw.fits : ∀ (l : List D) (b o : Nat), Rw w M l b o → FitsL l
  | [], _, _, _ => trivial
  | d :: l, b, o, ⟨⟨v, h1, h2, h3⟩, h4⟩ => ⟨R.fits d v h3, Rw.fits l b (o + 1) h4⟩
theorem Rws.fits : ∀ (l : List (List D)) (b o : Nat), Rws w M l b o → FitsR l
  | [], _, _, _ => trivial
  | r :: l, b, o, ⟨h1, h2⟩ => ⟨Rw.fits r b o h1, Rws.fits l b (o + r.length) h2⟩
end
end
end Go.Proofs.YtgaeigomhhbkfaaGreat
