/- A row of entries that grows by appends: its cells as a list; where the rows within lie. -/
import Derived.Test.YtimickglpboilaaGreatN13
import Derived.Maps.AppendAt
import Derived.ArgAppend
import Derived.Test.YtimickglpboilaaGreatN11
import Derived.PlainAid
import Derived.Test.YtimickglpboilaaGreatN0
set_option linter.unusedVariables false
set_option linter.unusedSimpArgs false
set_option maxRecDepth 100000
set_option linter.unusedSectionVars false
namespace Go.Proofs.YtimickglpboilaaGreat
open Go.RowKit Go
structure Rows (B : Nat) (w : World) (ob : Option Nat) (n : Nat) (l : List Entry) (xs : List Value) (u1 u4 : Nat → Value) (ro no : Nat → Option Nat) : Prop where
 le : n ≤ l.length
 xl : xs.length = n * 5
 x0 : ∀ a, a < n → xs[a * 5]? = some (.string (nth l a).name) ∧ (nth l a).name.size ≤ maxLen
 x1 : ∀ a, a < n → xs[a * 5 + 1]? = some (u1 a)
 x2 : ∀ a, a < n → xs[a * 5 + 2]? = some (.int .i64 (nth l a).ver.maj) ∧ IntKind.i64.min ≤ (nth l a).ver.maj ∧ (nth l a).ver.maj ≤ IntKind.i64.max
 x3 : ∀ a, a < n → xs[a * 5 + 3]? = some (.int .i64 (nth l a).ver.min) ∧ IntKind.i64.min ≤ (nth l a).ver.min ∧ (nth l a).ver.min ≤ IntKind.i64.max
 x4 : ∀ a, a < n → xs[a * 5 + 4]? = some (u4 a)
 r1 : ∀ a, a < n → RowIn B w ((nth l a).recipe.map Enc.cells) (u1 a) (ro a)
 r4 : ∀ a, a < n → RowIn B w ((nth l a).needs.map Enc.cells) (u4 a) (no a)
 rb : ∀ a x, a < n → ro a = some x → ob ≠ some x
 nb : ∀ a x, a < n → no a = some x → ob ≠ some x
 rn : ∀ a c x, a < n → c < n → ro a = some x → no c ≠ some x
 rr : ∀ a c x, a < n → c < n → a ≠ c → ro a = some x → ro c ≠ some x
 nn : ∀ a c x, a < n → c < n → a ≠ c → no a = some x → no c ≠ some x
theorem Rows.nil {B : Nat} {w : World} {ob : Option Nat} {l : List Entry} : Rows B w ob 0 l [] (fun _ => .slice Option.none 0 0) (fun _ => .slice Option.none 0 0) (fun _ => Option.none) (fun _ => Option.none) :=
 ⟨Nat.zero_le _, rfl, fun a h => absurd h (by omega), fun a h => absurd h (by omega), fun a h => absurd h (by omega), fun a h => absurd h (by omega), fun a h => absurd h (by omega), fun a h => absurd h (by omega), fun a h => absurd h (by omega), fun a x h => absurd h (by omega), fun a x h => absurd h (by omega), fun a c x h => absurd h (by omega), fun a c x h => absurd h (by omega), fun a c x h => absurd h (by omega)⟩
theorem Rows.move {B : Nat} {w w' : World} {ob ob' : Option Nat} {n : Nat} {l : List Entry} {xs : List Value} {u1 u4 : Nat → Value} {ro no : Nat → Option Nat} (h : Rows B w ob n l xs u1 u4 ro no) (hs : w.heap.size ≤ w'.heap.size)
  (hk : ∀ k, k < w.heap.size → some k ≠ ob → w'.heap[k]? = w.heap[k]?) (hnew : ob' = ob ∨ ∀ x, ob' = some x → w.heap.size ≤ x) : Rows B w' ob' n l xs u1 u4 ro no :=
 { h with
  r1 := fun a ha => (h.r1 a ha).keep hs (fun p v hp e => by rw [World.cell?_of_block (hk p.block (block_lt_of_cell hp) fun e2 => h.rb a _ ha e e2.symm)]; exact hp) fun p hp e => fro_of_block (hk p.block hp fun e2 => h.rb a _ ha e e2.symm)
  r4 := fun a ha => (h.r4 a ha).keep hs (fun p v hp e => by rw [World.cell?_of_block (hk p.block (block_lt_of_cell hp) fun e2 => h.nb a _ ha e e2.symm)]; exact hp) fun p hp e => fro_of_block (hk p.block hp fun e2 => h.nb a _ ha e e2.symm)
  rb := fun a x ha e => by
   rcases hnew with rfl | hnew
   ·exact h.rb a x ha e
   ·intro e2
    have h1 := hnew x e2
    have := h.r1 a ha
    rw [e] at this
    have := this.2.1
    omega
  nb := fun a x ha e => by
   rcases hnew with rfl | hnew
   ·exact h.nb a x ha e
   ·intro e2
    have h1 := hnew x e2
    have := h.r4 a ha
    rw [e] at this
    have := this.2.1
    omega }
theorem Rows.snoc {B : Nat} {w : World} {ob : Option Nat} {n : Nat} {l : List Entry} {xs : List Value} {u1 u4 : Nat → Value} {ro no : Nat → Option Nat} (h : Rows B w ob n l xs u1 u4 ro no) (hn : n < l.length) {y1 y4 : Value} {r1 r4 : Option Nat}
  (q0 : (nth l n).name.size ≤ maxLen) (q2 : IntKind.i64.min ≤ (nth l n).ver.maj ∧ (nth l n).ver.maj ≤ IntKind.i64.max) (q3 : IntKind.i64.min ≤ (nth l n).ver.min ∧ (nth l n).ver.min ≤ IntKind.i64.max)
  (z1 : RowIn B w ((nth l n).recipe.map Enc.cells) y1 r1) (z4 : RowIn B w ((nth l n).needs.map Enc.cells) y4 r4) (hrb : ∀ x, r1 = some x → ob ≠ some x) (hnb : ∀ x, r4 = some x → ob ≠ some x) (hap : ∀ x, r1 = some x → r4 ≠ some x)
  (o1 : ∀ a x, a < n → r1 = some x → ro a ≠ some x ∧ no a ≠ some x) (o4 : ∀ a x, a < n → r4 = some x → ro a ≠ some x ∧ no a ≠ some x) :
  Rows B w ob (n + 1) l (xs ++ [.string (nth l n).name, y1, .int .i64 (nth l n).ver.maj, .int .i64 (nth l n).ver.min, y4]) (fun a => if a = n then y1 else u1 a) (fun a => if a = n then y4 else u4 a) (fun a => if a = n then r1 else ro a) (fun a => if a = n then r4 else no a) := by
 have hl := h.xl
 have old : ∀ {a j : Nat}, a < n → j < 5 → (xs ++ [.string (nth l n).name, y1, .int .i64 (nth l n).ver.maj, .int .i64 (nth l n).ver.min, y4])[a * 5 + j]? = xs[a * 5 + j]? := fun {a j} ha hj => List.getElem?_append_left (by rw [hl]; omega)
 have new : ∀ {j : Nat}, (xs ++ [.string (nth l n).name, y1, .int .i64 (nth l n).ver.maj, .int .i64 (nth l n).ver.min, y4])[n * 5 + j]? = [Value.string (nth l n).name, y1, .int .i64 (nth l n).ver.maj, .int .i64 (nth l n).ver.min, y4][j]? := fun {j} => by
  rw [List.getElem?_append_right (by rw [hl]; omega), hl]
  congr 1
  omega
 have lt : ∀ {a : Nat}, a < n + 1 → a ≠ n → a < n := fun h1 h2 => by omega
 refine ⟨hn, by simp [hl, Nat.add_mul], fun a ha => ?_, fun a ha => ?_, fun a ha => ?_, fun a ha => ?_, fun a ha => ?_, fun a ha => ?_, fun a ha => ?_, fun a x ha e => ?_, fun a x ha e => ?_, fun a c x ha hc e => ?_, fun a c x ha hc hne e => ?_, fun a c x ha hc hne e => ?_⟩
 ·by_cases e : a = n
  ·subst e; exact ⟨new (j := 0), q0⟩
  ·have := h.x0 a (lt ha e)
   exact ⟨(old (j := 0) (lt ha e) (by omega)).trans this.1, this.2⟩
 ·by_cases e : a = n
  ·subst e; simp only [if_true]; exact new (j := 1)
  ·simp only [e, if_false]; exact (old (j := 1) (lt ha e) (by omega)).trans (h.x1 a (lt ha e))
 ·by_cases e : a = n
  ·subst e; exact ⟨new (j := 2), q2⟩
  ·have := h.x2 a (lt ha e)
   exact ⟨(old (j := 2) (lt ha e) (by omega)).trans this.1, this.2⟩
 ·by_cases e : a = n
  ·subst e; exact ⟨new (j := 3), q3⟩
  ·have := h.x3 a (lt ha e)
   exact ⟨(old (j := 3) (lt ha e) (by omega)).trans this.1, this.2⟩
 ·by_cases e : a = n
  ·subst e; simp only [if_true]; exact new (j := 4)
  ·simp only [e, if_false]; exact (old (j := 4) (lt ha e) (by omega)).trans (h.x4 a (lt ha e))
 ·by_cases e : a = n
  ·subst e; simpa using z1
  ·simpa [e] using h.r1 a (lt ha e)
 ·by_cases e : a = n
  ·subst e; simpa using z4
  ·simpa [e] using h.r4 a (lt ha e)
 ·by_cases e2 : a = n
  ·subst e2; simp at e; exact hrb x e
  ·simp [e2] at e; exact h.rb a x (lt ha e2) e
 ·by_cases e2 : a = n
  ·subst e2; simp at e; exact hnb x e
  ·simp [e2] at e; exact h.nb a x (lt ha e2) e
 ·by_cases e2 : a = n
  ·subst e2
   simp at e
   by_cases e3 : c = a
   ·subst e3; simpa using hap x e
   ·simpa [e3] using (o1 c x (lt hc e3) e).2
  ·simp [e2] at e
   by_cases e3 : c = n
   ·subst e3
    simp only [if_true]
    exact fun e4 => (o4 a x (lt ha e2) e4).1 e
   ·simpa [e3] using h.rn a c x (lt ha e2) (lt hc e3) e
 ·by_cases e2 : a = n
  ·subst e2
   simp at e
   have e3 : c ≠ a := fun h => hne h.symm
   simpa [e3] using (o1 c x (lt hc e3) e).1
  ·simp [e2] at e
   by_cases e3 : c = n
   ·subst e3
    simp only [if_true]
    exact fun e4 => (o1 a x (lt ha e2) e4).1 e
   ·simpa [e3] using h.rr a c x (lt ha e2) (lt hc e3) hne e
 ·by_cases e2 : a = n
  ·subst e2
   simp at e
   have e3 : c ≠ a := fun h => hne h.symm
   simpa [e3] using (o4 c x (lt hc e3) e).2
  ·simp [e2] at e
   by_cases e3 : c = n
   ·subst e3
    simp only [if_true]
    exact fun e4 => (o4 a x (lt ha e2) e4).2 e
   ·simpa [e3] using h.nn a c x (lt ha e2) (lt hc e3) hne e
theorem Rows.pre {B : Nat} {w : World} {T : TypeId} {g cap : Nat} {cur : Array Value} {l : List Entry} {xs : List Value} {u1 u4 : Nat → Value} {ro no : Nat → Option Nat} (h : Rows B w (some g) l.length l xs u1 u4 ro no)
  (hg : B ≤ g) (hc : w.heap[g]? = some (.cells cur T (0, 0))) (ht : cur.toList.take (l.length * 5) = xs) : PreE B w g l.length l u1 u4 ro no := by
 have cell : ∀ {j : Nat} {v : Value}, xs[j]? = some v → w.cell? ⟨g, j, Option.none⟩ = some v := fun {j v} hv => by
  rw [← ht, List.getElem?_take] at hv
  split at hv
  ·unfold World.cell?
   rw [hc]
   simpa using hv
  ·cases hv
 refine ⟨Nat.le_refl _, ⟨hg, (Array.getElem?_eq_some_iff.1 hc).1⟩, fun a ha => ⟨cell (h.x0 a ha).1, (h.x0 a ha).2⟩, fun a ha => cell (h.x1 a ha), fun a ha => ⟨cell (h.x2 a ha).1, (h.x2 a ha).2⟩, fun a ha => ⟨cell (h.x3 a ha).1, (h.x3 a ha).2⟩, fun a ha => cell (h.x4 a ha), h.r1, h.r4, fun x y => ?_, fun a x ha e e2 => h.rb a x ha e (by rw [e2]), fun a x ha e e2 => h.nb a x ha e (by rw [e2]), h.rn, h.rr, h.nn⟩
 unfold World.frozen?
 rw [hc]
 simp
end Go.Proofs.YtimickglpboilaaGreat
/- Contract by hand: copies of entries: each row in the answer lies in a new block of its own. -/
namespace Go.Proofs.YtimickglpboilaaGreat
open Go.RowKit Go
theorem w_copyEntry {f : FuncId} (x : Entry) (hF : FunR Tryz.prog f Option.none [enc x] (enc x) [] [(1, 1), (4, 4)]) {w : World} {v : Value} (hr : R w (fun _ => False) (enc x) v) :
  Calls Tryz.prog f #[v] w fun e w' => ∃ y1 y4 r1 r4, e = .returned (.agg #[.string x.name, y1, .int .i64 x.ver.maj, .int .i64 x.ver.min, y4]) ∧ x.name.size ≤ maxLen ∧ (IntKind.i64.min ≤ x.ver.maj ∧ x.ver.maj ≤ IntKind.i64.max) ∧ (IntKind.i64.min ≤ x.ver.min ∧ x.ver.min ≤ IntKind.i64.max) ∧
   RowIn w.heap.size w' (x.recipe.map Enc.cells) y1 r1 ∧ RowIn w.heap.size w' (x.needs.map Enc.cells) y4 r4 ∧ (∀ z, r1 = some z → r4 ≠ some z) ∧ y1.oneCell' = true ∧ y4.oneCell' = true ∧ Below w.heap.size w w' := by
 refine (hF.2 w _ 0 [v] (rdy0 w) ⟨_, [], rfl, hr, rfl⟩ (fun cs h => by cases h)).mono ?_
 rintro e w' ⟨v', rfl, ⟨cs, rfl, h2⟩, h3, h4, _⟩
 obtain ⟨y0, _, hc, ⟨r01, r02⟩, y1, _, rfl, r1, y2, _, rfl, ⟨r21, r22⟩, y3, _, rfl, ⟨r31, r32⟩, y4, _, rfl, r4, hx⟩ := h2
 have hx : _ = [] := hx
 subst hx
 have hcs : cs = #[y0, y1, y2, y3, y4] := by rw [← Array.toList_inj, hc]
 subst hcs
 subst r01 r21 r31
 obtain ⟨a1, l1, c1, hy1, z1⟩ := (show R w' _ (.sl (x.recipe.map Enc.cells)) y1 from r1)
 obtain ⟨a4, l4, c4, hy4, z4⟩ := (show R w' _ (.sl (x.needs.map Enc.cells)) y4 from r4)
 have e1 := h4.1 (1, 1) (by simp)
 have e4 := h4.1 (4, 4) (by simp)
 have ap := h4.2 0 1 (1, 1) (4, 4) rfl rfl (by decide)
 have f1 : rtV (.agg #[.string x.name, y1, .int .i64 x.ver.maj, .int .i64 x.ver.min, y4]) (1, 1) = y1 := by subst hy1 hy4; rfl
 have f4 : rtV (.agg #[.string x.name, y1, .int .i64 x.ver.maj, .int .i64 x.ver.min, y4]) (4, 4) = y4 := by subst hy1 hy4; rfl
 rw [f1] at e1 ap
 rw [f4] at e4 ap
 obtain ⟨o1, k1, b1⟩ := rowIn_of r1 (str_flat _).1 (str_flat _).2 e1
 obtain ⟨o4, k4, b4⟩ := rowIn_of r4 (need_flat _).1 (need_flat _).2 e4
 refine ⟨y1, y4, o1, o4, rfl, r02, r22, r32, k1, k4, fun z hz1 hz4 => ?_, by subst hy1; rfl, by subst hy4; rfl, h3.to_below⟩
 obtain ⟨p1, s1, n1, m1, q1, q1'⟩ := b1 z hz1
 obtain ⟨p4, s4, n4, m4, q4, q4'⟩ := b4 z hz4
 exact ap _ _ _ _ _ _ _ _ _ _ q1 q1' q4 q4' rfl
theorem owns_base {w : World} {B n sz : Nat} {e : TypeId} {v : Value} {xs : List Value} (h : w.ownsRow B e sz v n xs) {g : Nat} (hg : v.ownBlock = some g) : B ≤ g ∧ g < w.heap.size := by
 obtain ⟨_, h | ⟨g', cap, cur, h1, h2, h3, _⟩⟩ := h
 ·rw [h.1] at hg; cases hg
 ·rw [h1] at hg
  have hg : some g' = some g := hg
  cases hg
  exact ⟨h2, (Array.getElem?_eq_some_iff.1 h3).1⟩
theorem owns_below {w w' : World} {B n sz : Nat} {e : TypeId} {v : Value} {xs : List Value} (h : w.ownsRow B e sz v n xs) (hb : Below w.heap.size w w') : w'.ownsRow B e sz v n xs := by
 obtain ⟨h0, h | ⟨g', cap, cur, h1, h2, h3, h4⟩⟩ := h
 ·exact ⟨h0, .inl h⟩
 ·exact ⟨h0, .inr ⟨g', cap, cur, h1, h2, by rw [hb.block g' (Array.getElem?_eq_some_iff.1 h3).1]; exact h3, h4⟩⟩
theorem cells_new {w : World} {xs : List Value} {T : TypeId} : ∀ (j : Nat) (u : Value), xs[j]? = some u → (w.alloc (.cells xs.toArray T)).cell? ((⟨w.heap.size, 0, Option.none⟩ : Addr).add j) = some u := fun j u h => by
 rw [Addr.add_lit]
 unfold World.cell?
 have : (w.alloc (.cells xs.toArray T)).heap[w.heap.size]? = some (.cells xs.toArray T (0, 0)) := heap_alloc_new w _
 simp only [this]
 simpa using h
theorem RowIn.le {B : Nat} {w : World} {rows : List (List D)} {u : Value} {r : Option Nat} (h : RowIn B w rows u r) {x : Nat} (e : r = some x) : B ≤ x ∧ x < w.heap.size := by
 subst e; exact ⟨h.1, h.2.1⟩
theorem rows_append {w wr W w1 w3 : World} {l : List Entry} {k : Nat} {out v' : Value} {xs : List Value} {u1 u4 : Nat → Value} {ro no : Nat → Option Nat} {T T' : TypeId} {y1 y4 : Value} {r1 r4 : Option Nat} {sl : Array Value}
  (hB : Below w.heap.size w wr) (hO : wr.ownsRow w.heap.size T 5 out k xs) (hR : Rows w.heap.size wr out.ownBlock k l xs u1 u4 ro no) (hk : k < l.length) (hW : wr.heap.size ≤ W.heap.size) (hZ : Below wr.heap.size wr w1)
  (q0 : (nth l k).name.size ≤ maxLen) (q2 : IntKind.i64.min ≤ (nth l k).ver.maj ∧ (nth l k).ver.maj ≤ IntKind.i64.max) (q3 : IntKind.i64.min ≤ (nth l k).ver.min ∧ (nth l k).ver.min ≤ IntKind.i64.max)
  (z1 : RowIn W.heap.size w1 ((nth l k).recipe.map Enc.cells) y1 r1) (z4 : RowIn W.heap.size w1 ((nth l k).needs.map Enc.cells) y4 r4) (hap : ∀ x, r1 = some x → r4 ≠ some x)
  (hg : (w1.alloc (.cells sl T')).grownBy w3 out.ownBlock) (hob : v'.ownBlock = out.ownBlock ∨ v'.ownBlock = some (w1.alloc (.cells sl T')).heap.size) :
  Below w.heap.size w w3 ∧ Rows w.heap.size w3 v'.ownBlock (k + 1) l (xs ++ [.string (nth l k).name, y1, .int .i64 (nth l k).ver.maj, .int .i64 (nth l k).ver.min, y4]) (fun a => if a = k then y1 else u1 a) (fun a => if a = k then y4 else u4 a) (fun a => if a = k then r1 else ro a) (fun a => if a = k then r4 else no a) := by
 have hA : Below w1.heap.size w1 (w1.alloc (.cells sl T')) := (Below.refl _ _).alloc (Nat.le_refl _) _
 have hs1 := hZ.size
 have hsB := hB.size
 have ha := hA.size
 constructor
 ·have h2 : Below w.heap.size w (w1.alloc (.cells sl T')) := bt (bt hB hZ) hA
  refine ⟨hg.os.trans h2.os, hg.tape.trans h2.tape, hg.output.trans h2.output, Nat.le_trans h2.size hg.size, fun j hj => ?_⟩
  rw [hg.block j (by omega) fun e => by have := (owns_base hO e.symm).1; omega]
  exact h2.block j hj
 ·have R1 := (hR.move hs1 (fun j hj _ => hZ.block j hj) (.inl rfl)).move ha (fun j hj _ => hA.block j hj) (.inl rfl)
  have k1 : ∀ {rows : List (List D)} {u : Value} {r : Option Nat}, RowIn W.heap.size w1 rows u r → RowIn w.heap.size (w1.alloc (.cells sl T')) rows u r := fun h =>
   (h.keep ha (fun p v hp _ => by rw [hA.cell (block_lt_of_cell hp)]; exact hp) fun p hp _ => fro_of_block (hA.block p.block hp)).low (by omega)
  have old1 : ∀ a x, a < k → ro a = some x → x < wr.heap.size := fun a x ha e => ((hR.r1 a ha).le e).2
  have old4 : ∀ a x, a < k → no a = some x → x < wr.heap.size := fun a x ha e => ((hR.r4 a ha).le e).2
  have ob : ∀ x, out.ownBlock = some x → x < wr.heap.size := fun x e => (owns_base hO e).2
  have R2 := R1.snoc hk q0 q2 q3 (k1 z1) (k1 z4) (fun x e e2 => by have := (z1.le e).1; have := ob x e2; omega) (fun x e e2 => by have := (z4.le e).1; have := ob x e2; omega) hap
   (fun a x ha e => ⟨fun e2 => by have := (z1.le e).1; have := old1 a x ha e2; omega, fun e2 => by have := (z1.le e).1; have := old4 a x ha e2; omega⟩)
   (fun a x ha e => ⟨fun e2 => by have := (z4.le e).1; have := old1 a x ha e2; omega, fun e2 => by have := (z4.le e).1; have := old4 a x ha e2; omega⟩)
  refine R2.move hg.size (fun j hj hne => hg.block j hj hne) ?_
  rcases hob with e | e
  ·exact .inl e
  ·exact .inr fun x hx => by rw [e] at hx; cases hx; exact Nat.le_refl _
theorem h_copyEntries (l : List Entry) (hl : l.length ≤ 1048576) (hF : ∀ k, k < l.length → FunR Tryz.prog 56 Option.none [enc (nth l k)] (enc (nth l k)) [] [(1, 1), (4, 4)]) (w : World) (v : Value) (hv : R w (fun _ => False) (encS l) v) :
  Calls Tryz.prog 21 #[v] w fun e w' => ∃ v' xs u1 u4 ro no, e = .returned v' ∧ w'.ownsRow w.heap.size 50 5 v' l.length xs ∧ Rows w.heap.size w' v'.ownBlock l.length l xs u1 u4 ro no ∧ Below w.heap.size w w' := by
 have hlen := map_len (n := 5) (fun x => rfl) l
 obtain ⟨a, cap, rfl, hml, hel⟩ := arg_slice hlen hv
 rw [List.length_map] at hml ⊢
 have HE := Lib.hid hel
 clear hel hv
 obtain ⟨ti, hti, hz, hsz, hby⟩ := info_parts (P := Tryz.prog) (e := 50) (z := .agg #[.string ⟨#[]⟩, .slice Option.none 0 0, .int .i64 0, .int .i64 0, .slice Option.none 0 0]) (size := 5) (bytes := 80) (by kernel_rfl)
 go_enter Tryz.func21, Tryz.ntmps21
 go_wp2
 go_loopw [3, 8] (fun out ii wr => Below w.heap.size w wr ∧ ∃ (k : Nat) (xs : List Value) (u1 u4 : Nat → Value) (ro no : Nat → Option Nat), k ≤ l.length ∧ ii = .int .i64 (k : Int) ∧ wr.ownsRow w.heap.size 50 5 out k xs ∧ Rows w.heap.size wr out.ownBlock k l xs u1 u4 ro no) (fun _ ii _ => l.length - (intOf ii).toNat)
 case atStart => exact ⟨by go_grown, 0, [], _, _, _, _, by omega, rfl, World.ownsRow_nil _ _ _ _, Rows.nil⟩
 case round =>
  rename_i out _ _
  obtain ⟨hB, k, xs, u1, u4, ro, no, hk, rfl, hO, hR⟩ := hrel
  have HO := Lib.hid hO
  have HR := Lib.hid hR
  clear hO hR
  by_cases hlt : k < l.length
  ·have hrow := get_map l (k := k) (by omega)
   obtain ⟨b, o, us, rfl, hul, hus, hcell⟩ := HE.out k _ hrow
   obtain ⟨x0, x1, x2, x3, x4, rfl⟩ := len_5 hul
   have he0 := cell_keep hB (hcell 0 _ rfl); have he1 := cell_keep hB (hcell 1 _ rfl); have he2 := cell_keep hB (hcell 2 _ rfl); have he3 := cell_keep hB (hcell 3 _ rfl); have he4 := cell_keep hB (hcell 4 _ rfl)
   (try simp only [Nat.add_zero, Nat.mul_one] at he0)
   have hi0 : (0 : Int) ≤ (k : Int) := by omega
   have hi1 : (k : Int) < (l.length : Int) := by omega
   have hus' : R wr (fun _ => False) (enc (nth l k)) (.agg #[x0, x1, x2, x3, x4]) := ⟨_, rfl, Rs.keep (Keeps.below hB fun _ _ h => h) _ _ hus⟩
   have HC := Lib.hid (fun (w0 : World) (hb : Below wr.heap.size wr w0) => w_copyEntry (nth l k) (hF k hlt) (R.keep (Keeps.below hb fun _ _ h => h) _ _ hus'))
   obtain ⟨c0, _, hcc, ⟨rfl, _⟩, c1, _, rfl, hq1, c2, _, rfl, ⟨rfl, _⟩, c3, _, rfl, ⟨rfl, _⟩, c4, _, rfl, hq4, hq5⟩ := hus
   have hq5 : _ = [] := hq5
   subst hq5
   obtain ⟨a1, n1, p1, hx1, -⟩ := (show R w _ (.sl ((nth l k).recipe.map Enc.cells)) c1 from hq1)
   obtain ⟨a4, n4, p4, hx4, -⟩ := (show R w _ (.sl ((nth l k).needs.map Enc.cells)) c4 from hq4)
   subst hx1 hx4
   simp only [List.cons.injEq, and_true] at hcc
   obtain ⟨rfl, rfl, rfl, rfl, rfl⟩ := hcc
   clear hq1 hq4 hus' hcell
   go_wp2_with fail
   refine (HC.out _ (by go_grown)).mono ?_
   rintro e w1 ⟨y1, y4, r1, r4, rfl, hs1, hi2, hi3, z1, z4, hap, ho1', ho4', hb1⟩
   have HZ := Lib.hid (show Below wr.heap.size wr w1 from bt (by go_grown) hb1)
   have HZ1 := Lib.hid z1
   have HZ4 := Lib.hid z4
   have HAP := Lib.hid hap
   have HS1 := Lib.hid hs1
   have HI2 := Lib.hid hi2
   have HI3 := Lib.hid hi3
   have HO1 := Lib.hid (owns_below HO.out HZ.out)
   have hbs := Nat.le_trans hB.size HZ.out.size
   clear z1 z4 hap hs1 hi2 hi3 hb1
   go_wp2_with (first | (at_builtin; go_loud (refine wpList_append_own_at _ rfl _ _ 24 rfl w.heap.size 50 ti _ 5 80 Tryz.underlying24 hti hz hsz hby rfl (by decide) _ _ _ rfl (owns_below HO1.out ((Below.refl _ _).alloc (Nat.le_refl _) _)) ⟨w1.heap.size, 0, Option.none⟩ 1 1 [.string (nth l k).name, y1, .int .i64 (nth l k).ver.maj, .int .i64 (nth l k).ver.min, y4] rfl rfl cells_new (fun x hx => by simp at hx; rcases hx with rfl | rfl | rfl | rfl | rfl <;> first | rfl | assumption) (by unfold maxLen; omega) (by omega) (by simp; omega) ?_; intro v' w3 hown' hgr hnil hob)))
   have hfin := rows_append hB HO.out HR.out hlt (by simp) HZ.out HS1.out HI2.out HI3.out HZ1.out HZ4.out HAP.out hgr hob
   have HFin := Lib.hid hfin
   have HOw := Lib.hid hown'
   clear hfin hown' hgr hnil hob
   go_wp2
   exact ⟨⟨HFin.out.1, k + 1, _, _, _, _, _, by omega, by go_num, HOw.out, HFin.out.2⟩, by simp [intOf]; omega⟩
  ·go_wp2
   go_ret
   obtain rfl : k = l.length := by omega
   exact ⟨_, xs, u1, u4, ro, no, rfl, HO.out, HR.out, hB⟩
end Go.Proofs.YtimickglpboilaaGreat
/- Versions. -/
namespace Go.Proofs.YtimickglpboilaaGreat
open Go.RowKit Go
variable [GC]
def Ver.ok (v : Ver) : Bool := decide (0 ≤ v.maj) && decide (v.maj ≤ 99) && decide (0 ≤ v.min) && decide (v.min ≤ 99)
theorem c_spec_IsVersion (v : Ver) : Fun Tryz.prog 72 none [enc v] (.bool v.ok) [] := by
 refine Fun.ofV vc_spec_IsVersion_ok ty_spec_IsVersion_ok rfl ?_ (fun hfit => ?_)
 ·simp [ty_spec_IsVersion, HasTys, HasVT, HasV1, enc, ty_Ver]
 simp only [vc_spec_IsVersion, VC.den, E.den, dEq, gsH_nil, and_true, cells_Ver]
 simp [cmpI, Ver.ok]
def Ver.cmp (v u : Ver) : Int := if v.maj < u.maj ∨ (v.maj = u.maj ∧ v.min < u.min) then -1 else if v.maj = u.maj ∧ v.min = u.min then 0 else 1
end Go.Proofs.YtimickglpboilaaGreat
/- Plain functions on versions. No program in sight. -/
namespace Go.Proofs.YtimickglpboilaaGreat
def isFaceB (f : Int) : Bool := decide (0 ≤ f) && decide (f ≤ 63)
theorem isFaceB_nat {f : Int} (h : isFaceB f = true) : ∃ n : Nat, f = n ∧ n < 64 := by
 unfold isFaceB at h; simp at h; exact ⟨f.toNat, by omega, by omega⟩
def cmpV (a b c d : Int) : Int := if a < c ∨ (a = c ∧ b < d) then -1 else if a = c ∧ b = d then 0 else 1
def sinceM : Nat → Int | 0 => 1 | 1 => 1 | 2 => 1 | 3 => 1 | 4 => 2 | 5 => 2 | _ => 0
def sinceN : Nat → Int | 0 => 0 | 1 => 0 | 2 => 1 | 3 => 2 | 4 => 0 | 5 => 1 | _ => 0
def allows (a b : Int) (k : Nat) : Bool := decide (cmpV (sinceM k) (sinceN k) a b ≤ 0)
end Go.Proofs.YtimickglpboilaaGreat
/- Plain functions on faces. No program in sight. -/
namespace Go.Proofs.YtimickglpboilaaGreat
end Go.Proofs.YtimickglpboilaaGreat
/- Faces and versions: what the program and the reference compute. -/
namespace Go.Proofs.YtimickglpboilaaGreat
open Go.RowKit Go
variable [GC]
theorem c_impl_IsVersion (v : Ver) : Fun Tryz.prog 85 none [enc v] (.bool v.ok) [] := by
 refine Fun.ofV vc_impl_IsVersion_ok ty_impl_IsVersion_ok rfl ?_ (fun hfit => ?_)
 ·simp [ty_impl_IsVersion, HasTys, HasVT, HasV1, enc, ty_Ver]
 simp only [vc_impl_IsVersion, VC.den, E.den, dEq, gsH_nil, and_true, cells_Ver]
 simp [cmpI, Ver.ok]
theorem c_impl_CompareVersions (v u : Ver) : Fun Tryz.prog 120 none [enc v, enc u] (.int .i64 (v.cmp u)) [] := by
 refine Fun.ofV vc_impl_CompareVersions_ok ty_impl_CompareVersions_ok rfl ?_ (fun hfit => ?_)
 ·simp [ty_impl_CompareVersions, HasTys, HasVT, HasV1, enc, ty_Ver]
 simp only [vc_impl_CompareVersions, VC.den, E.den, dEq, gsH_nil, and_true, cells_Ver]
 simp [cmpI, eqvL, eqvD, Ver.cmp]
 (repeat' split) <;> omega
theorem c_impl_IsFace (f : Int) : Fun Tryz.prog 107 none [.int .i64 f] (.bool (isFaceB f)) [] := by
 refine Fun.ofV vc_impl_IsFace_ok ty_impl_IsFace_ok rfl ?_ (fun hfit => ?_)
 ·simp [ty_impl_IsFace, HasTys, HasVT, HasV1, HasTy]
 simp only [vc_impl_IsFace, VC.den, E.den, dEq, gsH_nil, and_true]
 simp [cmpI, isFaceB]
theorem bit_of2 : ∀ n : Fin 64, ∀ k : Fin 6, cmpI .eql (arI .rem .i64 (arI .shr .i64 ((n : Nat) : Int) ((k : Nat) : Int)) 2) 1 = n.val.testBit k.val := by decide +kernel
end Go.Proofs.YtimickglpboilaaGreat
/- SinceOf of the program and of the reference. Nothing is assumed but what each theorem says. -/
namespace Go.Proofs.YtimickglpboilaaGreat
open Go.RowKit
end Go.Proofs.YtimickglpboilaaGreat
/- What faces a version allows: the program's and the reference's functions. -/
namespace Go.Proofs.YtimickglpboilaaGreat
open Go.RowKit Go
variable [GC]
theorem c_spec_l2Has (m k : Nat) (hm : m < 64) (hk : k < 6) : Fun Tryz.prog 106 none [.int .i64 m, .int .i64 k] (.bool (m.testBit k)) [] := by
 refine Fun.ofV vc_spec_l2Has_ok ty_spec_l2Has_ok rfl ?_ (fun hfit => ?_)
 ·simp [ty_spec_l2Has, HasTys, HasVT, HasV1, HasTy]
 unfold vc_spec_l2Has
 refine den_cond (fun _ => ?_) (den_cond (fun _ => rfl) (den_ret ?_))
 ·simp [E.den, cmpI]
 have hb := bit_of2 ⟨m, hm⟩ ⟨k, hk⟩
 simp only at hb
 simp only [E.den, List.getD_cons_zero, List.getD_cons_succ, D.toI_int, hb]
theorem c_spec_IsFace' (f : Int) : Fun Tryz.prog 100 none [.int .i64 f] (.bool (isFaceB f)) [] := by
 refine Fun.ofV vc_spec_IsFace_ok ty_spec_IsFace_ok rfl ?_ (fun hfit => ?_)
 ·simp [ty_spec_IsFace, HasTys, HasVT, HasV1, HasTy]
 simp only [vc_spec_IsFace, VC.den, E.den, dEq, gsH_nil, and_true]
 simp [cmpI, isFaceB]
def offersB (a b : Int) : Bool := isFaceB a && isFaceB b && cmpI .eql (arI .andNot .i64 b a) 0
theorem c_impl_Offers (a b : Int) : Fun Tryz.prog 93 none [.int .i64 a, .int .i64 b] (.bool (offersB a b)) [] := by
 refine Fun.ofV vc_impl_Offers_ok ty_impl_Offers_ok rfl ?_ (fun hfit => ?_)
 ·simp [ty_impl_Offers, HasTys, HasVT, HasV1, HasTy]
 unfold vc_impl_Offers
 (apply den_call; (focus (simp only [VC.den, E.den, dEq, gsH_nil, and_true]; try exact rfl)); (focus (exact c_impl_IsFace a)); (focus (simp [HasTys, HasVT, HasV1, HasTy, RowTy, HasVs, enc])); (simp only [cA]))
 (apply den_call; (focus (simp only [VC.den, E.den, dEq, gsH_nil, and_true]; try exact rfl)); (focus (exact c_impl_IsFace b)); (focus (simp [HasTys, HasVT, HasV1, HasTy, RowTy, HasVs, enc])); (simp only [cA]))
 exact den_ret rfl
end Go.Proofs.YtimickglpboilaaGreat
/- Names, kinds, faces: what the program and the reference compute. -/
namespace Go.Proofs.YtimickglpboilaaGreat
open Go.RowKit Go
variable [GC]
def letB (s : ByteArray) (k : Nat) : Bool := (decide (97 ≤ byteZ s k) && decide (byteZ s k ≤ 122)) || (!(k == 0) && (decide (48 ≤ byteZ s k) && decide (byteZ s k ≤ 57)))
def nameB (s : ByteArray) : Bool := decide (1 ≤ s.size) && decide (s.size ≤ 8) && allTo (letB s) s.size
theorem c_spec_l1Letter (b : Int) (f : Bool) : Fun Tryz.prog 99 none [.int .u8 b, .bool f] (.bool ((decide (97 ≤ b) && decide (b ≤ 122)) || (!f && (decide (48 ≤ b) && decide (b ≤ 57))))) [] := by
 refine Fun.ofV vc_spec_l1Letter_ok ty_spec_l1Letter_ok rfl ?_ (fun hfit => ?_)
 ·exact ⟨rfl, trivial, trivial⟩
 unfold vc_spec_l1Letter
 refine den_ret ?_
 simp [E.den, cmpI, Bool.and_assoc]
theorem c_spec_IsName (s : ByteArray) : Fun Tryz.prog 71 none [.str s] (.bool (nameB s)) [] := by
 refine Fun.ofV vc_spec_IsName_ok ty_spec_IsName_ok rfl ?_ (fun hfit => ?_)
 ·exact ⟨trivial, trivial⟩
 have hl := fits_str hfit.1
 unfold vc_spec_IsName
 refine den_for s.size (fun k => [.int .i64 k]) (fun k => allTo (letB s) k = true) rfl rfl ?_
 intro k hk hI _
 simp only [cA]
 refine den_ite (fun h2 => ?_) (fun h2 => ?_)
 ·simp only [E.den, dEq, iEq, sEq] at h2
  have h2 : k < s.size := by simp at h2; exact h2
  (refine den_cond (fun hg => ?_) ?_; (focus (simp only [gsH, gE, E.den, dEq, iEq, sEq] at hg ⊢; (try simp only [D.bool.injEq] at hg); (try simp only [D.bool.injEq]); grind)))
  ((first | refine den_call ?_ (c_spec_l1Letter (byteZ s k) ((k : Int) == 0)) (trivial) ?_ | refine den_callR ?_ (c_spec_l1Letter (byteZ s k) ((k : Int) == 0)) (trivial) ?_ | refine den_call ?_ (.ofR (c_spec_l1Letter (byteZ s k) ((k : Int) == 0))) (trivial) ?_); (focus (simp only [VC.den, E.den, dEq, gsH_nil, and_true, at_byte, cmpI_eql, Int.toNat_natCast]; try exact rfl)); (simp only [cA]))
  refine den_ite (fun h3 => ?_) (fun h3 => ?_)
  ·simp only [E.den, dEq, iEq, sEq] at h3
   have hb : letB s k = false := by
    simp at h3
    simp [letB]; omega
   refine den_ret ?_
   simp [E.den, nameB, allTo_bad h2 hb]
  ·simp only [E.den, dEq, iEq, sEq] at h3
   have hb : letB s k = true := by
    simp at h3
    simp [letB]; omega
   refine den_next h2 ?_ (show (allTo (letB s) k && letB s k) = true by rw [hI, hb]; rfl)
   simp only [E.den, dEq, iEq, sEq]
   rw [ar_add (by omega) (by omega)]; rfl
 ·simp only [E.den, dEq, iEq, sEq] at h2
  obtain rfl : k = s.size := by simp at h2; omega
  refine den_ret ?_
  simp only [nameB, hI, Bool.and_true]
  simp only [E.den, dEq, iEq, sEq]
  congr 1
  grind
theorem c_impl_IsName (s : ByteArray) : Fun Tryz.prog 84 none [.str s] (.bool (nameB s)) [] := by
 refine Fun.ofV vc_impl_IsName_ok ty_impl_IsName_ok rfl ?_ (fun hfit => ?_)
 ·exact ⟨trivial, trivial⟩
 have hl := fits_str hfit.1
 unfold vc_impl_IsName
 (refine den_cond (fun hg => ?_) ?_; (focus (simp only [gsH, gE, E.den, dEq, iEq, sEq] at hg ⊢; (try simp only [D.bool.injEq] at hg); (try simp only [D.bool.injEq]); grind)))
 (refine den_cond (fun hg => ?_) ?_; (focus (simp only [gsH, gE, E.den, dEq, iEq, sEq] at hg ⊢; (try simp only [D.bool.injEq] at hg); (try simp only [D.bool.injEq]); grind)))
 refine den_ite (fun h => ?_) (fun h => ?_)
 ·simp only [E.den, dEq, iEq, sEq] at h
  refine den_ret ?_
  simp only [E.den, D.bool.injEq]
  by_cases h0 : 1 ≤ s.size ∧ s.size ≤ 8
  ·have hb : letB s 0 = false := by
    simp at h
    simp [letB]; omega
   simp [nameB, allTo_bad (show 0 < s.size by omega) hb]
  ·have : (decide (1 ≤ s.size) && decide (s.size ≤ 8)) = false := by simp; omega
   simp [nameB, this]
 simp only [E.den, dEq, iEq, sEq] at h
 have h0 : 1 ≤ s.size ∧ s.size ≤ 8 := by grind
 refine den_for s.size (fun k => [.int .i64 k]) (fun k => allTo (letB s) k = true) rfl rfl ?_
 intro k hk hI _
 simp only [cA]
 refine den_ite (fun h2 => ?_) (fun h2 => ?_)
 ·simp only [E.den, dEq, iEq, sEq] at h2
  have h2 : k < s.size := by simp at h2; exact h2
  (refine den_cond (fun hg => ?_) ?_; (focus (simp only [gsH, gE, E.den, dEq, iEq, sEq] at hg ⊢; (try simp only [D.bool.injEq] at hg); (try simp only [D.bool.injEq]); grind)))
  (refine den_cond (fun hg => ?_) ?_; (focus (simp only [gsH, gE, E.den, dEq, iEq, sEq] at hg ⊢; (try simp only [D.bool.injEq] at hg); (try simp only [D.bool.injEq]); grind)))
  (refine den_cond (fun hg => ?_) ?_; (focus (simp only [gsH, gE, E.den, dEq, iEq, sEq] at hg ⊢; (try simp only [D.bool.injEq] at hg); (try simp only [D.bool.injEq]); grind)))
  (refine den_cond (fun hg => ?_) ?_; (focus (simp only [gsH, gE, E.den, dEq, iEq, sEq] at hg ⊢; (try simp only [D.bool.injEq] at hg); (try simp only [D.bool.injEq]); grind)))
  refine den_ite (fun h3 => ?_) (fun h3 => ?_)
  ·simp only [E.den, dEq, iEq, sEq] at h3
   have hb : letB s k = false := by
    simp at h3
    simp [letB]; omega
   refine den_ret ?_
   simp [E.den, nameB, allTo_bad h2 hb]
  ·simp only [E.den, dEq, iEq, sEq] at h3
   have hb : letB s k = true := by
    simp at h h3
    by_cases e : k = 0
    ·subst e; simp [letB]; omega
    ·simp [letB]; omega
   refine den_next h2 ?_ (show (allTo (letB s) k && letB s k) = true by rw [hI, hb]; rfl)
   simp only [E.den, dEq, iEq, sEq]
   rw [ar_add (by omega) (by omega)]; rfl
 ·simp only [E.den, dEq, iEq, sEq] at h2
  obtain rfl : k = s.size := by simp at h2; omega
  refine den_ret ?_
  simp [E.den, nameB, hI, h0]
def numB (n : Int) : Bool := decide (0 ≤ n) && decide (n ≤ 999)
theorem c_impl_isNumber (n : Int) : Fun Tryz.prog 112 none [.int .i64 n] (.bool (numB n)) [] := by
 refine Fun.ofV vc_impl_isNumber_ok ty_impl_isNumber_ok rfl ?_ (fun hfit => ?_)
 ·exact ⟨rfl, trivial⟩
 exact den_ret (by simp [E.den, cmpI, numB])
def kinds : List ByteArray := [⟨#[115, 116, 111, 110, 101]⟩, ⟨#[108, 97, 109, 112]⟩, ⟨#[115, 104, 101, 108, 102]⟩, ⟨#[109, 101, 116, 101, 114]⟩, ⟨#[100, 114, 97, 119, 101, 114]⟩, ⟨#[104, 111, 114, 110]⟩, ⟨#[118, 97, 117, 108, 116]⟩, ⟨#[114, 111, 98, 111, 116]⟩]
def kindFs : List Nat := [0, 1, 2, 5, 3, 9, 19, 63]
def kindAt (s : ByteArray) : Option Nat := if s = nth kinds 0 then some 0 else if s = nth kinds 1 then some 1 else if s = nth kinds 2 then some 2 else if s = nth kinds 3 then some 3 else if s = nth kinds 4 then some 4 else if s = nth kinds 5 then some 5 else if s = nth kinds 6 then some 6 else if s = nth kinds 7 then some 7 else none
def kindN (s : ByteArray) : Nat := match kindAt s with | some k => kindFs.getD k 0 | none => 0
def kindOk (s : ByteArray) : Bool := (kindAt s).isSome
theorem kindN_lt (s : ByteArray) : kindN s < 64 := by
 unfold kindN
 split
 ·rename_i k _
  by_cases h : k < 8
  ·obtain rfl | rfl | rfl | rfl | rfl | rfl | rfl | rfl : k = 0 ∨ k = 1 ∨ k = 2 ∨ k = 3 ∨ k = 4 ∨ k = 5 ∨ k = 6 ∨ k = 7 := by omega
   all_goals decide
  ·rw [List.getD, List.getElem?_eq_none (by simp [kindFs]; omega)]; decide
 ·decide
theorem kindAt_none {s : ByteArray} (h : ∀ j, j < 8 → nth kinds j ≠ s) : kindAt s = none := by
 unfold kindAt
 rw [if_neg (fun e => h 0 (by omega) e.symm), if_neg (fun e => h 1 (by omega) e.symm), if_neg (fun e => h 2 (by omega) e.symm), if_neg (fun e => h 3 (by omega) e.symm), if_neg (fun e => h 4 (by omega) e.symm), if_neg (fun e => h 5 (by omega) e.symm), if_neg (fun e => h 6 (by omega) e.symm), if_neg (fun e => h 7 (by omega) e.symm)]
theorem eight {k : Nat} (h : k < 8) : k = 0 ∨ k = 1 ∨ k = 2 ∨ k = 3 ∨ k = 4 ∨ k = 5 ∨ k = 6 ∨ k = 7 := by omega
theorem c_impl_KindFace (s : ByteArray) : Fun Tryz.prog 109 none [.str s] (.tup [.int .i64 (kindN s), .bool (kindOk s)]) [] := by
 refine Fun.ofV vc_impl_KindFace_ok ty_impl_KindFace_ok rfl ?_ (fun hfit => ?_)
 ·exact ⟨trivial, trivial⟩
 clear hfit
 unfold vc_impl_KindFace
 refine den_ite (fun h => ?_) (fun h0 => ?_)
 ·simp only [E.den, dEq, iEq, sEq] at h; simp at h; subst h; exact den_ret rfl
 refine den_ite (fun h => ?_) (fun h1 => ?_)
 ·simp only [E.den, dEq, iEq, sEq] at h; simp at h; subst h; exact den_ret rfl
 refine den_ite (fun h => ?_) (fun h2 => ?_)
 ·simp only [E.den, dEq, iEq, sEq] at h; simp at h; subst h; exact den_ret rfl
 refine den_ite (fun h => ?_) (fun h3 => ?_)
 ·simp only [E.den, dEq, iEq, sEq] at h; simp at h; subst h; exact den_ret rfl
 refine den_ite (fun h => ?_) (fun h4 => ?_)
 ·simp only [E.den, dEq, iEq, sEq] at h; simp at h; subst h; exact den_ret rfl
 refine den_ite (fun h => ?_) (fun h5 => ?_)
 ·simp only [E.den, dEq, iEq, sEq] at h; simp at h; subst h; exact den_ret rfl
 refine den_ite (fun h => ?_) (fun h6 => ?_)
 ·simp only [E.den, dEq, iEq, sEq] at h; simp at h; subst h; exact den_ret rfl
 refine den_ite (fun h => ?_) (fun h7 => ?_)
 ·simp only [E.den, dEq, iEq, sEq] at h; simp at h; subst h; exact den_ret rfl
 simp only [E.den, dEq, iEq, sEq] at h0 h1 h2 h3 h4 h5 h6 h7
 simp at h0 h1 h2 h3 h4 h5 h6 h7
 have hn : kindAt s = none := kindAt_none fun j hj => by
  obtain rfl | rfl | rfl | rfl | rfl | rfl | rfl | rfl := eight hj
  all_goals (intro e; first | exact h0 e.symm | exact h1 e.symm | exact h2 e.symm | exact h3 e.symm | exact h4 e.symm | exact h5 e.symm | exact h6 e.symm | exact h7 e.symm)
 exact den_ret (by simp [E.den, kindN, kindOk, hn])
theorem kindAt_nth : ∀ k : Fin 8, kindAt (nth kinds k.val) = some k.val := by decide +kernel
def kindE : E := .put (.put (.put (.put (.put (.put (.put (.put (.nilS 9) (.ag1 (.ls ⟨#[115, 116, 111, 110, 101]⟩))) (.ag1 (.ls ⟨#[108, 97, 109, 112]⟩))) (.ag1 (.ls ⟨#[115, 104, 101, 108, 102]⟩))) (.ag1 (.ls ⟨#[109, 101, 116, 101, 114]⟩))) (.ag1 (.ls ⟨#[100, 114, 97, 119, 101, 114]⟩))) (.ag1 (.ls ⟨#[104, 111, 114, 110]⟩))) (.ag1 (.ls ⟨#[118, 97, 117, 108, 116]⟩))) (.ag1 (.ls ⟨#[114, 111, 98, 111, 116]⟩))
def kindFE : E := .put (.put (.put (.put (.put (.put (.put (.put (.nilS 3) (.ag1 (.li .i64 0))) (.ag1 (.li .i64 1))) (.ag1 (.li .i64 2))) (.ag1 (.li .i64 5))) (.ag1 (.li .i64 3))) (.ag1 (.li .i64 9))) (.ag1 (.li .i64 19))) (.ag1 (.li .i64 63))
theorem kindE_den (env : List D) : kindE.den env = encS kinds := rfl
theorem kindFE_den (env : List D) : kindFE.den env = encS (kindFs.map fun (n : Nat) => (n : Int)) := rfl
theorem c_spec_KindFace (s : ByteArray) : Fun Tryz.prog 102 none [.str s] (.tup [.int .i64 (kindN s), .bool (kindOk s)]) [] := by
 refine Fun.ofV vc_spec_KindFace_ok ty_spec_KindFace_ok rfl ?_ (fun hfit => ?_)
 ·exact ⟨trivial, trivial⟩
 clear hfit
 show VC.den _ _ (.loop [.one (.c (.int .i64))] [.li .i64 0] (.ite (.ic .lss (.var 1) (.len kindE)) (.rq (.cond [] (.inb kindE (.var 1))) (.ite (.sc .eql (.cell (.row [.str] kindE (.var 1)) 0) (.var 0)) (.rq (.cond [] (.inb kindFE (.var 1))) (.ret (.tp1 (.tp1 .tp0 (.cell (.row [.int .i64] kindFE (.var 1)) 0)) (.lb true)) [])) (.again 0 [.ar .add .i64 (.var 1) (.li .i64 1)]))) (.ret (.tp1 (.tp1 .tp0 (.li .i64 0)) (.lb false)) []))) _ _ _
 have e8 : kinds.length = 8 := rfl
 refine den_for 8 (fun k => [.int .i64 k]) (fun k => ∀ j, j < k → nth kinds j ≠ s) rfl (by omega) ?_
 intro k hk hI _
 simp only [cA]
 refine den_ite (fun h2 => ?_) (fun h2 => ?_)
 ·simp only [E.den, dEq, iEq, sEq, kindE_den, e8] at h2
  have h2 : k < 8 := by simp at h2; omega
  refine den_cond (fun _ => ?_) ?_
  ·simp only [E.den, dEq, iEq, sEq, kindE_den, e8]
   simp; omega
  refine den_ite (fun h3 => ?_) (fun h3 => ?_)
  ·simp only [E.den, dEq, iEq, sEq, kindE_den, row_str, cells_str] at h3
   simp at h3
   refine den_cond (fun _ => ?_) ?_
   ·simp only [E.den, dEq, iEq, sEq, kindFE_den, List.length_map]
    simp [kindFs]; omega
   refine den_ret ?_
   simp only [E.den, dEq, iEq, sEq, kindFE_den, row_int, cells_int]
   have hn : kindAt s = some k := by rw [← h3]; exact kindAt_nth ⟨k, h2⟩
   simp only [kindN, kindOk, hn]
   obtain rfl | rfl | rfl | rfl | rfl | rfl | rfl | rfl : k = 0 ∨ k = 1 ∨ k = 2 ∨ k = 3 ∨ k = 4 ∨ k = 5 ∨ k = 6 ∨ k = 7 := by omega
   all_goals rfl
  ·simp only [E.den, dEq, iEq, sEq, kindE_den, row_str, cells_str] at h3
   simp at h3
   refine den_next h2 ?_ fun j hj => ?_
   ·simp only [E.den, dEq, iEq, sEq]
    rw [ar_add (by omega) (by omega)]; rfl
   ·rcases Nat.lt_or_ge j k with h | h
    ·exact hI j h
    ·obtain rfl : j = k := by omega
     exact h3
 ·simp only [E.den, dEq, iEq, sEq, kindE_den, e8] at h2
  obtain rfl : k = 8 := by simp at h2; omega
  refine den_ret ?_
  have hn := kindAt_none hI
  simp [E.den, kindN, kindOk, hn]
def layers : List ByteArray := [⟨#[112, 108, 97, 105, 110]⟩, ⟨#[114, 117, 110, 115]⟩, ⟨#[107, 101, 101, 112, 115]⟩, ⟨#[99, 111, 117, 110, 116, 115]⟩, ⟨#[108, 97, 122, 121]⟩, ⟨#[114, 101, 97, 100, 115]⟩, ⟨#[104, 101, 97, 114, 115]⟩, ⟨#[104, 101, 97, 108, 115]⟩, ⟨#[116, 119, 105, 99, 101]⟩]
def layN : List Nat := [0, 1, 2, 2, 3, 2, 1, 1, 4]
def layG : List Nat := [0, 1, 2, 6, 3, 2, 9, 33, 4]
def layAt (s : ByteArray) : Option Nat := if s = nth layers 0 then some 0 else if s = nth layers 1 then some 1 else if s = nth layers 2 then some 2 else if s = nth layers 3 then some 3 else if s = nth layers 4 then some 4 else if s = nth layers 5 then some 5 else if s = nth layers 6 then some 6 else if s = nth layers 7 then some 7 else if s = nth layers 8 then some 8 else none
def needN (s : ByteArray) : Nat := match layAt s with | some k => layN.getD k 0 | none => 0
def giveN (s : ByteArray) : Nat := match layAt s with | some k => layG.getD k 0 | none => 0
def layOk (s : ByteArray) : Bool := (layAt s).isSome
theorem nine {k : Nat} (h : k < 9) : k = 0 ∨ k = 1 ∨ k = 2 ∨ k = 3 ∨ k = 4 ∨ k = 5 ∨ k = 6 ∨ k = 7 ∨ k = 8 := by omega
theorem layAt_none {s : ByteArray} (h : ∀ j, j < 9 → nth layers j ≠ s) : layAt s = none := by
 unfold layAt
 rw [if_neg (fun e => h 0 (by omega) e.symm), if_neg (fun e => h 1 (by omega) e.symm), if_neg (fun e => h 2 (by omega) e.symm), if_neg (fun e => h 3 (by omega) e.symm), if_neg (fun e => h 4 (by omega) e.symm), if_neg (fun e => h 5 (by omega) e.symm), if_neg (fun e => h 6 (by omega) e.symm), if_neg (fun e => h 7 (by omega) e.symm), if_neg (fun e => h 8 (by omega) e.symm)]
theorem layAt_nth : ∀ k : Fin 9, layAt (nth layers k.val) = some k.val := by decide +kernel
def layD (s : ByteArray) : D := .tup [.int .i64 (needN s), .int .i64 (giveN s), .bool (layOk s)]
theorem c_impl_layerFaces (s : ByteArray) : Fun Tryz.prog 91 none [.str s] (layD s) [] := by
 refine Fun.ofV vc_impl_layerFaces_ok ty_impl_layerFaces_ok rfl ?_ (fun hfit => ?_)
 ·exact ⟨trivial, trivial⟩
 clear hfit
 unfold vc_impl_layerFaces
 refine den_ite (fun h => ?_) (fun h0 => ?_)
 ·simp only [E.den, dEq, iEq, sEq] at h; simp at h; subst h; exact den_ret rfl
 refine den_ite (fun h => ?_) (fun h1 => ?_)
 ·simp only [E.den, dEq, iEq, sEq] at h; simp at h; subst h; exact den_ret rfl
 refine den_ite (fun h => ?_) (fun h2 => ?_)
 ·refine den_ite (fun _ => ?_) (fun h' => ?_)
  ·simp only [E.den, dEq, iEq, sEq] at h; simp at h; subst h; exact den_ret rfl
  ·rw [h] at h'; cases h'
 refine den_ite (fun h => ?_) (fun h3 => ?_)
 ·simp only [E.den, dEq, iEq, sEq] at h; simp at h; subst h; exact den_ret rfl
 refine den_ite (fun h => ?_) (fun h4 => ?_)
 ·simp only [E.den, dEq, iEq, sEq] at h; simp at h; subst h; exact den_ret rfl
 refine den_ite (fun h => ?_) (fun h5 => ?_)
 ·simp only [E.den, dEq, iEq, sEq] at h; simp at h; subst h; exact den_ret rfl
 refine den_ite (fun h => ?_) (fun h6 => ?_)
 ·simp only [E.den, dEq, iEq, sEq] at h; simp at h; subst h; exact den_ret rfl
 refine den_ite (fun h => ?_) (fun h7 => ?_)
 ·simp only [E.den, dEq, iEq, sEq] at h; simp at h; subst h; exact den_ret rfl
 refine den_ite (fun h => ?_) (fun h8 => ?_)
 ·simp only [E.den, dEq, iEq, sEq] at h; simp at h; subst h; exact den_ret rfl
 simp only [E.den, dEq, iEq, sEq] at h0 h1 h2 h3 h4 h5 h6 h7 h8
 simp at h0 h1 h2 h3 h4 h5 h6 h7 h8
 have hn : layAt s = none := layAt_none fun j hj => by
  obtain rfl | rfl | rfl | rfl | rfl | rfl | rfl | rfl | rfl := nine hj
  all_goals (intro e; first | exact h0 e.symm | exact h1 e.symm | exact h2 e.symm | exact h3 e.symm | exact h4 e.symm | exact h5 e.symm | exact h6 e.symm | exact h7 e.symm | exact h8 e.symm)
 exact den_ret (by simp [E.den, layD, needN, giveN, layOk, hn])
def layE : E := .put (.put (.put (.put (.put (.put (.put (.put (.put (.nilS 9) (.ag1 (.ls ⟨#[112, 108, 97, 105, 110]⟩))) (.ag1 (.ls ⟨#[114, 117, 110, 115]⟩))) (.ag1 (.ls ⟨#[107, 101, 101, 112, 115]⟩))) (.ag1 (.ls ⟨#[99, 111, 117, 110, 116, 115]⟩))) (.ag1 (.ls ⟨#[108, 97, 122, 121]⟩))) (.ag1 (.ls ⟨#[114, 101, 97, 100, 115]⟩))) (.ag1 (.ls ⟨#[104, 101, 97, 114, 115]⟩))) (.ag1 (.ls ⟨#[104, 101, 97, 108, 115]⟩))) (.ag1 (.ls ⟨#[116, 119, 105, 99, 101]⟩))
def layNE : E := .put (.put (.put (.put (.put (.put (.put (.put (.put (.nilS 3) (.ag1 (.li .i64 0))) (.ag1 (.li .i64 1))) (.ag1 (.li .i64 2))) (.ag1 (.li .i64 2))) (.ag1 (.li .i64 3))) (.ag1 (.li .i64 2))) (.ag1 (.li .i64 1))) (.ag1 (.li .i64 1))) (.ag1 (.li .i64 4))
def layGE : E := .put (.put (.put (.put (.put (.put (.put (.put (.put (.nilS 3) (.ag1 (.li .i64 0))) (.ag1 (.li .i64 1))) (.ag1 (.li .i64 2))) (.ag1 (.li .i64 6))) (.ag1 (.li .i64 3))) (.ag1 (.li .i64 2))) (.ag1 (.li .i64 9))) (.ag1 (.li .i64 33))) (.ag1 (.li .i64 4))
theorem layE_den (env : List D) : layE.den env = encS layers := rfl
theorem layNE_den (env : List D) : layNE.den env = encS (layN.map fun (n : Nat) => (n : Int)) := rfl
theorem layGE_den (env : List D) : layGE.den env = encS (layG.map fun (n : Nat) => (n : Int)) := rfl
theorem c_spec_l4Row (s : ByteArray) : Fun Tryz.prog 78 none [.str s] (layD s) [] := by
 refine Fun.ofV vc_spec_l4Row_ok ty_spec_l4Row_ok rfl ?_ (fun hfit => ?_)
 ·exact ⟨trivial, trivial⟩
 clear hfit
 show VC.den _ _ (.loop [.one (.c (.int .i64))] [.li .i64 0] (.ite (.ic .lss (.var 1) (.len layE)) (.rq (.cond [] (.inb layE (.var 1))) (.ite (.sc .eql (.cell (.row [.str] layE (.var 1)) 0) (.var 0)) (.rq (.cond [] (.inb layNE (.var 1))) (.rq (.cond [] (.inb layGE (.var 1))) (.ret (.tp1 (.tp1 (.tp1 .tp0 (.cell (.row [.int .i64] layNE (.var 1)) 0)) (.cell (.row [.int .i64] layGE (.var 1)) 0)) (.lb true)) []))) (.again 0 [.ar .add .i64 (.var 1) (.li .i64 1)]))) (.ret (.tp1 (.tp1 (.tp1 .tp0 (.li .i64 0)) (.li .i64 0)) (.lb false)) []))) _ _ _
 have e9 : layers.length = 9 := rfl
 refine den_for 9 (fun k => [.int .i64 k]) (fun k => ∀ j, j < k → nth layers j ≠ s) rfl (by omega) ?_
 intro k hk hI _
 simp only [cA]
 refine den_ite (fun h2 => ?_) (fun h2 => ?_)
 ·simp only [E.den, dEq, iEq, sEq, layE_den, e9] at h2
  have h2 : k < 9 := by simp at h2; omega
  refine den_cond (fun _ => ?_) ?_
  ·simp only [E.den, dEq, iEq, sEq, layE_den, e9]
   simp; omega
  refine den_ite (fun h3 => ?_) (fun h3 => ?_)
  ·simp only [E.den, dEq, iEq, sEq, layE_den, row_str, cells_str] at h3
   simp at h3
   refine den_cond (fun _ => ?_) (den_cond (fun _ => ?_) ?_)
   ·simp only [E.den, dEq, iEq, sEq, layNE_den, List.length_map]
    simp [layN]; omega
   ·simp only [E.den, dEq, iEq, sEq, layGE_den, List.length_map]
    simp [layG]; omega
   refine den_ret ?_
   simp only [E.den, dEq, iEq, sEq, layNE_den, layGE_den, row_int, cells_int]
   have hn : layAt s = some k := by rw [← h3]; exact layAt_nth ⟨k, h2⟩
   simp only [layD, needN, giveN, layOk, hn]
   obtain rfl | rfl | rfl | rfl | rfl | rfl | rfl | rfl | rfl := nine h2
   all_goals rfl
  ·simp only [E.den, dEq, iEq, sEq, layE_den, row_str, cells_str] at h3
   simp at h3
   refine den_next h2 ?_ fun j hj => ?_
   ·simp only [E.den, dEq, iEq, sEq]
    rw [ar_add (by omega) (by omega)]; rfl
   ·rcases Nat.lt_or_ge j k with h | h
    ·exact hI j h
    ·obtain rfl : j = k := by omega
     exact h3
 ·simp only [E.den, dEq, iEq, sEq, layE_den, e9] at h2
  obtain rfl : k = 9 := by simp at h2; omega
  refine den_ret ?_
  have hn := layAt_none hI
  simp [E.den, layD, needN, giveN, layOk, hn]
theorem c_spec_LayerNeeds (s : ByteArray) : Fun Tryz.prog 105 none [.str s] (.tup [.int .i64 (needN s), .bool (layOk s)]) [] := by
 refine Fun.ofV vc_spec_LayerNeeds_ok ty_spec_LayerNeeds_ok rfl ?_ (fun hfit => ?_)
 ·exact ⟨trivial, trivial⟩
 unfold vc_spec_LayerNeeds
 ((first | refine den_call ?_ (c_spec_l4Row s) (⟨rfl, rfl, trivial, trivial⟩) ?_ | refine den_callR ?_ (c_spec_l4Row s) (⟨rfl, rfl, trivial, trivial⟩) ?_ | refine den_call ?_ (.ofR (c_spec_l4Row s)) (⟨rfl, rfl, trivial, trivial⟩) ?_); (focus (simp only [VC.den, E.den, dEq, gsH_nil, and_true]; try exact rfl)); (simp only [cA]))
 exact den_ret rfl
theorem off6 : ∀ n m : Fin 64, ((List.range 6).all fun k => !(m.val.testBit k && !n.val.testBit k)) = decide (m.val &&& n.val = m.val) := by decide +kernel
theorem offN_eq : ∀ n m : Fin 64, cmpI .eql (arI .andNot .i64 ((m.val : Nat) : Int) ((n.val : Nat) : Int)) 0 = decide (m.val &&& n.val = m.val) := by decide +kernel
theorem c_spec_Offers (a b : Int) : Fun Tryz.prog 80 none [.int .i64 a, .int .i64 b] (.bool (offersB a b)) [] := by
 refine Fun.ofV vc_spec_Offers_ok ty_spec_Offers_ok rfl ?_ (fun hfit => ?_)
 ·exact ⟨rfl, rfl, trivial⟩
 unfold vc_spec_Offers
 ((first | refine den_call ?_ (c_spec_IsFace' a) (trivial) ?_ | refine den_callR ?_ (c_spec_IsFace' a) (trivial) ?_ | refine den_call ?_ (.ofR (c_spec_IsFace' a)) (trivial) ?_); (focus (simp only [VC.den, E.den, dEq, gsH_nil, and_true]; try exact rfl)); (simp only [cA]))
 ((first | refine den_call ?_ (c_spec_IsFace' b) (trivial) ?_ | refine den_callR ?_ (c_spec_IsFace' b) (trivial) ?_ | refine den_call ?_ (.ofR (c_spec_IsFace' b)) (trivial) ?_); (focus (simp only [VC.den, E.den, dEq, gsH_nil, and_true]; try exact rfl)); (simp only [cA]))
 refine den_ite (fun h => ?_) (fun h => ?_)
 ·simp only [E.den, dEq, iEq, sEq] at h
  refine den_ret ?_
  simp only [E.den, D.bool.injEq]
  unfold offersB
  grind
 simp only [E.den, dEq, iEq, sEq] at h
 have ha : isFaceB a = true := by grind
 have hb : isFaceB b = true := by grind
 obtain ⟨n, rfl, hn⟩ := isFaceB_nat ha
 obtain ⟨m, rfl, hm⟩ := isFaceB_nat hb
 have ho : offersB (n : Int) (m : Int) = ((List.range 6).all fun k => !(m.testBit k && !n.testBit k)) := by
  unfold offersB
  rw [ha, hb, Bool.true_and, Bool.true_and, offN_eq ⟨n, hn⟩ ⟨m, hm⟩, off6 ⟨n, hn⟩ ⟨m, hm⟩]
 rw [ho]
 refine den_for 6 (fun k => [.int .i64 k]) (fun k => ∀ j, j < k → (!(m.testBit j && !n.testBit j)) = true) rfl (by omega) ?_
 intro k hk hI _
 simp only [cA]
 refine den_ite (fun h2 => ?_) (fun h2 => ?_)
 ·simp only [E.den, dEq, iEq, sEq] at h2
  have h2 : k < 6 := by simp at h2; omega
  ((first | refine den_call ?_ (c_spec_l2Has m k hm h2) (trivial) ?_ | refine den_callR ?_ (c_spec_l2Has m k hm h2) (trivial) ?_ | refine den_call ?_ (.ofR (c_spec_l2Has m k hm h2)) (trivial) ?_); (focus (simp only [VC.den, E.den, dEq, gsH_nil, and_true]; try exact rfl)); (simp only [cA]))
  ((first | refine den_call ?_ (c_spec_l2Has n k hn h2) (trivial) ?_ | refine den_callR ?_ (c_spec_l2Has n k hn h2) (trivial) ?_ | refine den_call ?_ (.ofR (c_spec_l2Has n k hn h2)) (trivial) ?_); (focus (simp only [VC.den, E.den, dEq, gsH_nil, and_true]; try exact rfl)); (simp only [cA]))
  refine den_ite (fun h3 => ?_) (fun h3 => ?_)
  ·simp only [E.den, dEq, iEq, sEq] at h3
   refine den_ret ?_
   simp only [E.den, D.bool.injEq]
   symm
   rw [List.all_eq_false]
   exact ⟨k, by simpa using h2, by rw [h3]; simp⟩
  ·simp only [E.den, dEq, iEq, sEq] at h3
   refine den_next h2 ?_ fun j hj => ?_
   ·simp only [E.den, dEq, iEq, sEq]
    rw [ar_add (by omega) (by omega)]; rfl
   ·rcases Nat.lt_or_ge j k with h | h
    ·exact hI j h
    ·obtain rfl : j = k := by omega
     rw [h3]; rfl
 ·simp only [E.den, dEq, iEq, sEq] at h2
  obtain rfl : k = 6 := by simp at h2; omega
  refine den_ret ?_
  simp only [E.den, D.bool.injEq]
  symm
  rw [List.all_eq_true]
  intro j hj
  exact hI j (by simpa using hj)
end Go.Proofs.YtimickglpboilaaGreat
