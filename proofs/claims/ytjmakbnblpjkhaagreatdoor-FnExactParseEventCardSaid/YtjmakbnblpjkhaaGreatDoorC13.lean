/- Marks of one entry: its recipe and its needs, two rows that are new and apart; the answer of the readers of entries. -/
import Derived.Test.YtjmakbnblpjkhaaGreatDoorC12
import Derived.Lib.Split
import Derived.Lib.Join
import Derived.Lib.Atoi
import Derived.Lib.ItoaNum
import Derived.Shelf.Strings.Builder1
import Derived.Shelf.Strings.Builder2
import Derived.Shelf.Strings.OnBuilder
import Derived.Shelf.Strconv.Atoi
import Derived.Shelf.Strconv.Itoa0
import Derived.Shelf.Strconv.Itoa1
import Derived.Shelf.LaysM
import Derived.Shelf.Strconv.Itoa2
import Derived.Shelf.Strconv.Itoa3
import Derived.Shelf.Strconv.AtoiErrFast
import Derived.Shelf.Strconv.ParseIntEmpty
import Derived.Shelf.Strconv.AtoiFail
import Derived.Shelf.Strconv.Clone
import Derived.Shelf.Strconv.SyntaxError
import Derived.Shelf.LaysC
import Derived.Shelf.Strconv.ToError
import Derived.Shelf.Strconv.AtoiErr
import Derived.Shelf.Strconv.ErrVar
import Derived.Shelf.Strconv.Lower
import Derived.Shelf.Strconv.ParseUint10
import Derived.Shelf.Strconv.ParseUint10Empty
import Derived.Shelf.Strconv.ParseUint10Any
import Derived.Shelf.Strconv.ParseInt10
import Derived.Shelf.Strconv.AtoiLong
import Derived.Shelf.Strconv.AtoiInnerAll
import Derived.Shelf.Strconv.RangeError
import Derived.Shelf.Strconv.ToErrorRange
import Derived.Shelf.Strconv.AtoiAll
import Derived.Shelf.Strconv.ErrVarAll
import Derived.Shelf.Strings.Search1
import Derived.Shelf.Strings.Search2
import Derived.Shelf.Strings.Search3
import Derived.Shelf.Strings.Cut
import Derived.Shelf.Strings.Count
import Derived.Shelf.Strings.Shaped
import Derived.Shelf.Strings.Split
import Derived.Shelf.Strings.SplitShaped
import Derived.Shelf.Unicode.DecodeSlow
import Derived.Test.YtjmakbnblpjkhaaGreatDoorProg
import Derived.Test.YtjmakbnblpjkhaaGreatDoorC0
import Derived.PlainAid
set_option linter.unusedVariables false
set_option linter.unusedSimpArgs false
set_option maxRecDepth 100000
set_option linter.unusedSectionVars false
namespace Go.Proofs.YtjmakbnblpjkhaaGreatDoor
open Go.RowKit Go
variable [GC]
theorem live_free {B : Nat} {w : World} {b o len cap n : Nat} {s : Option Nat} (h : LiveAt B w (.slice (some ⟨b, o, s⟩) len cap) n) (hc : 0 < cap) : B ≤ b ∧ ∀ x y, w.frozen? ⟨b, x, y⟩ = false := by
 obtain ⟨_, h2, cells, T, h3, _⟩ := h b o s len cap rfl hc
 refine ⟨h2, fun x y => ?_⟩
 unfold World.frozen?
 rw [h3]
 simp
def blkOf (v : Value) (z : Nat) : Nat := match v with
 | .slice (some a) _ (_ + 1) => a.block
 | _ => z
def NB (w : World) (v : Value) (z : Nat) : Addr → Prop := fun p => p.block ≠ blkOf v z ∨ w.frozen? p = true
theorem nb_flat {w : World} {M : Addr → Prop} {rows : List (List D)} {v : Value} {n B z : Nat} (hr : R w M (.sl rows) v) (hn : ∀ r ∈ rows, r.length = n) (hlf : ∀ r ∈ rows, ∀ d ∈ r, leafD d = true) (hl : LiveAt B w v n) : R w (NB w v z) (.sl rows) v := by
 have hr0 := hr
 obtain ⟨a, len, cap, rfl, h1, h2, h3, h4, h5⟩ := hr
 rcases a with _ | ⟨b, o, s⟩
 ·have : rows = [] := List.eq_nil_of_length_eq_zero (by have := h4 rfl; omega)
  subst this
  exact ⟨none, len, cap, rfl, h1, h2, h3, h4, fun b o s e => by cases e⟩
 ·refine flat_of hn h1 h2 h3 (h5 b o s rfl).1 fun i j r d hi hj => ?_
  obtain ⟨u, c1, c2, c3⟩ := flat_cells hn hr0 hi hj
  have hlt := (List.getElem?_eq_some_iff.1 hi).1
  obtain ⟨q1, q2⟩ := live_free hl (by omega)
  refine ⟨u, c1, fun hm => ?_, leaf_move (hlf r (List.mem_of_getElem? hi) d (List.mem_of_getElem? hj)) c3⟩
  rcases hm with hm | hm
  ·obtain ⟨c, rfl⟩ : ∃ c, cap = c + 1 := ⟨cap - 1, by omega⟩
   exact hm rfl
  ·rw [q2] at hm; cases hm
theorem str_flat (l : List ByteArray) : (∀ r ∈ l.map Enc.cells, r.length = 1) ∧ ∀ r ∈ l.map Enc.cells, ∀ d ∈ r, leafD d = true := by
 constructor
 ·intro r hr; obtain ⟨x, _, rfl⟩ := List.mem_map.1 hr; rfl
 ·intro r hr d hd
  obtain ⟨x, _, rfl⟩ := List.mem_map.1 hr
  simp [cells_str] at hd; subst hd; rfl
theorem need_flat (l : List Need) : (∀ r ∈ l.map Enc.cells, r.length = 4) ∧ ∀ r ∈ l.map Enc.cells, ∀ d ∈ r, leafD d = true := by
 constructor
 ·intro r hr; obtain ⟨x, _, rfl⟩ := List.mem_map.1 hr; rfl
 ·intro r hr d hd
  obtain ⟨x, _, rfl⟩ := List.mem_map.1 hr
  simp [cells_Need] at hd; rcases hd with rfl | rfl | rfl | rfl <;> rfl
theorem blk_old {B : Nat} {w' : World} {y : Value} {z n : Nat} {a : Option Addr} {l c : Nat} (hy : y = .slice a l c) (e : LiveAt B w' y n) (hB : B ≤ z) : B ≤ blkOf y z ∧ (blkOf y z < w'.heap.size ∨ blkOf y z = z) := by
 subst hy
 rcases a with _ | ⟨b1, o1, s1⟩
 ·have : blkOf (.slice none l c) z = z := by cases c <;> rfl
  rw [this]; exact ⟨hB, .inr rfl⟩
 ·cases c with
  | zero => exact ⟨hB, .inr rfl⟩
  | succ c =>
   obtain ⟨_, q2, cells, T, q3, _⟩ := e b1 o1 s1 l (c + 1) rfl (by omega)
   exact ⟨q2, .inl (Array.getElem?_eq_some_iff.1 q3).1⟩
theorem blk_ne {B : Nat} {w' : World} {y1 y4 : Value} {z1 z4 n1 n4 : Nat} {a1 a4 : Option Addr} {l1 c1 l4 c4 : Nat} (hy1 : y1 = .slice a1 l1 c1) (hy4 : y4 = .slice a4 l4 c4) (e1 : LiveAt B w' y1 n1) (e4 : LiveAt B w' y4 n4)
  (ap : ∀ b o s l c b' o' s' l' c', y1 = .slice (some ⟨b, o, s⟩) l c → 0 < c → y4 = .slice (some ⟨b', o', s'⟩) l' c' → 0 < c' → b ≠ b') (h1 : w'.heap.size ≤ z1) (h4 : w'.heap.size ≤ z4) (hz : z1 ≠ z4) : blkOf y1 z1 ≠ blkOf y4 z4 := by
 subst hy1 hy4
 rcases a1 with _ | ⟨b1, o1, s1⟩
 ·have q1 : blkOf (.slice none l1 c1) z1 = z1 := by cases c1 <;> rfl
  rcases a4 with _ | ⟨b4, o4, s4⟩
  ·have : blkOf (.slice none l4 c4) z4 = z4 := by cases c4 <;> rfl
   omega
  ·cases c4 with
   | zero =>
    have : blkOf (.slice (some ⟨b4, o4, s4⟩) l4 0) z4 = z4 := rfl
    omega
   | succ c4 =>
    obtain ⟨_, _, cells, T, q3, _⟩ := e4 b4 o4 s4 l4 (c4 + 1) rfl (by omega)
    have hlt := (Array.getElem?_eq_some_iff.1 q3).1
    have : blkOf (.slice (some ⟨b4, o4, s4⟩) l4 (c4 + 1)) z4 = b4 := rfl
    omega
 ·cases c1 with
  | zero =>
   have q1 : blkOf (.slice (some ⟨b1, o1, s1⟩) l1 0) z1 = z1 := rfl
   rcases a4 with _ | ⟨b4, o4, s4⟩
   ·have : blkOf (.slice none l4 c4) z4 = z4 := by cases c4 <;> rfl
    omega
   ·cases c4 with
    | zero =>
     have : blkOf (.slice (some ⟨b4, o4, s4⟩) l4 0) z4 = z4 := rfl
     omega
    | succ c4 =>
     obtain ⟨_, _, cells, T, q3, _⟩ := e4 b4 o4 s4 l4 (c4 + 1) rfl (by omega)
     have hlt := (Array.getElem?_eq_some_iff.1 q3).1
     have : blkOf (.slice (some ⟨b4, o4, s4⟩) l4 (c4 + 1)) z4 = b4 := rfl
     omega
  | succ c1 =>
   obtain ⟨_, _, cells, T, q3, _⟩ := e1 b1 o1 s1 l1 (c1 + 1) rfl (by omega)
   have hlt1 := (Array.getElem?_eq_some_iff.1 q3).1
   have hb1 : blkOf (.slice (some ⟨b1, o1, s1⟩) l1 (c1 + 1)) z1 = b1 := rfl
   rcases a4 with _ | ⟨b4, o4, s4⟩
   ·have : blkOf (.slice none l4 c4) z4 = z4 := by cases c4 <;> rfl
    omega
   ·cases c4 with
    | zero =>
     have : blkOf (.slice (some ⟨b4, o4, s4⟩) l4 0) z4 = z4 := rfl
     omega
    | succ c4 => exact ap b1 o1 s1 l1 (c1 + 1) b4 o4 s4 l4 (c4 + 1) rfl (by omega) rfl (by omega)
theorem entry_calls {f : FuncId} {ds : List D} {e : Entry} {b : Bool} (h : FunR Tryz.prog f none ds (.tup [enc e, .bool b]) [] [(1, 1), (4, 4)]) {w : World} {vs : List Value} (hG : Rd w) (hr : Rs w (fun _ => False) ds vs) :
  Calls Tryz.prog f vs.toArray w fun x w' => ∃ y1 y4, x = .returned (.tuple #[.agg #[.string e.name, y1, .int .i64 e.ver.maj, .int .i64 e.ver.min, y4], .bool b]) ∧
   (∀ z1 z4, w'.heap.size ≤ z1 → w'.heap.size ≤ z4 → z1 ≠ z4 → R w' (NB w' y1 z1) (encS e.recipe) y1 ∧ R w' (NB w' y4 z4) (encS e.needs) y4 ∧ (w.heap.size ≤ blkOf y1 z1 ∧ (blkOf y1 z1 < w'.heap.size ∨ blkOf y1 z1 = z1)) ∧ (w.heap.size ≤ blkOf y4 z4 ∧ (blkOf y4 z4 < w'.heap.size ∨ blkOf y4 z4 = z4)) ∧ blkOf y1 z1 ≠ blkOf y4 z4) ∧
   R w' (fun _ => False) (enc e) (.agg #[.string e.name, y1, .int .i64 e.ver.maj, .int .i64 e.ver.min, y4]) ∧ Below w.heap.size w w' := by
 refine (h.2 w _ 0 vs hG hr (fun cs h => by cases h)).mono ?_
 rintro x w' ⟨v, rfl, ⟨cs, rfl, h2⟩, h3, h4, _⟩
 obtain ⟨x0, _, hc, ⟨ar, rfl, hx0⟩, x1, _, rfl, hx1, hx2⟩ := h2
 have hx2 : _ = [] := hx2
 subst hx2
 have hcs : cs = #[.agg ar, x1] := by rw [← Array.toList_inj, hc]
 subst hcs
 have hx1 : x1 = .bool b := hx1
 subst hx1
 have hx0' := hx0
 obtain ⟨y0, _, hc2, ⟨r01, r02⟩, y1, _, rfl, r1, y2, _, rfl, ⟨r21, r22⟩, y3, _, rfl, ⟨r31, r32⟩, y4, _, rfl, r4, hy⟩ := hx0
 have hy : _ = [] := hy
 subst hy
 have has : ar = #[y0, y1, y2, y3, y4] := by rw [← Array.toList_inj, hc2]
 subst has
 subst r01 r21 r31
 obtain ⟨a1, l1, c1, hy1, u1⟩ := (show R w' _ (.sl (e.recipe.map Enc.cells)) y1 from r1)
 obtain ⟨a4, l4, c4, hy4, u4⟩ := (show R w' _ (.sl (e.needs.map Enc.cells)) y4 from r4)
 have e1 := h4.1 (1, 1) (by simp)
 have e4 := h4.1 (4, 4) (by simp)
 have ap := h4.2 0 1 (1, 1) (4, 4) rfl rfl (by decide)
 have f1 : rtV (.tuple #[.agg #[.string e.name, y1, .int .i64 e.ver.maj, .int .i64 e.ver.min, y4], .bool b]) (1, 1) = y1 := by subst hy1 hy4; rfl
 have f4 : rtV (.tuple #[.agg #[.string e.name, y1, .int .i64 e.ver.maj, .int .i64 e.ver.min, y4], .bool b]) (4, 4) = y4 := by subst hy1 hy4; rfl
 rw [f1] at e1 ap
 rw [f4] at e4 ap
 have hb := h3.to_below
 have hsz := hb.size
 refine ⟨y1, y4, rfl, fun z1 z4 hz1 hz4 hzn => ⟨nb_flat r1 (str_flat _).1 (str_flat _).2 e1, nb_flat r4 (need_flat _).1 (need_flat _).2 e4, blk_old hy1 e1 (by omega), blk_old hy4 e4 (by omega), blk_ne hy1 hy4 e1 e4 (fun _ _ _ _ _ _ _ _ _ _ q1 q2 q3 q4 => ap _ _ _ _ _ _ _ _ _ _ q1 q2 q3 q4) hz1 hz4 hzn⟩, ⟨_, rfl, ?_⟩, hb⟩
 exact Rs.keep (fun p u hp hn => ⟨hp, fun h => h.elim⟩) _ _ hx0'
theorem nb_blk {w : World} {v : Value} {z : Nat} {p : Addr} (h : ¬ NB w v z p) : p.block = blkOf v z := Classical.byContradiction fun hn => h (.inl hn)
theorem nb_alt {A : Addr → Prop} {w w' : World} {v u : Value} {z : Nat} {d : D} (hr : R w (NB w v z) d u) (ha : Alt A w w') (hA : ∀ p, A p → p.block ≠ blkOf v z) : R w' (NB w' v z) d u :=
 R.keep (ha.keeps (fun p hp => .inl (hA p hp)) fun p hp hm => hm.imp id fun hf => by rw [← ha.fro p hp]; exact hf) _ _ hr
theorem nb_keep {w w' : World} {v u : Value} {z : Nat} {d : D} (hr : R w (NB w v z) d u) (hb : Below w.heap.size w w') : R w' (NB w' v z) d u :=
 R.keep (Keeps.below hb fun p hp hm => hm.imp id fun hf => by rw [← fro_of_block (w' := w') (hb.block p.block hp)]; exact hf) _ _ hr
theorem m_Entry (rec : List ByteArray) (nd : List Need) (y0 y1 y2 y3 y4 : Value) (k z1 z4 : Nat) (w : World) (h1 : R w (NB w y1 z1) (encS rec) y1) (h4 : R w (NB w y4 z4) (encS nd) y4) (hne : blkOf y1 z1 ≠ blkOf y4 z4) (hB1 : NG ≤ blkOf y1 z1) (hB4 : NG ≤ blkOf y4 z4) (hx1 : blkOf y1 z1 ≠ w.heap.size) (hx4 : blkOf y4 z4 ≠ w.heap.size) (hG : Rd w) (hk : k + rec.length + 4 * nd.length ≤ 1152921504606846970) :
  Calls Tryz.prog 19 #[.agg #[y0, y1, y2, y3, y4], .int .i64 k] w fun e w' => e = .returned (.int .i64 ((k + rec.length + 4 * nd.length : Nat) : Int)) ∧ Alt (fun p => p.block = blkOf y1 z1 ∨ p.block = blkOf y4 z4) w w' ∧
   R w' (fun _ => False) (.sl (mS k rec rec.length)) y1 ∧ R w' (fun _ => False) (.sl (mN (k + rec.length) nd nd.length)) y4 := by
 obtain ⟨K2, hK2⟩ : ∃ K2, k + rec.length = K2 := ⟨_, rfl⟩
 have hbA : Below w.heap.size w (w.alloc (.cells #[y0, y1, y2, y3, y4] 51)) := by go_grown
 have hcA : (w.alloc (.cells #[y0, y1, y2, y3, y4] 51)).cell? ⟨w.heap.size, 4, none⟩ = some y4 := by simp [go_sem]
 have hsA := hbA.size
 have hGA := hG.below hbA
 have hm1 := m_StringS rec k _ (NB _ y1 z1) y1 (nb_keep h1 hbA) (fun p hp => .inr hp) hGA (fun p hp => by rw [nb_blk hp]; exact hB1) (by omega)
 rw [hK2] at hm1
 have HM1 := Lib.hid hm1
 have H4 := Lib.hid (nb_keep h4 hbA)
 have HG := Lib.hid hGA
 have HBA := Lib.hid hbA
 have HCA := Lib.hid hcA
 clear hm1 h1 h4 hG hGA hbA hcA
 go_enter Tryz.func19, Tryz.ntmps19
 go_wp2_with fail
 refine HM1.out.mono ?_
 rintro e w1 ⟨rfl, ha1, hr1⟩
 have hc1 := ha1.keep _ _ HCA.out fun hp => by have := nb_blk hp; exact hx1 this.symm
 have hr4 := nb_alt H4.out ha1 fun p hp => by rw [nb_blk hp]; exact hne
 have hm4 := m_NeedS nd K2 w1 (NB w1 y4 z4) y4 hr4 (fun p hp => .inr hp) (HG.out.alt ha1 fun p hp => by rw [nb_blk hp]; exact hB1) (fun p hp => by rw [nb_blk hp]; exact hB4) (by omega)
 have HM4 := Lib.hid hm4
 have HA1 := Lib.hid ha1
 have HR1 := Lib.hid hr1
 clear hm4 ha1 hr1 hr4
 go_wp2_with fail
 refine HM4.out.mono ?_
 rintro e w2 ⟨rfl, ha2, hr2⟩
 have hs1 : R w2 (fun _ => False) (.sl (mS k rec rec.length)) y1 := R.zero (R.keep (ha2.keeps (M := NB (w.alloc (.cells #[y0, y1, y2, y3, y4] 51)) y1 z1) (M' := NB (w.alloc (.cells #[y0, y1, y2, y3, y4] 51)) y1 z1) (fun p hp => .inl (by rw [nb_blk hp]; exact fun e => hne e.symm)) fun _ _ hm => hm) _ _ HR1.out)
 have hA := ((Alt.below HBA.out).trans (HA1.out.mono (A' := fun p => p.block = blkOf y1 z1 ∨ p.block = blkOf y4 z4) fun p _ hp => .inl (nb_blk hp))).trans (ha2.mono fun p _ hp => .inr (nb_blk hp))
 have HA := Lib.hid hA
 have HS1 := Lib.hid hs1
 have HS2 := Lib.hid hr2.zero
 clear hA hs1 ha2 hr2
 go_wp2
 go_ret
 subst hK2
 exact ⟨rfl, HA.out, HS1.out, HS2.out⟩
theorem c_heldEntry (nm : ByteArray) (rec : List ByteArray) (mj mi : Int) (nd : List Need) (k : Nat) (hk : k + rec.length + 4 * nd.length ≤ 1152921504606846970) :
  Fun Tryz.prog 20 none [.agg [.str nm, .sl (mS k rec rec.length), .int .i64 mj, .int .i64 mi, .sl (mN (k + rec.length) nd nd.length)], .int .i64 k] (.int .i64 ((k + rec.length + 4 * nd.length : Nat) : Int)) [] := by
 refine Fun.ofV vc_laws_heldEntry_ok ty_laws_heldEntry_ok rfl ?_ (fun hfit => ?_)
 ·refine ⟨⟨trivial, ?_, rfl, rfl, ?_, trivial⟩, rfl, trivial⟩
  ·show RowsTy _ (tbl.tab _) _
   rw [tab_str]
   refine RowsTy.of fun r hr => ?_
   obtain ⟨a, ha, rfl⟩ := rowsM_mem hr
   rw [if_pos ha]; exact ⟨trivial, trivial⟩
  ·show RowsTy _ (tbl.tab _) _
   rw [tab_Need]
   refine RowsTy.of fun r hr => ?_
   obtain ⟨a, ha, rfl⟩ := rowsM_mem hr
   rw [if_pos ha]; exact ⟨rfl, trivial, rfl, rfl, trivial⟩
 unfold vc_laws_heldEntry
 ((first | refine den_call ?_ (c_heldStringS rec k (by omega)) (rfl) ?_ | refine den_callR ?_ (c_heldStringS rec k (by omega)) (rfl) ?_ | refine den_call ?_ (.ofR (c_heldStringS rec k (by omega))) (rfl) ?_); (focus (simp only [VC.den, E.den, dEq, gsH_nil, and_true]; try exact rfl)); (simp only [cA]))
 refine den_ite (fun h => ?_) (fun _ => ?_)
 ·simp only [E.den, dEq, iEq, sEq] at h
  simp at h; omega
 ((first | refine den_call ?_ (c_heldNeedS nd (k + rec.length) (by omega)) (rfl) ?_ | refine den_callR ?_ (c_heldNeedS nd (k + rec.length) (by omega)) (rfl) ?_ | refine den_call ?_ (.ofR (c_heldNeedS nd (k + rec.length) (by omega))) (rfl) ?_); (focus (simp only [VC.den, E.den, dEq, gsH_nil, and_true]; try exact rfl)); (simp only [cA]))
 refine den_ite (fun h => ?_) (fun _ => ?_)
 ·simp only [E.den, dEq, iEq, sEq] at h
  simp at h; omega
 exact den_ret rfl
end Go.Proofs.YtjmakbnblpjkhaaGreatDoor
/- Versions. -/
namespace Go.Proofs.YtjmakbnblpjkhaaGreatDoor
open Go.RowKit Go
variable [GC]
def Ver.ok (v : Ver) : Bool := decide (0 ≤ v.maj) && decide (v.maj ≤ 99) && decide (0 ≤ v.min) && decide (v.min ≤ 99)
theorem c_spec_IsVersion (v : Ver) : Fun Tryz.prog 155 none [enc v] (.bool v.ok) [] := by
 refine Fun.ofV vc_spec_IsVersion_ok ty_spec_IsVersion_ok rfl ?_ (fun hfit => ?_)
 ·simp [ty_spec_IsVersion, HasTys, HasVT, HasV1, enc, ty_Ver]
 simp only [vc_spec_IsVersion, VC.den, E.den, dEq, gsH_nil, and_true, cells_Ver]
 simp [cmpI, Ver.ok]
end Go.Proofs.YtjmakbnblpjkhaaGreatDoor
/- Texts: numerals of three digits, cutting and joining. Plain mathematics over lists of bytes. -/
namespace Go.Proofs.YtjmakbnblpjkhaaGreatDoor
def dig3 (n : Nat) : List UInt8 :=
 if n < 10 then [UInt8.ofNat (48 + n)] else if n < 100 then [UInt8.ofNat (48 + n / 10), UInt8.ofNat (48 + n % 10)] else [UInt8.ofNat (48 + n / 100), UInt8.ofNat (48 + n / 10 % 10), UInt8.ofNat (48 + n % 10)]
theorem dec3 {n : Nat} (h : n < 1000) : Lib.decDigits n = dig3 n := by
 unfold dig3
 by_cases h1 : n < 10
 ·rw [if_pos h1, Lib.decDigits, dif_pos h1]
 ·rw [if_neg h1, Lib.decDigits, dif_neg h1]
  by_cases h2 : n < 100
  ·rw [if_pos h2, Lib.decDigits, dif_pos (by omega)]; rfl
  ·rw [if_neg h2, Lib.decDigits, dif_neg (by omega), Lib.decDigits, dif_pos (by omega), show n / 10 / 10 = n / 100 by omega]; rfl
def isDig (b : UInt8) : Bool := decide (48 ≤ b.toNat ∧ b.toNat ≤ 57)
def rd4 (l : List UInt8) : Int := (l.take 4).foldl (fun n c => 10 * n + (c.toNat : Int) - 48) 0
theorem dig3_facts : ∀ n ∈ List.range 1000, (Lib.atoi (dig3 n) = some (n : Int) ∧ rd4 (dig3 n) = (n : Int) ∧ 0 < (dig3 n).length ∧ (dig3 n).length ≤ 3) ∧ (dig3 n).all isDig = true := by decide +kernel
theorem dig3_atoi {n : Nat} (h : n < 1000) : Lib.atoi (dig3 n) = some (n : Int) := (dig3_facts n (List.mem_range.2 h)).1.1
theorem dig3_rd {n : Nat} (h : n < 1000) : rd4 (dig3 n) = (n : Int) := (dig3_facts n (List.mem_range.2 h)).1.2.1
theorem dig3_pos {n : Nat} (h : n < 1000) : 0 < (dig3 n).length := (dig3_facts n (List.mem_range.2 h)).1.2.2.1
theorem dig3_le {n : Nat} (h : n < 1000) : (dig3 n).length ≤ 3 := (dig3_facts n (List.mem_range.2 h)).1.2.2.2
theorem dig3_dig {n : Nat} (h : n < 1000) : (dig3 n).all isDig = true := (dig3_facts n (List.mem_range.2 h)).2
theorem dig3_inj {n m : Nat} (hn : n < 1000) (hm : m < 1000) (h : dig3 n = dig3 m) : n = m := by
 have h1 := dig3_atoi hn
 have h2 := dig3_atoi hm
 rw [h, h2] at h1
 simp at h1; omega
def numO (l : List UInt8) : Option Nat := (List.range 1000).find? fun n => decide (dig3 n = l)
theorem numO_some {l : List UInt8} {n : Nat} : numO l = some n ↔ n < 1000 ∧ dig3 n = l := by
 unfold numO
 constructor
 ·intro h
  exact ⟨List.mem_range.1 (List.mem_of_find?_eq_some h), by simpa using List.find?_some h⟩
 ·rintro ⟨h1, h2⟩
  cases hf : (List.range 1000).find? fun n => decide (dig3 n = l) with
  | none => have := List.find?_eq_none.1 hf n (List.mem_range.2 h1); simp [h2] at this
  | some m =>
   have hm := List.mem_range.1 (List.mem_of_find?_eq_some hf)
   have he : dig3 m = l := by simpa using List.find?_some hf
   rw [dig3_inj hm h1 (he.trans h2.symm)]
theorem numO_dig {n : Nat} (h : n < 1000) : numO (dig3 n) = some n := numO_some.2 ⟨h, rfl⟩
/-! Cutting -/
theorem prefix_cons_false {c : UInt8} {t l : List UInt8} (h : l.head? ≠ some c) : (c :: t).isPrefixOf l = false := by
 cases l with
 | nil => rfl
 | cons b r =>
  have : c ≠ b := fun e => h (by simp [e])
  simp [List.isPrefixOf, this]
theorem index_none' {c : UInt8} {t : List UInt8} : ∀ {x : List UInt8}, c ∉ x → Lib.index x (c :: t) = -1
 | [], _ => rfl
 | b :: x, h => by
  unfold Lib.index
  rw [prefix_cons_false (by intro e; simp at e; exact h (by simp [e])), index_none' (x := x) (fun e => h (by simp [e]))]
  rfl
theorem index_app {c : UInt8} {t rest : List UInt8} : ∀ {x : List UInt8}, c ∉ x → Lib.index (x ++ ((c :: t) ++ rest)) (c :: t) = x.length
 | [], _ => by
  simp only [List.nil_append, List.cons_append, List.length_nil]
  unfold Lib.index
  have : (c :: t).isPrefixOf (c :: (t ++ rest)) = true := by
   rw [List.isPrefixOf_iff_prefix]
   exact ⟨rest, rfl⟩
  rw [this]; rfl
 | b :: x, h => by
  have hx : c ∉ x := fun e => h (by simp [e])
  have ih := index_app (t := t) (rest := rest) hx
  rw [List.cons_append]
  unfold Lib.index
  rw [prefix_cons_false (by intro e; simp at e; exact h (by simp [e])), ih]
  simp
theorem split_miss {s sep : List UInt8} (h : Lib.index s sep = -1) : Lib.split s sep = [s] := by
 unfold Lib.split
 rw [Lib.count_miss h]; rfl
theorem split_hit {s sep : List UInt8} {i : Nat} (hsep : sep ≠ []) (h : Lib.index s sep = i) : Lib.split s sep = s.take i :: Lib.split (s.drop (i + sep.length)) sep := by
 unfold Lib.split
 rw [Lib.count_hit hsep h, Nat.add_comm 1, Lib.splitK]
 rw [if_neg (by rw [h]; simp), h]
 simp
theorem split_join {c : UInt8} {t : List UInt8} : ∀ {l : List (List UInt8)}, l ≠ [] → (∀ x ∈ l, c ∉ x) → Lib.split (Lib.join l (c :: t)) (c :: t) = l
 | [], h, _ => absurd rfl h
 | [x], _, h => by
  rw [Lib.join_one]
  exact split_miss (index_none' (h x (by simp)))
 | x :: y :: r, _, h => by
  have e : Lib.join (x :: y :: r) (c :: t) = x ++ ((c :: t) ++ Lib.join (y :: r) (c :: t)) := by
   rw [Lib.join_cons, Lib.join_cons]
   simp [Lib.joinTail]
  rw [e, split_hit (by simp) (index_app (h x (by simp)))]
  have ih := split_join (c := c) (t := t) (l := y :: r) (by simp) (fun z hz => h z (by simp [hz]))
  rw [List.take_left', ← List.append_assoc, List.drop_left' (by simp)]
  ·rw [ih]
  ·rfl
theorem join_split {sep : List UInt8} (hsep : sep ≠ []) : ∀ (n : Nat) (s : List UInt8), s.length ≤ n → Lib.join (Lib.split s sep) sep = s ∧ Lib.split s sep ≠ []
 | n, s, hn => by
  rcases Lib.index_spec s sep with ⟨h, _⟩ | ⟨i, h, h1, h2, _⟩
  ·rw [split_miss h]; exact ⟨Lib.join_one _ _, by simp⟩
  ·rw [split_hit hsep h]
   have hroom := Lib.index_room s sep (by rw [h]; omega)
   have hpos : 0 < sep.length := List.length_pos_iff.2 hsep
   rw [h] at hroom
   have hlt : (s.drop (i + sep.length)).length < s.length := by simp; omega
   cases n with
   | zero => omega
   | succ n =>
    obtain ⟨q1, q2⟩ := join_split hsep n (s.drop (i + sep.length)) (by omega)
    refine ⟨?_, by simp⟩
    cases hsp : Lib.split (s.drop (i + sep.length)) sep with
    | nil => exact absurd hsp q2
    | cons y r =>
     rw [hsp] at q1
     have e : Lib.join (s.take i :: y :: r) sep = s.take i ++ (sep ++ Lib.join (y :: r) sep) := by
      rw [Lib.join_cons, Lib.join_cons]
      simp [Lib.joinTail]
     rw [e, q1]
     have hocc := Lib.occAt_iff_take s sep i (by omega)
     rw [h2] at hocc
     have hs : (s.drop i).take sep.length = sep := by simpa using hocc.symm
     have e2 : s.drop (i + sep.length) = (s.drop i).drop sep.length := by rw [List.drop_drop]
     rw [e2]
     conv => lhs; rw [show sep ++ (s.drop i).drop sep.length = (s.drop i).take sep.length ++ (s.drop i).drop sep.length by rw [hs]]
     rw [List.take_append_drop, List.take_append_drop]
theorem cut_app {c : UInt8} {t rest x : List UInt8} (h : c ∉ x) : Lib.cut (x ++ ((c :: t) ++ rest)) (c :: t) = (x, rest, true) := by
 unfold Lib.cut
 rw [index_app h, if_pos (by omega)]
 simp
theorem cut_none {c : UInt8} {t x : List UInt8} (h : c ∉ x) : Lib.cut x (c :: t) = (x, [], false) := by
 unfold Lib.cut
 rw [index_none' h]; rfl
theorem cut_back {s sep : List UInt8} (h : (Lib.cut s sep).2.2 = true) : s = (Lib.cut s sep).1 ++ (sep ++ (Lib.cut s sep).2.1) := by
 unfold Lib.cut at *
 split at h
 ·rename_i hi
  rw [if_pos hi]
  rcases Lib.index_spec s sep with ⟨h0, _⟩ | ⟨i, h0, h1, h2, _⟩
  ·omega
  ·have hroom := Lib.index_room s sep hi
   rw [h0] at hroom ⊢
   simp only [Int.toNat_natCast]
   have hocc := Lib.occAt_iff_take s sep i (by omega)
   rw [h2] at hocc
   have hs : (s.drop i).take sep.length = sep := by simpa using hocc.symm
   have e2 : s.drop (i + sep.length) = (s.drop i).drop sep.length := by rw [List.drop_drop]
   rw [e2]
   conv => rhs; rw [show sep ++ (s.drop i).drop sep.length = (s.drop i).take sep.length ++ (s.drop i).drop sep.length by rw [hs]]
   rw [List.take_append_drop, List.take_append_drop]
 ·simp at h
end Go.Proofs.YtjmakbnblpjkhaaGreatDoor
/- Contracts of the library's functions that are called here, laid at this seat's program by the kit's tool (lay-shelf, lay-plain); those that are needed. -/
namespace Go.Proofs
open Go.Shelf
def Tryz.lays156_ren : Go.Shelf.Ren := ⟨fun | 156 => 89 | 165 => 142 | 166 => 143 | 169 => 144 | 240 => 175 | 241 => 176 | 276 => 202 | 277 => 203 | n => n, fun | 31 => 24 | 9 => 9 | 3 => 3 | 4 => 4 | 0 => 0 | 20 => 20 | 72 => 175 | 76 => 179 | 70 => 173 | 37 => 163 | 75 => 178 | 127 => 205 | 164 => 223 | 5 => 5 | 80 => 181 | n => n, fun | n => n⟩
theorem Tryz.lays156 : Go.Proofs.Lays.n156 Tryz.prog Tryz.lays156_ren := {
 mixed := by kernel_rfl
 f156 := Tryz.func89.trans (congrArg some (by kernel_rfl))
 f165 := Tryz.func142.trans (congrArg some (by kernel_rfl))
 f166 := Tryz.func143.trans (congrArg some (by kernel_rfl))
 f169 := Tryz.func144.trans (congrArg some (by kernel_rfl))
 f240 := Tryz.func175.trans (congrArg some (by kernel_rfl))
 f241 := Tryz.func176.trans (congrArg some (by kernel_rfl))
 f276 := Tryz.func202.trans (congrArg some (by kernel_rfl))
 f277 := Tryz.func203.trans (congrArg some (by kernel_rfl))
 t0 := Tryz.underlying0
 a0 := Tryz.isAgg0
 z0 := Tryz.sizeOf0
 v0 := Tryz.zeroValue0
 t3 := Tryz.underlying3
 a3 := Tryz.isAgg3
 z3 := Tryz.sizeOf3
 v3 := Tryz.zeroValue3
 t4 := Tryz.underlying4
 a4 := Tryz.isAgg4
 z4 := Tryz.sizeOf4
 v4 := Tryz.zeroValue4
 t9 := Tryz.underlying9
 a9 := Tryz.isAgg9
 z9 := Tryz.sizeOf9
 v9 := Tryz.zeroValue9
 t20 := Tryz.underlying20
 a20 := Tryz.isAgg20
 z20 := Tryz.sizeOf20
 v20 := Tryz.zeroValue20
 t31 := Tryz.underlying24
 a31 := Tryz.isAgg24
 z31 := Tryz.sizeOf24
 v31 := Tryz.zeroValue24
 t37 := Tryz.underlying163
 a37 := Tryz.isAgg163
 z37 := Tryz.sizeOf163
 v37 := Tryz.zeroValue163
 t70 := Tryz.underlying173
 a70 := Tryz.isAgg173
 z70 := Tryz.sizeOf173
 v70 := Tryz.zeroValue173
 t72 := Tryz.underlying175
 a72 := Tryz.isAgg175
 z72 := Tryz.sizeOf175
 v72 := Tryz.zeroValue175
 t75 := Tryz.underlying178
 a75 := Tryz.isAgg178
 z75 := Tryz.sizeOf178
 v75 := Tryz.zeroValue178
 t76 := Tryz.underlying179
 a76 := Tryz.isAgg179
 z76 := Tryz.sizeOf179
 v76 := Tryz.zeroValue179
 t127 := Tryz.underlying205
 a127 := Tryz.isAgg205
 z127 := Tryz.sizeOf205
 v127 := Tryz.zeroValue205
 t164 := Tryz.underlying223
 a164 := Tryz.isAgg223
 z164 := Tryz.sizeOf223
 v164 := Tryz.zeroValue223 }
theorem Tryz.Builder_Extra_156 : Builder.Extra Tryz.prog Tryz.lays156_ren := {
 sizeBuilder := by kernel_rfl
 liesBuilder := by kernel_rfl
 t5 := Tryz.underlying5
 a5 := Tryz.isAgg5
 z5 := Tryz.sizeOf5
 v5 := Tryz.zeroValue5
 infoByte := by kernel_rfl
 cellsByte := by kernel_rfl
 sizeByte := by kernel_rfl
 neB5 := by decide }
open Go.RowKit in
theorem Tryz.strings_Join_none (a : Option Addr) (c : Nat) (sep : ByteArray) (w : World) :
  Calls Tryz.prog 89 #[.slice a 0 c, .string sep] w fun e w' => e = .returned (.string ⟨#[]⟩) ∧ w' = w := Any.strings_Join_none Tryz.lays156 Tryz.Builder_Extra_156 a c sep w
open Go.RowKit in
theorem Tryz.strings_Join (bk o c : Nat) (xs : List ByteArray) (sep : ByteArray) (w : World) (hcells : ∀ (j : Nat) x, xs[j]? = some x → w.cell? ⟨bk, o + j, none⟩ = some (.string x)) (hbk : bk < w.heap.size) (hN : xs.length ≤ 140737488355328) (hcap : xs.length ≤ c) (hlen : (Lib.join (xs.map (·.data.toList)) sep.data.toList).length ≤ 140737488355328) :
  Calls Tryz.prog 89 #[.slice (some ⟨bk, o, none⟩) xs.length c, .string sep] w fun e w' => e = .returned (.string ⟨(Lib.join (xs.map (·.data.toList)) sep.data.toList).toArray⟩) ∧ Below w.heap.size w w' := Any.strings_Join Tryz.lays156 Tryz.Builder_Extra_156 bk o c xs sep w hcells hbk hN hcap hlen
def Tryz.lays172_ren : Go.Shelf.Ren := ⟨fun | 172 => 149 | 244 => 184 | 245 => 185 | 247 => 208 | 279 => 209 | 280 => 210 | 281 => 211 | 282 => 212 | 287 => 226 | 316 => 227 | 171 => 145 | 205 => 228 | 321 => 236 | 322 => 237 | 243 => 177 | 246 => 204 | 283 => 222 | 284 => 223 | 285 => 224 | 286 => 225 | 129 => 232 | 317 => 231 | 318 => 233 | 319 => 234 | 320 => 235 | 337 => 238 | 338 => 239 | n => n, fun | 9 => 9 | 3 => 3 | 75 => 178 | 76 => 179 | 4 => 4 | 5 => 5 | 167 => 231 | 37 => 163 | 0 => 0 | 85 => 232 | 2 => 2 | 168 => 234 | 53 => 244 | 175 => 249 | 46 => 210 | 210 => 253 | 127 => 205 | 145 => 267 | 143 => 265 | 21 => 21 | 171 => 243 | 173 => 247 | 212 => 261 | 51 => 228 | 20 => 20 | 213 => 262 | 232 => 269 | 233 => 270 | 80 => 181 | n => n, fun | 15 => 3 | 16 => 4 | 17 => 7 | 18 => 8 | 19 => 9 | n => n⟩
theorem Tryz.lays172 : Go.Proofs.Lays.n172 Tryz.prog Tryz.lays172_ren := {
 mixed := by kernel_rfl
 f129 := Tryz.func232.trans (congrArg some (by kernel_rfl))
 f171 := Tryz.func145.trans (congrArg some (by kernel_rfl))
 f172 := Tryz.func149.trans (congrArg some (by kernel_rfl))
 f205 := Tryz.func228.trans (congrArg some (by kernel_rfl))
 f243 := Tryz.func177.trans (congrArg some (by kernel_rfl))
 f244 := Tryz.func184.trans (congrArg some (by kernel_rfl))
 f245 := Tryz.func185.trans (congrArg some (by kernel_rfl))
 f246 := Tryz.func204.trans (congrArg some (by kernel_rfl))
 f247 := Tryz.func208.trans (congrArg some (by kernel_rfl))
 f279 := Tryz.func209.trans (congrArg some (by kernel_rfl))
 f280 := Tryz.func210.trans (congrArg some (by kernel_rfl))
 f281 := Tryz.func211.trans (congrArg some (by kernel_rfl))
 f282 := Tryz.func212.trans (congrArg some (by kernel_rfl))
 f283 := Tryz.func222.trans (congrArg some (by kernel_rfl))
 f284 := Tryz.func223.trans (congrArg some (by kernel_rfl))
 f285 := Tryz.func224.trans (congrArg some (by kernel_rfl))
 f286 := Tryz.func225.trans (congrArg some (by kernel_rfl))
 f287 := Tryz.func226.trans (congrArg some (by kernel_rfl))
 f316 := Tryz.func227.trans (congrArg some (by kernel_rfl))
 f317 := Tryz.func231.trans (congrArg some (by kernel_rfl))
 f318 := Tryz.func233.trans (congrArg some (by kernel_rfl))
 f319 := Tryz.func234.trans (congrArg some (by kernel_rfl))
 f320 := Tryz.func235.trans (congrArg some (by kernel_rfl))
 f321 := Tryz.func236.trans (congrArg some (by kernel_rfl))
 f322 := Tryz.func237.trans (congrArg some (by kernel_rfl))
 f337 := Tryz.func238.trans (congrArg some (by kernel_rfl))
 f338 := Tryz.func239.trans (congrArg some (by kernel_rfl))
 t0 := Tryz.underlying0
 a0 := Tryz.isAgg0
 z0 := Tryz.sizeOf0
 v0 := Tryz.zeroValue0
 t2 := Tryz.underlying2
 a2 := Tryz.isAgg2
 z2 := Tryz.sizeOf2
 v2 := Tryz.zeroValue2
 t3 := Tryz.underlying3
 a3 := Tryz.isAgg3
 z3 := Tryz.sizeOf3
 v3 := Tryz.zeroValue3
 t4 := Tryz.underlying4
 a4 := Tryz.isAgg4
 z4 := Tryz.sizeOf4
 v4 := Tryz.zeroValue4
 t5 := Tryz.underlying5
 a5 := Tryz.isAgg5
 z5 := Tryz.sizeOf5
 v5 := Tryz.zeroValue5
 t9 := Tryz.underlying9
 a9 := Tryz.isAgg9
 z9 := Tryz.sizeOf9
 v9 := Tryz.zeroValue9
 t20 := Tryz.underlying20
 a20 := Tryz.isAgg20
 z20 := Tryz.sizeOf20
 v20 := Tryz.zeroValue20
 t21 := Tryz.underlying21
 a21 := Tryz.isAgg21
 z21 := Tryz.sizeOf21
 v21 := Tryz.zeroValue21
 t37 := Tryz.underlying163
 a37 := Tryz.isAgg163
 z37 := Tryz.sizeOf163
 v37 := Tryz.zeroValue163
 t46 := Tryz.underlying210
 a46 := Tryz.isAgg210
 z46 := Tryz.sizeOf210
 v46 := Tryz.zeroValue210
 t51 := Tryz.underlying228
 a51 := Tryz.isAgg228
 z51 := Tryz.sizeOf228
 v51 := Tryz.zeroValue228
 t53 := Tryz.underlying244
 a53 := Tryz.isAgg244
 z53 := Tryz.sizeOf244
 v53 := Tryz.zeroValue244
 t75 := Tryz.underlying178
 a75 := Tryz.isAgg178
 z75 := Tryz.sizeOf178
 v75 := Tryz.zeroValue178
 t76 := Tryz.underlying179
 a76 := Tryz.isAgg179
 z76 := Tryz.sizeOf179
 v76 := Tryz.zeroValue179
 t85 := Tryz.underlying232
 a85 := Tryz.isAgg232
 z85 := Tryz.sizeOf232
 v85 := Tryz.zeroValue232
 t127 := Tryz.underlying205
 a127 := Tryz.isAgg205
 z127 := Tryz.sizeOf205
 v127 := Tryz.zeroValue205
 t143 := Tryz.underlying265
 a143 := Tryz.isAgg265
 z143 := Tryz.sizeOf265
 v143 := Tryz.zeroValue265
 t145 := Tryz.underlying267
 a145 := Tryz.isAgg267
 z145 := Tryz.sizeOf267
 v145 := Tryz.zeroValue267
 t167 := Tryz.underlying231
 a167 := Tryz.isAgg231
 z167 := Tryz.sizeOf231
 v167 := Tryz.zeroValue231
 t168 := Tryz.underlying234
 a168 := Tryz.isAgg234
 z168 := Tryz.sizeOf234
 v168 := Tryz.zeroValue234
 t171 := Tryz.underlying243
 a171 := Tryz.isAgg243
 z171 := Tryz.sizeOf243
 v171 := Tryz.zeroValue243
 t173 := Tryz.underlying247
 a173 := Tryz.isAgg247
 z173 := Tryz.sizeOf247
 v173 := Tryz.zeroValue247
 t175 := Tryz.underlying249
 a175 := Tryz.isAgg249
 z175 := Tryz.sizeOf249
 v175 := Tryz.zeroValue249
 t210 := Tryz.underlying253
 a210 := Tryz.isAgg253
 z210 := Tryz.sizeOf253
 v210 := Tryz.zeroValue253
 t212 := Tryz.underlying261
 a212 := Tryz.isAgg261
 z212 := Tryz.sizeOf261
 v212 := Tryz.zeroValue261
 t213 := Tryz.underlying262
 a213 := Tryz.isAgg262
 z213 := Tryz.sizeOf262
 t232 := Tryz.underlying269
 a232 := Tryz.isAgg269
 z232 := Tryz.sizeOf269
 v232 := Tryz.zeroValue269
 t233 := Tryz.underlying270
 a233 := Tryz.isAgg270
 z233 := Tryz.sizeOf270
 v233 := Tryz.zeroValue270
 g15 := by kernel_rfl
 g16 := by kernel_rfl
 g17 := by kernel_rfl
 g18 := by kernel_rfl
 g19 := by kernel_rfl }
open Go.RowKit in
theorem Tryz.strconv_Atoi (s : ByteArray) (n : Int) (hl : s.size ≤ 18) (h : Lib.atoi s.data.toList = some n) (w : World) :
  Calls Tryz.prog 149 #[.string s] w fun e w' => e = .returned (.tuple #[.int .i64 n, .nilIface]) ∧ ∃ t, w' = Lib.bytesWorld w 5 t := Any.strconv_Atoi Tryz.lays172 s n hl h w
def Tryz.laysM171_ren : Go.Shelf.Ren := ⟨fun | 171 => 145 | 243 => 177 | 246 => 204 | 283 => 222 | 284 => 223 | 285 => 224 | 286 => 225 | 129 => 232 | 317 => 231 | 318 => 233 | 319 => 234 | 320 => 235 | 337 => 238 | 338 => 239 | n => n, fun | 3 => 3 | 9 => 9 | 2 => 2 | 4 => 4 | 171 => 243 | 0 => 0 | 53 => 244 | 37 => 163 | 5 => 5 | 173 => 247 | 212 => 261 | 51 => 228 | 20 => 20 | 213 => 262 | 46 => 210 | 232 => 269 | 233 => 270 | n => n, fun | 17 => 7 | 18 => 8 | 19 => 9 | n => n⟩
theorem Tryz.laysM171 : Go.Proofs.LaysM.n171 Tryz.prog Tryz.laysM171_ren := {
 mixed := by kernel_rfl
 f129 := Tryz.func232.trans (congrArg some (by kernel_rfl))
 f171 := Tryz.func145.trans (congrArg some (by kernel_rfl))
 f243 := Tryz.func177.trans (congrArg some (by kernel_rfl))
 f246 := Tryz.func204.trans (congrArg some (by kernel_rfl))
 f283 := Tryz.func222.trans (congrArg some (by kernel_rfl))
 f284 := Tryz.func223.trans (congrArg some (by kernel_rfl))
 f285 := Tryz.func224.trans (congrArg some (by kernel_rfl))
 f286 := Tryz.func225.trans (congrArg some (by kernel_rfl))
 f317 := Tryz.func231.trans (congrArg some (by kernel_rfl))
 f318 := Tryz.func233.trans (congrArg some (by kernel_rfl))
 f319 := Tryz.func234.trans (congrArg some (by kernel_rfl))
 f320 := Tryz.func235.trans (congrArg some (by kernel_rfl))
 f337 := Tryz.func238.trans (congrArg some (by kernel_rfl))
 f338 := Tryz.func239.trans (congrArg some (by kernel_rfl))
 t0 := Tryz.underlying0
 a0 := Tryz.isAgg0
 z0 := Tryz.sizeOf0
 v0 := Tryz.zeroValue0
 t2 := Tryz.underlying2
 a2 := Tryz.isAgg2
 z2 := Tryz.sizeOf2
 v2 := Tryz.zeroValue2
 t3 := Tryz.underlying3
 a3 := Tryz.isAgg3
 z3 := Tryz.sizeOf3
 v3 := Tryz.zeroValue3
 t4 := Tryz.underlying4
 a4 := Tryz.isAgg4
 z4 := Tryz.sizeOf4
 v4 := Tryz.zeroValue4
 t5 := Tryz.underlying5
 a5 := Tryz.isAgg5
 z5 := Tryz.sizeOf5
 v5 := Tryz.zeroValue5
 t9 := Tryz.underlying9
 a9 := Tryz.isAgg9
 z9 := Tryz.sizeOf9
 v9 := Tryz.zeroValue9
 t20 := Tryz.underlying20
 a20 := Tryz.isAgg20
 z20 := Tryz.sizeOf20
 v20 := Tryz.zeroValue20
 t37 := Tryz.underlying163
 a37 := Tryz.isAgg163
 z37 := Tryz.sizeOf163
 v37 := Tryz.zeroValue163
 t46 := Tryz.underlying210
 a46 := Tryz.isAgg210
 z46 := Tryz.sizeOf210
 v46 := Tryz.zeroValue210
 t51 := Tryz.underlying228
 a51 := Tryz.isAgg228
 z51 := Tryz.sizeOf228
 v51 := Tryz.zeroValue228
 t53 := Tryz.underlying244
 a53 := Tryz.isAgg244
 z53 := Tryz.sizeOf244
 v53 := Tryz.zeroValue244
 t171 := Tryz.underlying243
 a171 := Tryz.isAgg243
 z171 := Tryz.sizeOf243
 v171 := Tryz.zeroValue243
 t173 := Tryz.underlying247
 a173 := Tryz.isAgg247
 z173 := Tryz.sizeOf247
 v173 := Tryz.zeroValue247
 t212 := Tryz.underlying261
 a212 := Tryz.isAgg261
 z212 := Tryz.sizeOf261
 v212 := Tryz.zeroValue261
 t213 := Tryz.underlying262
 a213 := Tryz.isAgg262
 z213 := Tryz.sizeOf262
 t232 := Tryz.underlying269
 a232 := Tryz.isAgg269
 z232 := Tryz.sizeOf269
 v232 := Tryz.zeroValue269
 t233 := Tryz.underlying270
 a233 := Tryz.isAgg270
 z233 := Tryz.sizeOf270
 v233 := Tryz.zeroValue270
 g17 := by kernel_rfl
 g18 := by kernel_rfl
 g19 := by kernel_rfl
 i0 := by kernel_rfl
 i2 := by kernel_rfl
 i3 := by kernel_rfl
 i4 := by kernel_rfl
 i5 := by kernel_rfl
 i9 := by kernel_rfl
 i20 := by kernel_rfl
 i37 := by kernel_rfl
 i46 := by kernel_rfl
 i51 := by kernel_rfl
 i53 := by kernel_rfl
 i171 := by kernel_rfl
 i173 := by kernel_rfl
 i212 := by kernel_rfl
 i232 := by kernel_rfl
 i233 := by kernel_rfl
 m17 := by kernel_rfl
 m18 := by kernel_rfl
 m19 := by kernel_rfl }
def Tryz.lays171_ren : Go.Shelf.Ren := ⟨fun | 171 => 145 | 243 => 177 | 246 => 204 | 283 => 222 | 284 => 223 | 285 => 224 | 286 => 225 | 129 => 232 | 317 => 231 | 318 => 233 | 319 => 234 | 320 => 235 | 337 => 238 | 338 => 239 | n => n, fun | 3 => 3 | 9 => 9 | 2 => 2 | 4 => 4 | 171 => 243 | 0 => 0 | 53 => 244 | 37 => 163 | 5 => 5 | 173 => 247 | 212 => 261 | 51 => 228 | 20 => 20 | 213 => 262 | 46 => 210 | 232 => 269 | 233 => 270 | n => n, fun | 17 => 7 | 18 => 8 | 19 => 9 | n => n⟩
theorem Tryz.lays171 : Go.Proofs.Lays.n171 Tryz.prog Tryz.lays171_ren := {
 mixed := by kernel_rfl
 f129 := Tryz.func232.trans (congrArg some (by kernel_rfl))
 f171 := Tryz.func145.trans (congrArg some (by kernel_rfl))
 f243 := Tryz.func177.trans (congrArg some (by kernel_rfl))
 f246 := Tryz.func204.trans (congrArg some (by kernel_rfl))
 f283 := Tryz.func222.trans (congrArg some (by kernel_rfl))
 f284 := Tryz.func223.trans (congrArg some (by kernel_rfl))
 f285 := Tryz.func224.trans (congrArg some (by kernel_rfl))
 f286 := Tryz.func225.trans (congrArg some (by kernel_rfl))
 f317 := Tryz.func231.trans (congrArg some (by kernel_rfl))
 f318 := Tryz.func233.trans (congrArg some (by kernel_rfl))
 f319 := Tryz.func234.trans (congrArg some (by kernel_rfl))
 f320 := Tryz.func235.trans (congrArg some (by kernel_rfl))
 f337 := Tryz.func238.trans (congrArg some (by kernel_rfl))
 f338 := Tryz.func239.trans (congrArg some (by kernel_rfl))
 t0 := Tryz.underlying0
 a0 := Tryz.isAgg0
 z0 := Tryz.sizeOf0
 v0 := Tryz.zeroValue0
 t2 := Tryz.underlying2
 a2 := Tryz.isAgg2
 z2 := Tryz.sizeOf2
 v2 := Tryz.zeroValue2
 t3 := Tryz.underlying3
 a3 := Tryz.isAgg3
 z3 := Tryz.sizeOf3
 v3 := Tryz.zeroValue3
 t4 := Tryz.underlying4
 a4 := Tryz.isAgg4
 z4 := Tryz.sizeOf4
 v4 := Tryz.zeroValue4
 t5 := Tryz.underlying5
 a5 := Tryz.isAgg5
 z5 := Tryz.sizeOf5
 v5 := Tryz.zeroValue5
 t9 := Tryz.underlying9
 a9 := Tryz.isAgg9
 z9 := Tryz.sizeOf9
 v9 := Tryz.zeroValue9
 t20 := Tryz.underlying20
 a20 := Tryz.isAgg20
 z20 := Tryz.sizeOf20
 v20 := Tryz.zeroValue20
 t37 := Tryz.underlying163
 a37 := Tryz.isAgg163
 z37 := Tryz.sizeOf163
 v37 := Tryz.zeroValue163
 t46 := Tryz.underlying210
 a46 := Tryz.isAgg210
 z46 := Tryz.sizeOf210
 v46 := Tryz.zeroValue210
 t51 := Tryz.underlying228
 a51 := Tryz.isAgg228
 z51 := Tryz.sizeOf228
 v51 := Tryz.zeroValue228
 t53 := Tryz.underlying244
 a53 := Tryz.isAgg244
 z53 := Tryz.sizeOf244
 v53 := Tryz.zeroValue244
 t171 := Tryz.underlying243
 a171 := Tryz.isAgg243
 z171 := Tryz.sizeOf243
 v171 := Tryz.zeroValue243
 t173 := Tryz.underlying247
 a173 := Tryz.isAgg247
 z173 := Tryz.sizeOf247
 v173 := Tryz.zeroValue247
 t212 := Tryz.underlying261
 a212 := Tryz.isAgg261
 z212 := Tryz.sizeOf261
 v212 := Tryz.zeroValue261
 t213 := Tryz.underlying262
 a213 := Tryz.isAgg262
 z213 := Tryz.sizeOf262
 t232 := Tryz.underlying269
 a232 := Tryz.isAgg269
 z232 := Tryz.sizeOf269
 v232 := Tryz.zeroValue269
 t233 := Tryz.underlying270
 a233 := Tryz.isAgg270
 z233 := Tryz.sizeOf270
 v233 := Tryz.zeroValue270
 g17 := by kernel_rfl
 g18 := by kernel_rfl
 g19 := by kernel_rfl }
open Go.RowKit Go.Sort Go.Lib in
theorem Tryz.strconv_Itoa_small (i : Nat) (hi : i < 100) (w : World) :
  Calls Tryz.prog 145 #[.int .i64 i] w fun e w' => e = .returned (.string ⟨(Lib.decDigits i).toArray⟩) ∧ w' = w := Any.strconv_Itoa_small Tryz.lays171 i hi w
def Tryz.laysC172_ren : Go.Shelf.Ren := ⟨fun | 172 => 149 | 244 => 184 | 245 => 185 | 247 => 208 | 279 => 209 | 280 => 210 | 281 => 211 | 282 => 212 | 287 => 226 | 316 => 227 | 171 => 145 | 205 => 228 | 321 => 236 | 322 => 237 | 243 => 177 | 246 => 204 | 283 => 222 | 284 => 223 | 285 => 224 | 286 => 225 | 129 => 232 | 317 => 231 | 318 => 233 | 319 => 234 | 320 => 235 | 337 => 238 | 338 => 239 | n => n, fun | 9 => 9 | 3 => 3 | 75 => 178 | 76 => 179 | 4 => 4 | 5 => 5 | 167 => 231 | 37 => 163 | 0 => 0 | 85 => 232 | 2 => 2 | 168 => 234 | 53 => 244 | 175 => 249 | 46 => 210 | 210 => 253 | 127 => 205 | 145 => 267 | 143 => 265 | 21 => 21 | 171 => 243 | 173 => 247 | 212 => 261 | 51 => 228 | 20 => 20 | 213 => 262 | 232 => 269 | 233 => 270 | 80 => 181 | n => n, fun | 15 => 3 | 16 => 4 | 17 => 7 | 18 => 8 | 19 => 9 | n => n⟩
theorem Tryz.laysC172 : Go.Proofs.LaysC.n172 Tryz.prog Tryz.laysC172_ren := {
 mixed := by kernel_rfl
 f129 := Tryz.func232.trans (congrArg some (by kernel_rfl))
 f171 := Tryz.func145.trans (congrArg some (by kernel_rfl))
 f172 := Tryz.func149.trans (congrArg some (by kernel_rfl))
 f205 := Tryz.func228.trans (congrArg some (by kernel_rfl))
 f243 := Tryz.func177.trans (congrArg some (by kernel_rfl))
 f244 := Tryz.func184.trans (congrArg some (by kernel_rfl))
 f245 := Tryz.func185.trans (congrArg some (by kernel_rfl))
 f246 := Tryz.func204.trans (congrArg some (by kernel_rfl))
 f247 := Tryz.func208.trans (congrArg some (by kernel_rfl))
 f279 := Tryz.func209.trans (congrArg some (by kernel_rfl))
 f280 := Tryz.func210.trans (congrArg some (by kernel_rfl))
 f281 := Tryz.func211.trans (congrArg some (by kernel_rfl))
 f282 := Tryz.func212.trans (congrArg some (by kernel_rfl))
 f283 := Tryz.func222.trans (congrArg some (by kernel_rfl))
 f284 := Tryz.func223.trans (congrArg some (by kernel_rfl))
 f285 := Tryz.func224.trans (congrArg some (by kernel_rfl))
 f286 := Tryz.func225.trans (congrArg some (by kernel_rfl))
 f287 := Tryz.func226.trans (congrArg some (by kernel_rfl))
 f316 := Tryz.func227.trans (congrArg some (by kernel_rfl))
 f317 := Tryz.func231.trans (congrArg some (by kernel_rfl))
 f318 := Tryz.func233.trans (congrArg some (by kernel_rfl))
 f319 := Tryz.func234.trans (congrArg some (by kernel_rfl))
 f320 := Tryz.func235.trans (congrArg some (by kernel_rfl))
 f321 := Tryz.func236.trans (congrArg some (by kernel_rfl))
 f322 := Tryz.func237.trans (congrArg some (by kernel_rfl))
 f337 := Tryz.func238.trans (congrArg some (by kernel_rfl))
 f338 := Tryz.func239.trans (congrArg some (by kernel_rfl))
 t0 := Tryz.underlying0
 a0 := Tryz.isAgg0
 z0 := Tryz.sizeOf0
 v0 := Tryz.zeroValue0
 t2 := Tryz.underlying2
 a2 := Tryz.isAgg2
 z2 := Tryz.sizeOf2
 v2 := Tryz.zeroValue2
 t3 := Tryz.underlying3
 a3 := Tryz.isAgg3
 z3 := Tryz.sizeOf3
 v3 := Tryz.zeroValue3
 t4 := Tryz.underlying4
 a4 := Tryz.isAgg4
 z4 := Tryz.sizeOf4
 v4 := Tryz.zeroValue4
 t5 := Tryz.underlying5
 a5 := Tryz.isAgg5
 z5 := Tryz.sizeOf5
 v5 := Tryz.zeroValue5
 t9 := Tryz.underlying9
 a9 := Tryz.isAgg9
 z9 := Tryz.sizeOf9
 v9 := Tryz.zeroValue9
 t20 := Tryz.underlying20
 a20 := Tryz.isAgg20
 z20 := Tryz.sizeOf20
 v20 := Tryz.zeroValue20
 t21 := Tryz.underlying21
 a21 := Tryz.isAgg21
 z21 := Tryz.sizeOf21
 v21 := Tryz.zeroValue21
 t37 := Tryz.underlying163
 a37 := Tryz.isAgg163
 z37 := Tryz.sizeOf163
 v37 := Tryz.zeroValue163
 t46 := Tryz.underlying210
 a46 := Tryz.isAgg210
 z46 := Tryz.sizeOf210
 v46 := Tryz.zeroValue210
 t51 := Tryz.underlying228
 a51 := Tryz.isAgg228
 z51 := Tryz.sizeOf228
 v51 := Tryz.zeroValue228
 t53 := Tryz.underlying244
 a53 := Tryz.isAgg244
 z53 := Tryz.sizeOf244
 v53 := Tryz.zeroValue244
 t75 := Tryz.underlying178
 a75 := Tryz.isAgg178
 z75 := Tryz.sizeOf178
 v75 := Tryz.zeroValue178
 t76 := Tryz.underlying179
 a76 := Tryz.isAgg179
 z76 := Tryz.sizeOf179
 v76 := Tryz.zeroValue179
 t85 := Tryz.underlying232
 a85 := Tryz.isAgg232
 z85 := Tryz.sizeOf232
 v85 := Tryz.zeroValue232
 t127 := Tryz.underlying205
 a127 := Tryz.isAgg205
 z127 := Tryz.sizeOf205
 v127 := Tryz.zeroValue205
 t143 := Tryz.underlying265
 a143 := Tryz.isAgg265
 z143 := Tryz.sizeOf265
 v143 := Tryz.zeroValue265
 t145 := Tryz.underlying267
 a145 := Tryz.isAgg267
 z145 := Tryz.sizeOf267
 v145 := Tryz.zeroValue267
 t167 := Tryz.underlying231
 a167 := Tryz.isAgg231
 z167 := Tryz.sizeOf231
 v167 := Tryz.zeroValue231
 t168 := Tryz.underlying234
 a168 := Tryz.isAgg234
 z168 := Tryz.sizeOf234
 v168 := Tryz.zeroValue234
 t171 := Tryz.underlying243
 a171 := Tryz.isAgg243
 z171 := Tryz.sizeOf243
 v171 := Tryz.zeroValue243
 t173 := Tryz.underlying247
 a173 := Tryz.isAgg247
 z173 := Tryz.sizeOf247
 v173 := Tryz.zeroValue247
 t175 := Tryz.underlying249
 a175 := Tryz.isAgg249
 z175 := Tryz.sizeOf249
 v175 := Tryz.zeroValue249
 t210 := Tryz.underlying253
 a210 := Tryz.isAgg253
 z210 := Tryz.sizeOf253
 v210 := Tryz.zeroValue253
 t212 := Tryz.underlying261
 a212 := Tryz.isAgg261
 z212 := Tryz.sizeOf261
 v212 := Tryz.zeroValue261
 t213 := Tryz.underlying262
 a213 := Tryz.isAgg262
 z213 := Tryz.sizeOf262
 t232 := Tryz.underlying269
 a232 := Tryz.isAgg269
 z232 := Tryz.sizeOf269
 v232 := Tryz.zeroValue269
 t233 := Tryz.underlying270
 a233 := Tryz.isAgg270
 z233 := Tryz.sizeOf270
 v233 := Tryz.zeroValue270
 g15 := by kernel_rfl
 g16 := by kernel_rfl
 g17 := by kernel_rfl
 g18 := by kernel_rfl
 g19 := by kernel_rfl
 t80 := Tryz.underlying181
 a80 := Tryz.isAgg181
 z80 := Tryz.sizeOf181
 v80 := Tryz.zeroValue181
 i0 := by kernel_rfl
 i2 := by kernel_rfl
 i3 := by kernel_rfl
 i4 := by kernel_rfl
 i5 := by kernel_rfl
 i9 := by kernel_rfl
 i20 := by kernel_rfl
 i21 := by kernel_rfl
 i37 := by kernel_rfl
 i46 := by kernel_rfl
 i51 := by kernel_rfl
 i53 := by kernel_rfl
 i75 := by kernel_rfl
 i76 := by kernel_rfl
 i80 := by kernel_rfl
 i85 := by kernel_rfl
 i127 := by kernel_rfl
 i143 := by kernel_rfl
 i145 := by kernel_rfl
 i167 := by kernel_rfl
 i168 := by kernel_rfl
 i171 := by kernel_rfl
 i173 := by kernel_rfl
 i175 := by kernel_rfl
 i210 := by kernel_rfl
 i212 := by kernel_rfl
 i232 := by kernel_rfl
 i233 := by kernel_rfl
 m15 := by kernel_rfl
 m16 := by kernel_rfl
 m17 := by kernel_rfl
 m18 := by kernel_rfl
 m19 := by kernel_rfl
 c0 := by kernel_rfl
 c2 := by kernel_rfl
 c3 := by kernel_rfl
 c4 := by kernel_rfl
 c5 := by kernel_rfl
 c9 := by kernel_rfl
 c20 := by kernel_rfl
 c21 := by kernel_rfl
 c37 := by kernel_rfl
 c46 := by kernel_rfl
 c51 := by kernel_rfl
 c53 := by kernel_rfl
 c75 := by kernel_rfl
 c76 := by kernel_rfl
 c80 := by kernel_rfl
 c85 := by kernel_rfl
 c127 := by kernel_rfl
 c143 := by kernel_rfl
 c145 := by kernel_rfl
 c167 := by kernel_rfl
 c168 := by kernel_rfl
 c171 := by kernel_rfl
 c173 := by kernel_rfl
 c175 := by kernel_rfl
 c210 := by kernel_rfl
 c212 := by kernel_rfl
 c213 := by kernel_rfl
 c232 := by kernel_rfl
 c233 := by kernel_rfl }
open Go.RowKit in
theorem Tryz.strconv_Atoi_err (s : ByteArray) (hl : s.size ≤ 18) (h : Lib.atoi s.data.toList = none) (ev : Value) (w : World) (hv : w.cell? ⟨3, 0, none⟩ = some ev) (hev : ev = .nilIface ∨ ∃ te pe, ev = .iface te pe) :
  Calls Tryz.prog 149 #[.string s] w fun e w' => ∃ N, e = .returned (.tuple #[.int .i64 0, .iface 234 (.pointer (some ⟨N, 0, none⟩))]) ∧ w.heap.size ≤ N ∧ w'.heap[N]? = some (.cells #[.string ⟨#[65, 116, 111, 105]⟩, .string s, ev] 253 (0, 0)) ∧ Below w.heap.size w w' := Any.strconv_Atoi_err Tryz.laysC172 s hl h ev w hv hev
def Tryz.lays145_ren : Go.Shelf.Ren := ⟨fun | 145 => 47 | 220 => 96 | 219 => 148 | 217 => 180 | 225 => 181 | 224 => 182 | 267 => 183 | 266 => 206 | 314 => 207 | n => n, fun | 9 => 9 | 4 => 4 | 59 => 83 | 3 => 3 | 5 => 5 | 46 => 210 | 146 => 229 | 51 => 228 | n => n, fun | 1 => 2 | n => n⟩
theorem Tryz.lays145 : Go.Proofs.Lays.n145 Tryz.prog Tryz.lays145_ren := {
 mixed := by kernel_rfl
 f145 := Tryz.func47.trans (congrArg some (by kernel_rfl))
 f217 := Tryz.func180.trans (congrArg some (by kernel_rfl))
 f219 := Tryz.func148.trans (congrArg some (by kernel_rfl))
 f220 := Tryz.func96.trans (congrArg some (by kernel_rfl))
 f224 := Tryz.func182.trans (congrArg some (by kernel_rfl))
 f225 := Tryz.func181.trans (congrArg some (by kernel_rfl))
 f266 := Tryz.func206.trans (congrArg some (by kernel_rfl))
 f267 := Tryz.func183.trans (congrArg some (by kernel_rfl))
 f314 := Tryz.func207.trans (congrArg some (by kernel_rfl))
 t3 := Tryz.underlying3
 a3 := Tryz.isAgg3
 z3 := Tryz.sizeOf3
 v3 := Tryz.zeroValue3
 t4 := Tryz.underlying4
 a4 := Tryz.isAgg4
 z4 := Tryz.sizeOf4
 v4 := Tryz.zeroValue4
 t5 := Tryz.underlying5
 a5 := Tryz.isAgg5
 z5 := Tryz.sizeOf5
 v5 := Tryz.zeroValue5
 t9 := Tryz.underlying9
 a9 := Tryz.isAgg9
 z9 := Tryz.sizeOf9
 v9 := Tryz.zeroValue9
 t46 := Tryz.underlying210
 a46 := Tryz.isAgg210
 z46 := Tryz.sizeOf210
 v46 := Tryz.zeroValue210
 t51 := Tryz.underlying228
 a51 := Tryz.isAgg228
 z51 := Tryz.sizeOf228
 v51 := Tryz.zeroValue228
 t59 := Tryz.underlying83
 a59 := Tryz.isAgg83
 z59 := Tryz.sizeOf83
 v59 := Tryz.zeroValue83
 t146 := Tryz.underlying229
 a146 := Tryz.isAgg229
 z146 := Tryz.sizeOf229
 v146 := Tryz.zeroValue229
 g1 := by kernel_rfl }
open Go.RowKit Go.Lib in
theorem Tryz.strings_Cut (s sep : ByteArray) (m : Int) (w : World) (hs : s.size < 4294967281) (hm : w.cell? ⟨2, 0, none⟩ = some (.int .i64 m)) :
  Calls Tryz.prog 47 #[.string s, .string sep] w fun e w' => e = .returned (.tuple #[.string ⟨(Lib.cut s.data.toList sep.data.toList).1.toArray⟩, .string ⟨(Lib.cut s.data.toList sep.data.toList).2.1.toArray⟩, .bool (Lib.cut s.data.toList sep.data.toList).2.2]) ∧ ∃ n, w' = w.drewN n := Any.strings_Cut Tryz.lays145 s sep m w hs hm
def Tryz.lays146_ren : Go.Shelf.Ren := ⟨fun | 146 => 49 | 221 => 100 | 268 => 151 | 138 => 152 | 143 => 153 | 195 => 187 | 197 => 188 | 218 => 189 | 219 => 148 | 260 => 213 | 217 => 180 | 225 => 181 | 224 => 182 | 267 => 183 | 266 => 206 | 314 => 207 | n => n, fun | 9 => 9 | 31 => 24 | 3 => 3 | 4 => 4 | 0 => 0 | 105 => 213 | 21 => 21 | 5 => 5 | 46 => 210 | 119 => 255 | 139 => 258 | 138 => 257 | 146 => 229 | 51 => 228 | n => n, fun | 1 => 2 | 3 => 5 | 4 => 6 | n => n⟩
theorem Tryz.lays146 : Go.Proofs.Lays.n146 Tryz.prog Tryz.lays146_ren := {
 mixed := by kernel_rfl
 f138 := Tryz.func152.trans (congrArg some (by kernel_rfl))
 f143 := Tryz.func153.trans (congrArg some (by kernel_rfl))
 f146 := Tryz.func49.trans (congrArg some (by kernel_rfl))
 f195 := Tryz.func187.trans (congrArg some (by kernel_rfl))
 f197 := Tryz.func188.trans (congrArg some (by kernel_rfl))
 f217 := Tryz.func180.trans (congrArg some (by kernel_rfl))
 f218 := Tryz.func189.trans (congrArg some (by kernel_rfl))
 f219 := Tryz.func148.trans (congrArg some (by kernel_rfl))
 f221 := Tryz.func100.trans (congrArg some (by kernel_rfl))
 f224 := Tryz.func182.trans (congrArg some (by kernel_rfl))
 f225 := Tryz.func181.trans (congrArg some (by kernel_rfl))
 f260 := Tryz.func213.trans (congrArg some (by kernel_rfl))
 f266 := Tryz.func206.trans (congrArg some (by kernel_rfl))
 f267 := Tryz.func183.trans (congrArg some (by kernel_rfl))
 f268 := Tryz.func151.trans (congrArg some (by kernel_rfl))
 f314 := Tryz.func207.trans (congrArg some (by kernel_rfl))
 t0 := Tryz.underlying0
 a0 := Tryz.isAgg0
 z0 := Tryz.sizeOf0
 v0 := Tryz.zeroValue0
 t3 := Tryz.underlying3
 a3 := Tryz.isAgg3
 z3 := Tryz.sizeOf3
 v3 := Tryz.zeroValue3
 t4 := Tryz.underlying4
 a4 := Tryz.isAgg4
 z4 := Tryz.sizeOf4
 v4 := Tryz.zeroValue4
 t5 := Tryz.underlying5
 a5 := Tryz.isAgg5
 z5 := Tryz.sizeOf5
 v5 := Tryz.zeroValue5
 t9 := Tryz.underlying9
 a9 := Tryz.isAgg9
 z9 := Tryz.sizeOf9
 v9 := Tryz.zeroValue9
 t21 := Tryz.underlying21
 a21 := Tryz.isAgg21
 z21 := Tryz.sizeOf21
 v21 := Tryz.zeroValue21
 t31 := Tryz.underlying24
 a31 := Tryz.isAgg24
 z31 := Tryz.sizeOf24
 v31 := Tryz.zeroValue24
 t46 := Tryz.underlying210
 a46 := Tryz.isAgg210
 z46 := Tryz.sizeOf210
 v46 := Tryz.zeroValue210
 t51 := Tryz.underlying228
 a51 := Tryz.isAgg228
 z51 := Tryz.sizeOf228
 v51 := Tryz.zeroValue228
 t105 := Tryz.underlying213
 a105 := Tryz.isAgg213
 z105 := Tryz.sizeOf213
 v105 := Tryz.zeroValue213
 t119 := Tryz.underlying255
 a119 := Tryz.isAgg255
 z119 := Tryz.sizeOf255
 t138 := Tryz.underlying257
 a138 := Tryz.isAgg257
 z138 := Tryz.sizeOf257
 v138 := Tryz.zeroValue257
 t139 := Tryz.underlying258
 a139 := Tryz.isAgg258
 z139 := Tryz.sizeOf258
 v139 := Tryz.zeroValue258
 t146 := Tryz.underlying229
 a146 := Tryz.isAgg229
 z146 := Tryz.sizeOf229
 v146 := Tryz.zeroValue229
 g1 := by kernel_rfl
 g3 := by kernel_rfl
 g4 := by kernel_rfl }
open Go.RowKit Go.Lib in
theorem Tryz.strings_Split (s sep : ByteArray) (m : Int) (w : World) (hs : s.size < 4294967281) (hm : w.cell? ⟨2, 0, none⟩ = some (.int .i64 m)) (h1 : 1 ≤ sep.size) :
  Calls Tryz.prog 49 #[.string s, .string sep] w fun e w' =>
   e = .returned (.slice (some ⟨w.heap.size, 0, none⟩) (Lib.countB s sep + 1) (Lib.countB s sep + 1)) ∧ w' = w.alloc (.cells ((Lib.splitB sep 0 (Lib.countB s sep) s).map Value.string).toArray 9) := Any.strings_Split Tryz.lays146 (by kernel_rfl) s sep m w hs hm h1
end Go.Proofs
/- Contracts: numbers and versions, written and read. -/
namespace Go.Proofs.YtjmakbnblpjkhaaGreatDoor
open Go.RowKit Go
variable [GC]
def bs (l : List UInt8) : ByteArray := ⟨l.toArray⟩
@[simp] theorem bs_toList (l : List UInt8) : (bs l).data.toList = l := by simp [bs]
theorem bs_data (s : ByteArray) : bs s.data.toList = s := by simp [bs]
@[simp] theorem bs_size (l : List UInt8) : (bs l).size = l.length := by simp [bs, ByteArray.size]
theorem bs_inj {l m : List UInt8} (h : bs l = bs m) : l = m := by have := congrArg (fun s : ByteArray => s.data.toList) h; simpa using this
@[simp] theorem bs_eq (l m : List UInt8) : bs l = bs m ↔ l = m := ⟨bs_inj, fun h => by rw [h]⟩
theorem bs_append (l m : List UInt8) : bs l ++ bs m = bs (l ++ m) := by
 apply ByteArray.ext
 simp [bs]
class HasPow : Prop where
 h : ∀ w : World, GInv w → GHas w 7 fun cs => cs = (Lib.pow10Tab.map fun z => Value.int .u64 z).toArray
class HasMax : Prop where
 h : ∀ w : World, GInv w → GHas w 2 fun cs => ∃ m, cs[0]? = some (Value.int .i64 m)
class HasErr : Prop where
 h : ∀ w : World, GInv w → GHas w 3 fun cs => ∃ tp p, cs = #[.iface tp p]
theorem GHas.cell {w : World} {g : Nat} {p : Array Value → Prop} (h : GHas w g p) : ∃ cs, p cs ∧ ∀ i : Nat, w.cell? ⟨g, i, none⟩ = cs[i]? := by
 obtain ⟨cs, t, f, h1, h2⟩ := h
 exact ⟨cs, h2, fun i => by simp [World.cell?, h1]⟩
theorem c_Itoa_small {n : Nat} (h : n < 100) : Fun Tryz.prog 145 none [.int .i64 n] (.str (bs (dig3 n))) [] := by
 refine Fun.of_callsG (by kernel_rfl) fun w M vs hG hr => ?_
 obtain ⟨v, q, rfl, ⟨rfl, _⟩, rfl⟩ := hr
 refine (Tryz.strconv_Itoa_small n h w).mono ?_
 rintro e w' ⟨rfl, rfl⟩
 have hl := dig3_le (n := n) (by omega)
 exact ⟨_, rfl, ⟨by rw [dec3 (by omega)]; rfl, by rw [bs_size]; unfold maxLen; omega⟩, Below.refl _ _⟩
theorem c_Itoa [HasPow] {n : Nat} (h : n < 1000) : Fun Tryz.prog 145 none [.int .i64 n] (.str (bs (dig3 n))) [] := by
 refine Fun.of_callsG (by kernel_rfl) fun w M vs hG hr => ?_
 obtain ⟨v, q, rfl, ⟨rfl, _⟩, rfl⟩ := hr
 have c := Any.strconv_Itoa Tryz.laysM171 n (by omega) (by omega) w (by
  obtain ⟨cs, t, f, h1, rfl⟩ := HasPow.h w hG.2.1
  unfold Lib.TabIs World.var?
  rw [show Tryz.prog.globalNamed _ = some 7 by kernel_rfl]
  simp [h1])
 refine c.mono ?_
 rintro e w' ⟨rfl, k, os, rfl⟩
 have hl := dig3_le h
 refine ⟨_, rfl, ⟨?_, by rw [bs_size]; unfold maxLen; omega⟩, ?_⟩
 ·unfold Lib.itoa
  rw [if_neg (by omega), Int.toNat_natCast, dec3 h]; rfl
 ·exact ⟨rfl, rfl, rfl, by simp [Go.Sort.grow], fun j hj => by simp [Go.Sort.grow, Array.getElem?_append, hj]⟩
theorem c_impl_FormatNumber_small {n : Nat} (h : n < 100) : Fun Tryz.prog 91 none [.int .i64 n] (.str (bs (dig3 n))) [] := by
 refine Fun.ofV vc_impl_FormatNumber_ok ty_impl_FormatNumber_ok rfl ?_ (fun hfit => ?_)
 ·simp [ty_impl_FormatNumber, HasTys, HasVT, HasV1, HasTy]
 unfold vc_impl_FormatNumber
 ((first | refine den_call ?_ (c_Itoa_small h) (trivial) ?_ | refine den_callR ?_ (c_Itoa_small h) (trivial) ?_ | refine den_call ?_ (.ofR (c_Itoa_small h)) (trivial) ?_); (focus (simp only [VC.den, E.den, dEq, gsH_nil, and_true]; try exact rfl)); (simp only [cA]))
 exact den_ret rfl
theorem c_impl_FormatNumber [HasPow] {n : Nat} (h : n < 1000) : Fun Tryz.prog 91 none [.int .i64 n] (.str (bs (dig3 n))) [] := by
 refine Fun.ofV vc_impl_FormatNumber_ok ty_impl_FormatNumber_ok rfl ?_ (fun hfit => ?_)
 ·simp [ty_impl_FormatNumber, HasTys, HasVT, HasV1, HasTy]
 unfold vc_impl_FormatNumber
 ((first | refine den_call ?_ (c_Itoa h) (trivial) ?_ | refine den_callR ?_ (c_Itoa h) (trivial) ?_ | refine den_call ?_ (.ofR (c_Itoa h)) (trivial) ?_); (focus (simp only [VC.den, E.den, dEq, gsH_nil, and_true]; try exact rfl)); (simp only [cA]))
 exact den_ret rfl
theorem dig3_step {n : Nat} (h1 : ¬ n < 10) (h2 : n < 1000) : dig3 n = dig3 (n / 10) ++ [UInt8.ofNat (48 + n % 10)] := by
 rw [← dec3 h2, ← dec3 (n := n / 10) (by omega), Lib.decDigits, dif_neg h1]
theorem digit_den (n : Nat) : strOfNums [IntKind.u8.wrap (IntKind.i64.wrap (48 + (n : Int).tmod 10))] = bs [UInt8.ofNat (48 + n % 10)] := by
 have h1 : (n : Int).tmod 10 = ((n % 10 : Nat) : Int) := by rw [Int.tmod_eq_emod_of_nonneg (by omega)]; omega
 rw [h1, wrap_i64 (by omega) (by omega)]
 have h2 : IntKind.u8.wrap (48 + ((n % 10 : Nat) : Int)) = ((48 + n % 10 : Nat) : Int) := by
  simp only [IntKind.wrap, IntKind.bits, IntKind.signed]
  simp
  omega
 rw [h2]
 unfold strOfNums bs
 simp only [List.map_cons, List.map_nil, Int.toNat_natCast]
theorem quo_ten (n : Nat) (h : n < 1000) : arI .quo .i64 n 10 = ((n / 10 : Nat) : Int) := by
 simp only [arI]
 have h1 : (n : Int).tdiv 10 = ((n / 10 : Nat) : Int) := by rw [Int.tdiv_eq_ediv_of_nonneg (by omega)]; omega
 rw [h1, wrap_i64 (by omega) (by omega)]
theorem c_spec_FormatNumber : ∀ {n : Nat}, n < 1000 → Fun Tryz.prog 77 none [.int .i64 n] (.str (bs (dig3 n))) [] := by
 intro n
 induction n using Nat.strongRecOn with
 | ind n ih =>
  intro hn
  have hb : bytesD (.sl ([[D.int .u8 (IntKind.u8.wrap (arI .add .i64 48 (arI .rem .i64 (n : Int) 10)))]])) = bs [UInt8.ofNat (48 + n % 10)] := by
   rw [← digit_den]; rfl
  refine Fun.ofV vc_spec_FormatNumber_ok ty_spec_FormatNumber_ok rfl ?_ (fun hfit => ?_)
  ·simp [ty_spec_FormatNumber, HasTys, HasVT, HasV1, HasTy]
  unfold vc_spec_FormatNumber
  refine den_ite (fun h => ?_) (fun _ => ?_)
  ·simp [E.den, cmpI] at h
  refine den_ite (fun h => ?_) (fun _ => ?_)
  ·simp [E.den, cmpI] at h; omega
  refine den_cond (fun _ => rfl) ?_
  refine den_ite (fun h => ?_) (fun h => ?_)
  ·simp [E.den, cmpI] at h
   refine den_cond (fun _ => rfl) ?_
   refine den_call (xs := [.int .i64 ((n / 10 : Nat) : Int)]) ?_ (ih (n / 10) (by omega) (by omega)) trivial ?_
   ·simp [E.den, quo_ten n hn]
   refine den_cond (fun _ => ?_) (den_ret ?_)
   ·simp only [E.den, dEq, iEq, sEq]
    rw [hb, bs_size, bs_size]
    have := dig3_le (n := n / 10) (by omega)
    simp; unfold maxLen; omega
   ·simp only [E.den, dEq, iEq, sEq]
    rw [hb, bs_append, dig3_step (n := n) (by omega) hn]
  ·simp [E.den, cmpI] at h
   refine den_ret ?_
   simp only [E.den, dEq, iEq, sEq]
   rw [hb]
   have : dig3 n = [UInt8.ofNat (48 + n % 10)] := by unfold dig3; rw [if_pos (by omega)]; congr; omega
   rw [this]
def numI (s : ByteArray) : Int := match numO s.data.toList with | some n => n | none => 0
def numK (s : ByteArray) : Bool := (numO s.data.toList).isSome
def numD (s : ByteArray) : D := .tup [.int .i64 (numI s), .bool (numK s)]
theorem ty_numD (s : ByteArray) : HasVT tbl.tab (.tup [.c (.int .i64), .c .bool]) (numD s) := ⟨rfl, trivial, trivial⟩
theorem numI_some {s : ByteArray} {n : Nat} (h : numO s.data.toList = some n) : numI s = n := by unfold numI; rw [h]
theorem numK_some {s : ByteArray} {n : Nat} (h : numO s.data.toList = some n) : numK s = true := by unfold numK; rw [h]; rfl
theorem numI_none {s : ByteArray} (h : numO s.data.toList = none) : numI s = 0 := by unfold numI; rw [h]
theorem numK_none {s : ByteArray} (h : numO s.data.toList = none) : numK s = false := by unfold numK; rw [h]; rfl
theorem numI_dig {n : Nat} (h : n < 1000) : numI (bs (dig3 n)) = n := numI_some (by rw [bs_toList]; exact numO_dig h)
theorem numK_dig {n : Nat} (h : n < 1000) : numK (bs (dig3 n)) = true := numK_some (by rw [bs_toList]; exact numO_dig h)
theorem numK_true {s : ByteArray} (h : numK s = true) : ∃ n : Nat, n < 1000 ∧ s = bs (dig3 n) ∧ numI s = n := by
 unfold numK at h
 obtain ⟨n, hn⟩ := Option.isSome_iff_exists.1 h
 obtain ⟨h1, h2⟩ := numO_some.1 hn
 exact ⟨n, h1, by rw [h2, bs_data], numI_some hn⟩
theorem atoi_num {l : List UInt8} {n : Nat} (h : numO l = some n) : Lib.atoi l = some (n : Int) := by
 obtain ⟨h1, rfl⟩ := numO_some.1 h
 exact dig3_atoi h1
theorem size_data (s : ByteArray) : s.data.toList.length = s.size := Array.length_toList
theorem bytes_below {w w' : World} {e : TypeId} {t : ByteArray} (h : w' = Lib.bytesWorld w e t) : Below w.heap.size w w' := by
 subst h
 exact Lib.bytesWorld_below _ _ _
theorem R_num {w : World} {M : Addr → Prop} {n : Int} {b : Bool} (h0 : -9223372036854775808 ≤ n) (h1 : n ≤ 9223372036854775807) : R w M (.tup [.int .i64 n, .bool b]) (.tuple #[.int .i64 n, .bool b]) :=
 ⟨_, rfl, _, _, rfl, ⟨rfl, h0, h1⟩, _, _, rfl, rfl, rfl⟩
theorem R_num0 {w : World} {M : Addr → Prop} {s : ByteArray} (h : numO s.data.toList = none) : R w M (numD s) (.tuple #[.int .i64 0, .bool false]) := by
 unfold numD; rw [numI_none h, numK_none h]; exact R_num (by omega) (by omega)
theorem R_num1 {w : World} {M : Addr → Prop} {s : ByteArray} {n : Nat} (h : numO s.data.toList = some n) : R w M (numD s) (.tuple #[.int .i64 n, .bool true]) := by
 have := (numO_some.1 h).1
 unfold numD; rw [numI_some h, numK_some h]; exact R_num (by omega) (by omega)
theorem c_impl_ParseNumber [HasPow] [HasErr] (s : ByteArray) : Fun Tryz.prog 97 none [.str s] (numD s) [] := by
 refine Fun.of_callsG (by kernel_rfl) fun w M vs hG hr => ?_
 obtain ⟨v, q, rfl, ⟨rfl, hsm⟩, rfl⟩ := hr
 have hM := hG.1
 have no0 := fun W (h : numO s.data.toList = none) => R_num0 (w := W) (M := M) h
 by_cases hl : 1 ≤ s.size ∧ s.size ≤ 3
 ·have a1 : ((s.size : Int) < 1) = False := by simp; omega
  have a2 : ((s.size : Int) > 3) = False := by simp; omega
  cases ha : Lib.atoi s.data.toList with
  | none =>
   have hn : numO s.data.toList = none := by
    cases h : numO s.data.toList with
    | none => rfl
    | some n => rw [atoi_num h] at ha; cases ha
   obtain ⟨cs, ⟨tp, p, rfl⟩, hc⟩ := (HasErr.h w hG.2.1).cell
   have hv := hc 0
   simp at hv
   have HC := Lib.hid (fun W (hW : W = w) => Tryz.strconv_Atoi_err s (by omega) ha (.iface tp p) W (by rw [hW]; exact hv) (Or.inr ⟨tp, p, rfl⟩))
   have HN := Lib.hid hn
   clear hv hc ha hn
   go_enter Tryz.func97, Tryz.ntmps97
   go_wp2_with (go_at_call 149; refine (HC.out _ rfl).mono ?_; rintro e w1 ⟨N0, rfl, hb0, hb1, hb⟩)
   go_ret2
   exact ⟨_, rfl, no0 _ HN.out, hb⟩
  | some z =>
   have HC := Lib.hid (fun W => Tryz.strconv_Atoi s z (by omega) ha W)
   by_cases hz : 0 ≤ z ∧ z ≤ 999
   ·obtain ⟨n, rfl⟩ := Int.eq_ofNat_of_zero_le hz.1
    have hn : n < 1000 := by omega
    have b1 : (0 : Int) ≤ (n : Int) := by omega
    have b2 : (n : Int) ≤ 999 := by omega
    have HF := Lib.hid (fun (w0 : World) (hb : Below w.heap.size w w0) => (c_impl_FormatNumber hn).2 w0 M 0 [.int .i64 n] (hG.below hb fun p hp => Nat.lt_of_lt_of_le (hM p hp) hb.size) (Rs.one ⟨rfl, by show (-9223372036854775808 : Int) ≤ n; omega, by show (n : Int) ≤ 9223372036854775807; omega⟩) (fun cs h => by cases h))
    have hne : ((bs (dig3 n)).toList == s.toList) = decide (numO s.data.toList = some n) := by
     rw [toList_eqB]
     by_cases h : numO s.data.toList = some n
     ·have := (numO_some.1 h).2
      simp [h, this, bs_data]
     ·have : bs (dig3 n) ≠ s := fun e => h (by rw [← e, bs_toList]; exact numO_dig hn)
      simp [h, this]
    by_cases hq : numO s.data.toList = some n
    ·have HQ := Lib.hid hq
     have e1 : ((bs (dig3 n)).toList == s.toList) = true := by rw [hne]; simp [hq]
     clear hne hq ha
     go_enter Tryz.func97, Tryz.ntmps97
     go_wp2_with (first | (go_at_call 149; refine (HC.out _).mono ?_; rintro e w1 ⟨rfl, t1, hb1⟩; replace hb1 := bytes_below hb1) | (go_at_call 91; refine (HF.out _ (by go_grown)).mono ?_; rintro e w2 ⟨v2, rfl, ⟨rfl, -⟩, hb2, -⟩; replace hb2 := hb2.to_below) | go_in)
     go_ret2
     exact ⟨_, rfl, R_num1 HQ.out, bt hb1 hb2⟩
    ·have e1 : ((bs (dig3 n)).toList == s.toList) = false := by rw [hne]; simp [hq]
     have hno : numO s.data.toList = none := by
      cases h : numO s.data.toList with
      | none => rfl
      | some m =>
       have := atoi_num h
       rw [ha] at this
       have e : n = m := by have := Option.some.inj this; omega
       subst e
       exact absurd h hq
     have HN := Lib.hid hno
     clear hne hq ha hno
     go_enter Tryz.func97, Tryz.ntmps97
     go_wp2_with (first | (go_at_call 149; refine (HC.out _).mono ?_; rintro e w1 ⟨rfl, t1, hb1⟩; replace hb1 := bytes_below hb1) | (go_at_call 91; refine (HF.out _ (by go_grown)).mono ?_; rintro e w2 ⟨v2, rfl, ⟨rfl, -⟩, hb2, -⟩; replace hb2 := hb2.to_below) | go_in)
     go_ret2
     exact ⟨_, rfl, no0 _ HN.out, bt hb1 hb2⟩
   ·have hno : numO s.data.toList = none := by
     cases h : numO s.data.toList with
     | none => rfl
     | some m =>
      have h1 := (numO_some.1 h).1
      have := atoi_num h
      rw [ha] at this
      have e : z = (m : Int) := Option.some.inj this
      subst e
      exact absurd ⟨by omega, by omega⟩ hz
    have HN := Lib.hid hno
    have e1 : (decide (0 ≤ z) && decide (z ≤ 999)) = false := by
     rw [Bool.and_eq_false_iff]; simp; omega
    by_cases hz0 : 0 ≤ z
    ·have b2 : (z ≤ 999) = False := by simp; omega
     clear e1 hz hno ha
     go_enter Tryz.func97, Tryz.ntmps97
     go_wp2_with (first | (go_at_call 149; refine (HC.out _).mono ?_; rintro e w1 ⟨rfl, t1, hb1⟩; replace hb1 := bytes_below hb1) | go_in)
     go_ret2
     exact ⟨_, rfl, no0 _ HN.out, hb1⟩
    ·have b2 : (0 ≤ z) = False := by simp; omega
     clear e1 hz hno hz0 ha
     go_enter Tryz.func97, Tryz.ntmps97
     go_wp2_with (first | (go_at_call 149; refine (HC.out _).mono ?_; rintro e w1 ⟨rfl, t1, hb1⟩; replace hb1 := bytes_below hb1) | go_in)
     go_ret2
     exact ⟨_, rfl, no0 _ HN.out, hb1⟩
 ·have hno : numO s.data.toList = none := by
   cases h : numO s.data.toList with
   | none => rfl
   | some m =>
    obtain ⟨h1, h2⟩ := numO_some.1 h
    have h3 := dig3_pos h1
    have h4 := dig3_le h1
    rw [h2, size_data] at h3 h4
    exact absurd ⟨h3, h4⟩ hl
  have HN := Lib.hid hno
  clear hno
  by_cases h0 : s.size = 0
  ·have a1 : ((s.size : Int) < 1) = True := by simp; omega
   clear hl h0
   go_enter Tryz.func97, Tryz.ntmps97
   go_wp2_with fail
   go_ret2
   exact ⟨_, rfl, no0 _ HN.out, Below.refl _ _⟩
  ·have a1 : ((s.size : Int) < 1) = False := by simp; omega
   have a2 : ((s.size : Int) > 3) = True := by simp; omega
   clear hl h0
   go_enter Tryz.func97, Tryz.ntmps97
   go_wp2_with fail
   go_ret2
   exact ⟨_, rfl, no0 _ HN.out, Below.refl _ _⟩
def rdK (l : List UInt8) (k : Nat) : Int := (l.take k).foldl (fun n c => 10 * n + (c.toNat : Int) - 48) 0
def rdBnd : Nat → Int
 | 0 => 0
 | k + 1 => 10 * rdBnd k + 255
theorem rdK_succ {l : List UInt8} {k : Nat} (h : k < l.length) : rdK l (k + 1) = 10 * rdK l k + (l[k].toNat : Int) - 48 := by
 unfold rdK
 rw [List.take_add_one, List.getElem?_eq_getElem h, Option.toList_some, List.foldl_append]
 rfl
theorem rdK_bnd (l : List UInt8) : ∀ k, -rdBnd k ≤ rdK l k ∧ rdK l k ≤ rdBnd k
 | 0 => by simp [rdK, rdBnd]
 | k + 1 => by
  have ih := rdK_bnd l k
  rcases Nat.lt_or_ge k l.length with h | h
  ·rw [rdK_succ h]
   have := l[k].toNat_lt
   simp only [rdBnd]; omega
  ·have : rdK l (k + 1) = rdK l k := by unfold rdK; rw [List.take_of_length_le h, List.take_of_length_le (by omega)]
   rw [this]; simp only [rdBnd]; omega
theorem rdBnd_le : ∀ k, k ≤ 4 → rdBnd k ≤ 283305
 | 0, _ => by decide
 | 1, _ => by decide
 | 2, _ => by decide
 | 3, _ => by decide
 | 4, _ => by decide
 | k + 5, h => by omega
theorem rdK_four (l : List UInt8) {k : Nat} (h : k = 4 ∨ l.length ≤ k ∧ k ≤ 4) : rdK l k = rd4 l := by
 unfold rdK rd4
 rcases h with rfl | ⟨h1, h2⟩
 ·rfl
 ·rw [List.take_of_length_le h1, List.take_of_length_le (by omega)]
theorem at_num {s : ByteArray} {k : Nat} (h : k < s.data.toList.length) : ((s[k]?).map (fun (c : UInt8) => (c.toNat : Int))).getD 0 = ((s.data.toList[k]).toNat : Int) := by
 have h2 : k < s.size := by rw [size_data] at h; exact h
 rw [getElem?_pos s k h2]
 simp [ByteArray.getElem_eq_getElem_data]
theorem c_spec_ParseNumber (s : ByteArray) : Fun Tryz.prog 93 none [.str s] (numD s) [] := by
 refine Fun.ofV vc_spec_ParseNumber_ok ty_spec_ParseNumber_ok rfl ?_ (fun hfit => ?_)
 ·simp [ty_spec_ParseNumber, HasTys, HasVT, HasV1, HasTy]
 have hsm : s.size ≤ maxLen := by simp [FitsL, Fits] at hfit; exact hfit
 unfold vc_spec_ParseNumber
 refine den_for 4 (fun k => [.int .i64 (rdK s.data.toList k), .int .i64 k]) (fun k => k ≤ s.size) rfl (Nat.zero_le _) (fun k hk hI _ => ?_)
 have hb := rdK_bnd s.data.toList k
 have hB := rdBnd_le k hk
 refine den_ite (fun h => ?_) (fun h => ?_)
 ·simp only [E.den, dEq, iEq, sEq] at h
  simp at h
  obtain ⟨h1, h2⟩ := h
  have hlt : k < s.data.toList.length := by rw [size_data]; omega
  refine den_cond (fun _ => ?_) ?_
  ·simp only [E.den, dEq, iEq, sEq]; simp; omega
  refine den_next (by omega) ?_ (by omega)
  have hc := (s.data.toList[k]).toNat_lt
  simp only [E.den, dEq, iEq, sEq]
  rw [rdK_succ hlt]
  have hz : byteZ s k = ((s.data.toList[k]).toNat : Int) := at_num hlt
  simp only [arI, hz]
  rw [wrap_i64 (n := 10 * rdK s.data.toList k) (by omega) (by omega), wrap_i64 (n := (s.data.toList[k].toNat : Int)) (by omega) (by omega), wrap_i64 (n := 10 * rdK s.data.toList k + _) (by omega) (by omega), wrap_i64 (n := _ - 48) (by omega) (by omega), wrap_i64 (by omega) (by omega)]
  rfl
 ·simp only [E.den, dEq, iEq, sEq] at h
  simp at h
  have h4 : rdK s.data.toList k = rd4 s.data.toList := rdK_four _ (by rw [size_data]; omega)
  rw [h4] at hb ⊢
  refine den_callg (xs := [.int .i64 (rd4 s.data.toList)]) (r := .str (bs (dig3 (rd4 s.data.toList).toNat))) rfl (fun hg => ?_) trivial ?_
  ·simp only [gsH, List.mem_cons, List.not_mem_nil, or_false, forall_eq] at hg
   simp only [E.den, dEq, iEq, sEq] at hg
   simp at hg
   have e : rd4 s.data.toList = ((rd4 s.data.toList).toNat : Int) := by omega
   rw [e]
   exact c_spec_FormatNumber (by omega)
  refine den_ite (fun h => ?_) (fun h => ?_)
  ·simp only [E.den, dEq, iEq, sEq] at h
   refine den_ret ?_
   simp only [E.den, dEq, iEq, sEq]
   have hno : numO s.data.toList = none := by
    cases hq : numO s.data.toList with
    | none => rfl
    | some m =>
     exfalso
     obtain ⟨q1, q2⟩ := numO_some.1 hq
     have q3 := dig3_rd q1
     rw [q2] at q3
     have q4 := dig3_pos q1
     rw [q2, size_data] at q4
     have hs' : bs (dig3 m) = s := by rw [q2, bs_data]
     have hne : s ≠ ByteArray.empty := by rintro rfl; simp at q4
     rw [q3] at h
     simp [hs', hne] at h
     omega
   rw [numD, numI_none hno, numK_none hno]
  ·simp only [E.den, dEq, iEq, sEq] at h
   simp at h
   obtain ⟨⟨⟨h1, h2⟩, h3⟩, h5⟩ := h
   refine den_ret ?_
   simp only [E.den, dEq, iEq, sEq]
   have e : rd4 s.data.toList = ((rd4 s.data.toList).toNat : Int) := by omega
   have hs : dig3 (rd4 s.data.toList).toNat = s.data.toList := by
    have h7 := congrArg (fun x : ByteArray => x.data.toList) h5
    simpa using h7
   have hn := numO_some.2 ⟨(by omega : (rd4 s.data.toList).toNat < 1000), hs⟩
   rw [numD, numI_some hn, numK_some hn, ← e]
end Go.Proofs.YtjmakbnblpjkhaaGreatDoor
/- Plain functions on versions. No program in sight. -/
namespace Go.Proofs.YtjmakbnblpjkhaaGreatDoor
def isFaceB (f : Int) : Bool := decide (0 ≤ f) && decide (f ≤ 63)
theorem isFaceB_nat {f : Int} (h : isFaceB f = true) : ∃ n : Nat, f = n ∧ n < 64 := by
 unfold isFaceB at h; simp at h; exact ⟨f.toNat, by omega, by omega⟩
def cmpV (a b c d : Int) : Int := if a < c ∨ (a = c ∧ b < d) then -1 else if a = c ∧ b = d then 0 else 1
def sinceM : Nat → Int | 0 => 1 | 1 => 1 | 2 => 1 | 3 => 1 | 4 => 2 | 5 => 2 | _ => 0
def sinceN : Nat → Int | 0 => 0 | 1 => 0 | 2 => 1 | 3 => 2 | 4 => 0 | 5 => 1 | _ => 0
def allows (a b : Int) (k : Nat) : Bool := decide (cmpV (sinceM k) (sinceN k) a b ≤ 0)
end Go.Proofs.YtjmakbnblpjkhaaGreatDoor
/- Plain functions on faces. No program in sight. -/
namespace Go.Proofs.YtjmakbnblpjkhaaGreatDoor
end Go.Proofs.YtjmakbnblpjkhaaGreatDoor
/- Faces and versions: what the program and the reference compute. -/
namespace Go.Proofs.YtjmakbnblpjkhaaGreatDoor
open Go.RowKit Go
variable [GC]
theorem c_impl_IsVersion (v : Ver) : Fun Tryz.prog 109 none [enc v] (.bool v.ok) [] := by
 refine Fun.ofV vc_impl_IsVersion_ok ty_impl_IsVersion_ok rfl ?_ (fun hfit => ?_)
 ·simp [ty_impl_IsVersion, HasTys, HasVT, HasV1, enc, ty_Ver]
 simp only [vc_impl_IsVersion, VC.den, E.den, dEq, gsH_nil, and_true, cells_Ver]
 simp [cmpI, Ver.ok]
theorem c_impl_IsFace (f : Int) : Fun Tryz.prog 158 none [.int .i64 f] (.bool (isFaceB f)) [] := by
 refine Fun.ofV vc_impl_IsFace_ok ty_impl_IsFace_ok rfl ?_ (fun hfit => ?_)
 ·simp [ty_impl_IsFace, HasTys, HasVT, HasV1, HasTy]
 simp only [vc_impl_IsFace, VC.den, E.den, dEq, gsH_nil, and_true]
 simp [cmpI, isFaceB]
theorem allow_shl : ∀ k : Fin 6, arI .shl .i64 1 ((k : Nat) : Int) = ((2 ^ (k : Nat) : Nat) : Int) := by decide +kernel
theorem bit_of : ∀ n : Fin 64, ∀ k : Fin 6, cmpI .eql (arI .and .i64 (arI .shr .i64 ((n : Nat) : Int) ((k : Nat) : Int)) 1) 1 = n.val.testBit k.val := by decide +kernel
theorem bit_of2 : ∀ n : Fin 64, ∀ k : Fin 6, cmpI .eql (arI .rem .i64 (arI .shr .i64 ((n : Nat) : Int) ((k : Nat) : Int)) 2) 1 = n.val.testBit k.val := by decide +kernel
end Go.Proofs.YtjmakbnblpjkhaaGreatDoor
/- SinceOf of the program and of the reference. Nothing is assumed but what each theorem says. -/
namespace Go.Proofs.YtjmakbnblpjkhaaGreatDoor
open Go.RowKit
end Go.Proofs.YtjmakbnblpjkhaaGreatDoor
/- What faces a version allows: the program's and the reference's functions. -/
namespace Go.Proofs.YtjmakbnblpjkhaaGreatDoor
open Go.RowKit Go
variable [GC]
theorem c_spec_l2Has (m k : Nat) (hm : m < 64) (hk : k < 6) : Fun Tryz.prog 164 none [.int .i64 m, .int .i64 k] (.bool (m.testBit k)) [] := by
 refine Fun.ofV vc_spec_l2Has_ok ty_spec_l2Has_ok rfl ?_ (fun hfit => ?_)
 ·simp [ty_spec_l2Has, HasTys, HasVT, HasV1, HasTy]
 unfold vc_spec_l2Has
 refine den_cond (fun _ => ?_) (den_cond (fun _ => rfl) (den_ret ?_))
 ·simp [E.den, cmpI]
 have hb := bit_of2 ⟨m, hm⟩ ⟨k, hk⟩
 simp only at hb
 simp only [E.den, List.getD_cons_zero, List.getD_cons_succ, D.toI_int, hb]
theorem c_spec_IsFace' (f : Int) : Fun Tryz.prog 166 none [.int .i64 f] (.bool (isFaceB f)) [] := by
 refine Fun.ofV vc_spec_IsFace_ok ty_spec_IsFace_ok rfl ?_ (fun hfit => ?_)
 ·simp [ty_spec_IsFace, HasTys, HasVT, HasV1, HasTy]
 simp only [vc_spec_IsFace, VC.den, E.den, dEq, gsH_nil, and_true]
 simp [cmpI, isFaceB]
def offersB (a b : Int) : Bool := isFaceB a && isFaceB b && cmpI .eql (arI .andNot .i64 b a) 0
theorem c_impl_Offers (a b : Int) : Fun Tryz.prog 139 none [.int .i64 a, .int .i64 b] (.bool (offersB a b)) [] := by
 refine Fun.ofV vc_impl_Offers_ok ty_impl_Offers_ok rfl ?_ (fun hfit => ?_)
 ·simp [ty_impl_Offers, HasTys, HasVT, HasV1, HasTy]
 unfold vc_impl_Offers
 (apply den_call; (focus (simp only [VC.den, E.den, dEq, gsH_nil, and_true]; try exact rfl)); (focus (exact c_impl_IsFace a)); (focus (simp [HasTys, HasVT, HasV1, HasTy, RowTy, HasVs, enc])); (simp only [cA]))
 (apply den_call; (focus (simp only [VC.den, E.den, dEq, gsH_nil, and_true]; try exact rfl)); (focus (exact c_impl_IsFace b)); (focus (simp [HasTys, HasVT, HasV1, HasTy, RowTy, HasVs, enc])); (simp only [cA]))
 exact den_ret rfl
end Go.Proofs.YtjmakbnblpjkhaaGreatDoor
/- Contracts: versions as texts. -/
namespace Go.Proofs.YtjmakbnblpjkhaaGreatDoor
open Go.RowKit Go
variable [GC]
def verL (v : Ver) : List UInt8 := dig3 v.maj.toNat ++ (46 :: dig3 v.min.toNat)
def verS (v : Ver) : ByteArray := if v.ok then bs (verL v) else bs []
theorem Ver.nats {v : Ver} (h : v.ok = true) : ∃ a b : Nat, a < 100 ∧ b < 100 ∧ v = ⟨a, b⟩ := by
 unfold Ver.ok at h
 simp at h
 obtain ⟨a, b⟩ := v
 simp at h
 exact ⟨a.toNat, b.toNat, by omega, by omega, by simp; omega⟩
theorem dot_bs : (⟨#[46]⟩ : ByteArray) = bs [46] := rfl
theorem empty_bs : (⟨#[]⟩ : ByteArray) = bs [] := rfl
theorem verL_le {a b : Nat} (ha : a < 100) (hb : b < 100) : (verL ⟨a, b⟩).length ≤ 7 := by
 have h1 := dig3_le (n := a) (by omega)
 have h2 := dig3_le (n := b) (by omega)
 simp [verL]; omega
theorem c_impl_FormatVersion (v : Ver) : Fun Tryz.prog 112 none [enc v] (.str (verS v)) [] := by
 refine Fun.ofV vc_impl_FormatVersion_ok ty_impl_FormatVersion_ok rfl ?_ (fun hfit => ?_)
 ·simp [ty_impl_FormatVersion, HasTys, HasVT, HasV1, enc, ty_Ver]
 unfold vc_impl_FormatVersion
 ((first | refine den_call ?_ (c_impl_IsVersion v) (trivial) ?_ | refine den_callR ?_ (c_impl_IsVersion v) (trivial) ?_ | refine den_call ?_ (.ofR (c_impl_IsVersion v)) (trivial) ?_); (focus (simp only [VC.den, E.den, dEq, gsH_nil, and_true]; try exact rfl)); (simp only [cA]))
 refine den_ite (fun h => den_ret ?_) (fun h => ?_)
 ·simp [E.den] at h
  simp only [E.den, dEq, iEq, sEq]
  rw [verS, if_neg (by simp [h]), empty_bs]
 ·simp [E.den] at h
  obtain ⟨a, b, ha, hb, rfl⟩ := Ver.nats h
  have h1 := dig3_le (n := a) (by omega)
  have h2 := dig3_le (n := b) (by omega)
  ((first | refine den_call ?_ (c_impl_FormatNumber_small (n := a) (by omega)) (trivial) ?_ | refine den_callR ?_ (c_impl_FormatNumber_small (n := a) (by omega)) (trivial) ?_ | refine den_call ?_ (.ofR (c_impl_FormatNumber_small (n := a) (by omega))) (trivial) ?_); (focus (simp only [VC.den, E.den, dEq, gsH_nil, and_true, cells_Ver]; try exact rfl)); (simp only [cA]))
  refine den_cond (fun _ => ?_) ?_
  ·simp only [E.den, dEq, iEq, sEq]
   rw [dot_bs, bs_size, bs_size]; simp; unfold maxLen; omega
  ((first | refine den_call ?_ (c_impl_FormatNumber_small (n := b) (by omega)) (trivial) ?_ | refine den_callR ?_ (c_impl_FormatNumber_small (n := b) (by omega)) (trivial) ?_ | refine den_call ?_ (.ofR (c_impl_FormatNumber_small (n := b) (by omega))) (trivial) ?_); (focus (simp only [VC.den, E.den, dEq, gsH_nil, and_true, cells_Ver]; try exact rfl)); (simp only [cA]))
  refine den_cond (fun _ => ?_) (den_ret ?_)
  ·simp only [E.den, dEq, iEq, sEq]
   rw [dot_bs, bs_append, bs_size, bs_size]; simp; unfold maxLen; omega
  ·simp only [E.den, dEq, iEq, sEq]
   rw [dot_bs, bs_append, bs_append, verS, if_pos h]
   simp [verL]
theorem c_spec_FormatVersion (v : Ver) : Fun Tryz.prog 105 none [enc v] (.str (verS v)) [] := by
 refine Fun.ofV vc_spec_FormatVersion_ok ty_spec_FormatVersion_ok rfl ?_ (fun hfit => ?_)
 ·simp [ty_spec_FormatVersion, HasTys, HasVT, HasV1, enc, ty_Ver]
 unfold vc_spec_FormatVersion
 ((first | refine den_call ?_ (c_spec_IsVersion v) (trivial) ?_ | refine den_callR ?_ (c_spec_IsVersion v) (trivial) ?_ | refine den_call ?_ (.ofR (c_spec_IsVersion v)) (trivial) ?_); (focus (simp only [VC.den, E.den, dEq, gsH_nil, and_true]; try exact rfl)); (simp only [cA]))
 refine den_ite (fun h => den_ret ?_) (fun h => ?_)
 ·simp [E.den] at h
  simp only [E.den, dEq, iEq, sEq]
  rw [verS, if_neg (by simp [h]), empty_bs]
 ·simp [E.den] at h
  obtain ⟨a, b, ha, hb, rfl⟩ := Ver.nats h
  have h1 := dig3_le (n := a) (by omega)
  have h2 := dig3_le (n := b) (by omega)
  ((first | refine den_call ?_ (c_spec_FormatNumber (n := a) (by omega)) (trivial) ?_ | refine den_callR ?_ (c_spec_FormatNumber (n := a) (by omega)) (trivial) ?_ | refine den_call ?_ (.ofR (c_spec_FormatNumber (n := a) (by omega))) (trivial) ?_); (focus (simp only [VC.den, E.den, dEq, gsH_nil, and_true, cells_Ver]; try exact rfl)); (simp only [cA]))
  refine den_cond (fun _ => ?_) ?_
  ·simp only [E.den, dEq, iEq, sEq]
   rw [dot_bs, bs_size, bs_size]; simp; unfold maxLen; omega
  ((first | refine den_call ?_ (c_spec_FormatNumber (n := b) (by omega)) (trivial) ?_ | refine den_callR ?_ (c_spec_FormatNumber (n := b) (by omega)) (trivial) ?_ | refine den_call ?_ (.ofR (c_spec_FormatNumber (n := b) (by omega))) (trivial) ?_); (focus (simp only [VC.den, E.den, dEq, gsH_nil, and_true, cells_Ver]; try exact rfl)); (simp only [cA]))
  refine den_cond (fun _ => ?_) (den_ret ?_)
  ·simp only [E.den, dEq, iEq, sEq]
   rw [dot_bs, bs_append, bs_size, bs_size]; simp; unfold maxLen; omega
  ·simp only [E.den, dEq, iEq, sEq]
   rw [dot_bs, bs_append, bs_append, verS, if_pos h]
   simp [verL]
end Go.Proofs.YtjmakbnblpjkhaaGreatDoor
