/- FnExactParseEvent holds for every input, in every start where the variables hold what the program's text lays: the law walked over the contracts of what it calls, with marks written into the answer; the row; the card. -/
import Derived.Test.YtjmakbnblpjkhaaGreatDoorC17
import Derived.Test.YtjmakbnblpjkhaaGreatDoorC12
import Derived.Test.YtjmakbnblpjkhaaGreatDoorC18
namespace Go.Proofs.YtjmakbnblpjkhaaGreatDoor.lawFnExactParseEvent
open Go.ChangeShapes Go.WideShapes Go.ChangeAt Go.RowKit Go
set_option linter.unusedVariables false
set_option linter.unusedSimpArgs false
set_option maxRecDepth 100000
instance instGC : GC where
 inv := fun w => GHas w 3 (fun cs => ∃ tp p, cs = #[.iface tp p]) ∧ GHas w 2 (fun cs => ∃ m, cs[0]? = some (Value.int .i64 m)) ∧ GHas w 7 (fun cs => cs = (Lib.pow10Tab.map fun z => Value.int .u64 z).toArray) ∧ GHas w 0 (fun cs => cs = (words.map Value.string).toArray)
 ng := max (7 + 1) (0 + 1)
 keep := fun h k => ⟨k.1.keep (by decide) h, k.2.1.keep (by decide) h, k.2.2.1.keep (by decide) h, k.2.2.2.keep (by decide) h⟩
instance : HasErr := ⟨fun _ h => h.1⟩
instance : HasMax := ⟨fun _ h => h.2.1⟩
instance : HasPow := ⟨fun _ h => h.2.2.1⟩
instance : HasWords := ⟨fun _ h => h.2.2.2⟩
theorem start {W : World} (hsh : W.ShapedOpen Tryz.prog) (hL : laidMet Tryz.prog Rows.fnExactParseEventRow.laid W) : GInv W ∧ NG ≤ W.heap.size := by
 have h := seat_pow (by kernel_rfl) hL.tail.tail
 have h2 := seat_words (by kernel_rfl) hL.tail.tail.tail.tail.tail.tail
 exact ⟨⟨seat_err (by kernel_rfl) hL.tail.tail.tail.tail.tail, seat_max hsh, h, h2⟩, Nat.max_le.2 ⟨ghas_lt h, ghas_lt h2⟩⟩
structure Bx (w : World) (b : Nat) (cs : List Value) : Prop where
 lt : b < w.heap.size
 c : ∀ {i : Nat} {v : Value}, cs[i]? = some v → w.cell? ⟨b, i, none⟩ = some v
theorem Bx.new {w : World} {cs : List Value} {t : TypeId} : Bx (w.alloc (.cells cs.toArray t)) w.heap.size cs :=
 ⟨by simp, fun {i v} h => by
  unfold World.cell?
  have : (w.alloc (.cells cs.toArray t)).heap[w.heap.size]? = some (.cells cs.toArray t (0, 0)) := heap_alloc_new w _
  simp only [this]
  simpa using h⟩
theorem Bx.below {w w' : World} {b : Nat} {cs : List Value} (h : Bx w b cs) (hb : Below w.heap.size w w') : Bx w' b cs := ⟨Nat.lt_of_lt_of_le h.lt hb.size, fun hi => cell_keep hb (h.c hi)⟩
theorem Bx.alt {A : Addr → Prop} {w w' : World} {b : Nat} {cs : List Value} (h : Bx w b cs) (ha : Alt A w w') (hA : ∀ p, A p → p.block ≠ b) : Bx w' b cs := ⟨Nat.lt_of_lt_of_le h.lt ha.size, fun hi => ha.keep _ _ (h.c hi) fun hp => hA _ hp rfl⟩
theorem is_slice {w : World} {M : Addr → Prop} {rows : List (List D)} {v : Value} (h : R w M (.sl rows) v) : ∃ a l c, v = .slice a l c := by
 obtain ⟨a, l, c, rfl, _⟩ := h
 exact ⟨_, _, _, rfl⟩
theorem lit {w : World} {M : Addr → Prop} {E : Event} {v : Value} (h : R w M (enc E) v) : ∃ ua ul uc, v = .agg #[.int .i64 E.kind, .string E.name, .string E.call.method, .string E.call.key, .int .i64 E.call.val, .string E.call.text, .slice ua ul uc] := by
 obtain ⟨ar, rfl, y0, _, hc2, ⟨r01, r02⟩, y1, _, rfl, ⟨r11, r12⟩, y2, _, rfl, ⟨r21, r22⟩, y3, _, rfl, ⟨r31, r32⟩, y4, _, rfl, ⟨r41, r42⟩, y5, _, rfl, ⟨r51, r52⟩, y6, _, rfl, r6, hy⟩ := h
 have hy : _ = [] := hy
 subst hy
 have has : ar = #[y0, y1, y2, y3, y4, y5, y6] := by rw [← Array.toList_inj, hc2]
 subst has
 subst r01 r11 r21 r31 r41 r51
 obtain ⟨a, l, c, rfl⟩ := is_slice r6
 exact ⟨_, _, _, rfl⟩
theorem walk (s : ByteArray) (w : World) (hG : Rd w) (hml : s.size ≤ maxLen) : Calls Tryz.prog 4 #[.string s] w fun e w' => e = .returned (.bool true) ∧ Below w.heap.size w w' := by
 by_cases hbig : 1048576 < s.size
 ·have hb1 : (1048576 : Int) < (s.size : Int) := by omega
  go_enter Tryz.func4, Tryz.ntmps4
  go_wp2
  go_ret
  exact ⟨rfl, by go_grown⟩
 have hs : s.size ≤ 1048576 := by omega
 have hb1 : ¬ ((1048576 : Int) < (s.size : Int)) := by omega
 have hlen : (reV s).recipe.length ≤ 100000000 := re_len hs
 generalize hE : reV s = E at hlen
 obtain ⟨b, hB⟩ : ∃ b, reB s = b := ⟨_, rfl⟩
 have cSp : ∀ (w0 : World), Rd w0 → Calls Tryz.prog 11 #[.string s] w0 fun e w' => ∃ ua ul uc, e = .returned (.tuple #[.agg #[.int .i64 E.kind, .string E.name, .string E.call.method, .string E.call.key, .int .i64 E.call.val, .string E.call.text, .slice ua ul uc], .bool b]) ∧ R w' (fun _ => False) (enc E) (.agg #[.int .i64 E.kind, .string E.name, .string E.call.method, .string E.call.key, .int .i64 E.call.val, .string E.call.text, .slice ua ul uc]) ∧ Below w0.heap.size w0 w' := fun w0 h => by
  refine (Fun.calls (c_spec_ParseEvent s hs) h (vs := [.string s]) ⟨_, [], rfl, ⟨rfl, hml⟩, rfl⟩).mono ?_
  rintro e w' ⟨v, rfl, ⟨cs, rfl, x0, _, hc, h0, x1, _, rfl, h1, hx⟩, hb⟩
  have hx : _ = [] := hx
  subst hx
  have hcs : cs = #[x0, x1] := by rw [← Array.toList_inj, hc]
  subst hcs
  have h1 : x1 = .bool (reB s) := h1
  subst h1
  rw [hB]
  rw [hE] at h0
  obtain ⟨ua, ul, uc, rfl⟩ := lit h0
  exact ⟨ua, ul, uc, rfl, h0, hb⟩
 have cIm : ∀ (w0 : World), Rd w0 → _ := fun w0 h => event_calls (ds := [.str s]) (e := E) (b := b) (w := w0) (by rw [← hE, ← hB]; exact cR_impl_ParseEvent s hs) h (vs := [.string s]) ⟨_, [], rfl, ⟨rfl, hml⟩, rfl⟩
 have cEq : ∀ (w0 : World) (x y : Value), Rd w0 → R w0 (fun _ => False) (enc E) x → R w0 (fun _ => False) (enc E) y → Calls Tryz.prog 13 #[x, y] w0 fun e w' => e = .returned (.bool true) ∧ Below w0.heap.size w0 w' := fun w0 x y hg h h' => by
  refine (Fun.calls (c_laws_eqEvent E E) hg (vs := [x, y]) ⟨_, _, rfl, h, _, [], rfl, h', rfl⟩).mono ?_
  rintro e w' ⟨u, rfl, hu, hb⟩
  have hu : u = .bool (decide (E = E)) := hu
  rw [hu]
  exact ⟨by simp, hb⟩
 have hbb : (b != b) = false := by simp
 obtain ⟨K, hK⟩ : ∃ K, 1 + E.recipe.length = K := ⟨_, rfl⟩
 have hKp : 0 ≤ (K : Int) := by omega
 have hKn : ¬ ((K : Int) < 0) := by omega
 have HSp := Lib.hid cSp
 have HIm := Lib.hid cIm
 have HEq := Lib.hid cEq
 have HK := Lib.hid hK
 have HL := Lib.hid hlen
 have HG := Lib.hid hG
 clear cSp cIm cEq hK hlen hG hE hB hbig hml
 go_enter Tryz.func4, Tryz.ntmps4
 go_wp2_with fail
 refine (HSp.out _ (HG.out.below (by go_grown))).mono ?_
 rintro e w1 ⟨ua, ul, uc, rfl, hu1, hb1'⟩
 have HU1 := Lib.hid hu1.over
 have HB1 := Lib.hid (show Below w.heap.size w w1 from bt (by go_grown) hb1')
 have HG1 := Lib.hid (HG.out.below HB1.out)
 have hs1 := HB1.out.size
 have hng := HG1.out.2.2
 clear hu1 hb1'
 go_wp2_with fail
 refine (HIm.out _ (HG1.out.below (by go_grown))).mono ?_
 rintro e w2 ⟨y6, rfl, hz, hr2, hb2⟩
 obtain ⟨a6, l6, c6, rfl⟩ := is_slice (hz _ (Nat.le_refl _)).1
 have hB2 : Below w1.heap.size w1 w2 := bt (by go_grown) hb2
 have HU2 := Lib.hid (up_keep HU1.out hB2)
 have HB2 := Lib.hid (bt HB1.out hB2)
 have HG2 := Lib.hid (HG1.out.below hB2)
 have HZ := Lib.hid hz
 have HR2 := Lib.hid hr2
 have HX2 := Lib.hid (Bx.below Bx.new hb2)
 have hs12 : w1.heap.size < w2.heap.size := by have := hb2.size; simp only [World.size_alloc] at this; omega
 clear hz hr2 hb2 hB2
 have fx0 : w2.cell? ⟨w1.heap.size, 0, none⟩ = some (.int .i64 E.kind) := HX2.out.c (i := 0) rfl
 have fx1 : w2.cell? ⟨w1.heap.size, 1, none⟩ = some (.string E.name) := HX2.out.c (i := 1) rfl
 have fx2 : w2.cell? ⟨w1.heap.size, 2, none⟩ = some (.string E.call.method) := HX2.out.c (i := 2) rfl
 have fx3 : w2.cell? ⟨w1.heap.size, 3, none⟩ = some (.string E.call.key) := HX2.out.c (i := 3) rfl
 have fx4 : w2.cell? ⟨w1.heap.size, 4, none⟩ = some (.int .i64 E.call.val) := HX2.out.c (i := 4) rfl
 have fx5 : w2.cell? ⟨w1.heap.size, 5, none⟩ = some (.string E.call.text) := HX2.out.c (i := 5) rfl
 have fx6 : w2.cell? ⟨w1.heap.size, 6, none⟩ = some (.slice ua ul uc) := HX2.out.c (i := 6) rfl
 go_wp2_with fail
 refine (HEq.out _ _ _ (HG2.out.below (by go_grown)) (R.keep (Keeps.below (by go_grown) fun _ _ h => h) _ _ HR2.out) (R.keep (Keeps.below (by go_grown) fun _ _ h => h) _ _ HU2.out.zero)).mono ?_
 rintro e w3 ⟨rfl, hb3⟩
 clear fx0 fx1 fx2 fx3 fx4 fx5 fx6
 have hB3 : Below w2.heap.size w2 w3 := bt (by go_grown) hb3
 have HU3 := Lib.hid (up_keep HU2.out hB3)
 have HB3 := Lib.hid (bt HB2.out hB3)
 have HG3 := Lib.hid (HG2.out.below hB3)
 have HX3 := Lib.hid (Bx.below HX2.out hB3)
 have HY3 := Lib.hid (Bx.below Bx.new hb3)
 have hs3 : w2.heap.size < w3.heap.size := by have := hb3.size; simp only [World.size_alloc] at this; omega
 obtain ⟨h6, q6, q6'⟩ := HZ.out (w3.heap.size + 1) (by omega)
 have hm := m_Event E.recipe (.int .i64 E.kind) (.string E.name) (.string E.call.method) (.string E.call.key) (.int .i64 E.call.val) (.string E.call.text) (.slice a6 l6 c6) 1 (w3.heap.size + 1) w3 (nb_keep h6 hB3) (by simp only [World.size_alloc] at q6; omega) (by omega) HG3.out (by have := HL.out; omega)
 rw [HK.out] at hm
 have HM := Lib.hid hm
 have HA := Lib.hid (show ∀ p : Addr, p.block = blkOf (.slice a6 l6 c6) (w3.heap.size + 1) → w1.heap.size ≤ p.block ∧ p.block ≠ w1.heap.size ∧ p.block ≠ w2.heap.size from fun p hp => by
  simp only [World.size_alloc] at q6
  rw [hp]; omega)
 clear hm h6 q6 q6'
 clear hb3 hB3
 have fy0 : w3.cell? ⟨w2.heap.size, 0, none⟩ = some (.int .i64 E.kind) := HY3.out.c (i := 0) rfl
 have fy1 : w3.cell? ⟨w2.heap.size, 1, none⟩ = some (.string E.name) := HY3.out.c (i := 1) rfl
 have fy2 : w3.cell? ⟨w2.heap.size, 2, none⟩ = some (.string E.call.method) := HY3.out.c (i := 2) rfl
 have fy3 : w3.cell? ⟨w2.heap.size, 3, none⟩ = some (.string E.call.key) := HY3.out.c (i := 3) rfl
 have fy4 : w3.cell? ⟨w2.heap.size, 4, none⟩ = some (.int .i64 E.call.val) := HY3.out.c (i := 4) rfl
 have fy5 : w3.cell? ⟨w2.heap.size, 5, none⟩ = some (.string E.call.text) := HY3.out.c (i := 5) rfl
 have fy6 : w3.cell? ⟨w2.heap.size, 6, none⟩ = some ((.slice a6 l6 c6)) := HY3.out.c (i := 6) rfl
 go_wp2_with fail
 refine HM.out.mono ?_
 rintro e w4 ⟨rfl, ha4, hr1⟩
 clear fy0 fy1 fy2 fy3 fy4 fy5 fy6
 have HU4 := Lib.hid (up_alt HU3.out ha4 fun p hp => (HA.out p hp).1)
 have HB4 := Lib.hid (show Below w.heap.size w w4 from by
  have h1 := HB3.out
  have h2 : Below w.heap.size w3 w4 := ha4.to_below h1.size fun p hp => Nat.le_trans hs1 (HA.out p hp).1
  exact ⟨h2.os.trans h1.os, h2.tape.trans h1.tape, h2.output.trans h1.output, Nat.le_trans h1.size h2.size, fun k hk => (h2.block k hk).trans (h1.block k hk)⟩)
 have HG4 := Lib.hid (HG3.out.alt ha4 fun p hp => Nat.le_trans hng (HA.out p hp).1)
 have HX4 := Lib.hid (Bx.alt HX3.out ha4 fun p hp => (HA.out p hp).2.1)
 have HY4 := Lib.hid (Bx.alt HY3.out ha4 fun p hp => (HA.out p hp).2.2)
 have hs4 := ha4.size
 have HR4 := Lib.hid (show R w4 (fun _ => False) (.sl (mS 1 E.recipe E.recipe.length)) (.slice a6 l6 c6) from hr1)
 clear ha4 hr1
 obtain ⟨cs2, ecs2, hrs2⟩ := HR2.out
 cases ecs2
 obtain ⟨_, _, e0, z0, _, _, e1, z1, _, _, e2, z2, _, _, e3, z3, _, _, e4, z4, _, _, e5, z5, _, _, e6, _, e7⟩ := hrs2
 cases e0
 cases e1
 cases e2
 cases e3
 cases e4
 cases e5
 cases e6
 have HAG : ∀ (w0 : World), (R w0 (fun _ => False) (.sl (mS 1 E.recipe E.recipe.length)) (.slice a6 l6 c6)) → R w0 (fun _ => False) (.agg [.int .i64 E.kind, .str E.name, .str E.call.method, .str E.call.key, .int .i64 E.call.val, .str E.call.text, .sl (mS 1 E.recipe E.recipe.length)]) (.agg #[.int .i64 E.kind, .string E.name, .string E.call.method, .string E.call.key, .int .i64 E.call.val, .string E.call.text, (.slice a6 l6 c6)]) := fun w0 h => ⟨_, rfl, _, _, rfl, z0, _, _, rfl, z1, _, _, rfl, z2, _, _, rfl, z3, _, _, rfl, z4, _, _, rfl, z5, _, _, rfl, h, rfl⟩
 have cHe : ∀ (w0 : World), Rd w0 → (R w0 (fun _ => False) (.sl (mS 1 E.recipe E.recipe.length)) (.slice a6 l6 c6)) → Calls Tryz.prog 15 #[.agg #[.int .i64 E.kind, .string E.name, .string E.call.method, .string E.call.key, .int .i64 E.call.val, .string E.call.text, (.slice a6 l6 c6)], .int .i64 1] w0 fun e w' => e = .returned (.int .i64 (K : Int)) ∧ Below w0.heap.size w0 w' := fun w0 hg h => by
  refine (Fun.calls (c_heldEvent E.kind E.name E.call.method E.call.key E.call.val E.call.text E.recipe 1 (by have := HL.out; omega)) hg (vs := [.agg #[.int .i64 E.kind, .string E.name, .string E.call.method, .string E.call.key, .int .i64 E.call.val, .string E.call.text, (.slice a6 l6 c6)], .int .i64 1]) ⟨_, _, rfl, HAG w0 h, _, [], rfl, int_ok (by omega) (by omega), rfl⟩).mono ?_
  rintro e w' ⟨u, rfl, hu, hb⟩
  rw [HK.out] at hu
  exact ⟨by rw [hu.1], hb⟩
 have keepR : ∀ (w0 w' : World), (R w0 (fun _ => False) (.sl (mS 1 E.recipe E.recipe.length)) (.slice a6 l6 c6)) → Below w0.heap.size w0 w' → (R w' (fun _ => False) (.sl (mS 1 E.recipe E.recipe.length)) (.slice a6 l6 c6)) := fun w0 w' h hb => R.keep (Keeps.below hb fun _ _ h => h) _ _ h
 have HHe := Lib.hid cHe
 have HKe := Lib.hid keepR
 clear cHe HAG keepR
 have fy0 : w4.cell? ⟨w2.heap.size, 0, none⟩ = some (.int .i64 E.kind) := HY4.out.c (i := 0) rfl
 have fy1 : w4.cell? ⟨w2.heap.size, 1, none⟩ = some (.string E.name) := HY4.out.c (i := 1) rfl
 have fy2 : w4.cell? ⟨w2.heap.size, 2, none⟩ = some (.string E.call.method) := HY4.out.c (i := 2) rfl
 have fy3 : w4.cell? ⟨w2.heap.size, 3, none⟩ = some (.string E.call.key) := HY4.out.c (i := 3) rfl
 have fy4 : w4.cell? ⟨w2.heap.size, 4, none⟩ = some (.int .i64 E.call.val) := HY4.out.c (i := 4) rfl
 have fy5 : w4.cell? ⟨w2.heap.size, 5, none⟩ = some (.string E.call.text) := HY4.out.c (i := 5) rfl
 have fy6 : w4.cell? ⟨w2.heap.size, 6, none⟩ = some ((.slice a6 l6 c6)) := HY4.out.c (i := 6) rfl
 go_wp2_with fail
 refine (HHe.out _ HG4.out HR4.out).mono ?_
 rintro e w5 ⟨rfl, hb5⟩
 clear fy0 fy1 fy2 fy3 fy4 fy5 fy6
 have HR5 := Lib.hid (HKe.out _ _ HR4.out hb5)
 have HU5 := Lib.hid (up_keep HU4.out hb5)
 have HB5 := Lib.hid (bt HB4.out hb5)
 have HG5 := Lib.hid (HG4.out.below hb5)
 have HX5 := Lib.hid (Bx.below HX4.out hb5)
 have HY5 := Lib.hid (Bx.below HY4.out hb5)
 have hs5 := hb5.size
 clear hb5
 go_wp2_with fail
 refine (HIm.out _ HG5.out).mono ?_
 rintro e w6 ⟨x6, rfl, hz6, hr6, hb6⟩
 obtain ⟨a7, l7, c7, rfl⟩ := is_slice (hz6 _ (Nat.le_refl _)).1
 clear hz6
 have HR6 := Lib.hid (HKe.out _ _ HR5.out hb6)
 have HU6 := Lib.hid (up_keep HU5.out hb6)
 have HB6 := Lib.hid (bt HB5.out hb6)
 have HG6 := Lib.hid (HG5.out.below hb6)
 have HX6 := Lib.hid (Bx.below HX5.out hb6)
 have HY6 := Lib.hid (Bx.below HY5.out hb6)
 have HH6 := Lib.hid hr6
 have hs6 := hb6.size
 have hl1 : w1.heap.size < w6.heap.size := by omega
 have hl2 : w2.heap.size < w6.heap.size := by omega
 clear hb6 hr6
 have fx0 : w6.cell? ⟨w1.heap.size, 0, none⟩ = some (.int .i64 E.kind) := HX6.out.c (i := 0) rfl
 have fx1 : w6.cell? ⟨w1.heap.size, 1, none⟩ = some (.string E.name) := HX6.out.c (i := 1) rfl
 have fx2 : w6.cell? ⟨w1.heap.size, 2, none⟩ = some (.string E.call.method) := HX6.out.c (i := 2) rfl
 have fx3 : w6.cell? ⟨w1.heap.size, 3, none⟩ = some (.string E.call.key) := HX6.out.c (i := 3) rfl
 have fx4 : w6.cell? ⟨w1.heap.size, 4, none⟩ = some (.int .i64 E.call.val) := HX6.out.c (i := 4) rfl
 have fx5 : w6.cell? ⟨w1.heap.size, 5, none⟩ = some (.string E.call.text) := HX6.out.c (i := 5) rfl
 have fx6 : w6.cell? ⟨w1.heap.size, 6, none⟩ = some (.slice ua ul uc) := HX6.out.c (i := 6) rfl
 go_wp2_with fail
 refine (HEq.out _ _ _ (HG6.out.below (by go_grown)) (R.keep (Keeps.below (by go_grown) fun _ _ h => h) _ _ HH6.out) (R.keep (Keeps.below (by go_grown) fun _ _ h => h) _ _ HU6.out.zero)).mono ?_
 rintro e w7 ⟨rfl, hb7⟩
 clear fx0 fx1 fx2 fx3 fx4 fx5 fx6
 have hB7 : Below w6.heap.size w6 w7 := bt (by go_grown) hb7
 have HR7 := Lib.hid (HKe.out _ _ HR6.out hB7)
 have HB7 := Lib.hid (bt HB6.out hB7)
 have HG7 := Lib.hid (HG6.out.below hB7)
 have HY7 := Lib.hid (Bx.below HY6.out hB7)
 clear hb7 hB7
 have fy0 : w7.cell? ⟨w2.heap.size, 0, none⟩ = some (.int .i64 E.kind) := HY7.out.c (i := 0) rfl
 have fy1 : w7.cell? ⟨w2.heap.size, 1, none⟩ = some (.string E.name) := HY7.out.c (i := 1) rfl
 have fy2 : w7.cell? ⟨w2.heap.size, 2, none⟩ = some (.string E.call.method) := HY7.out.c (i := 2) rfl
 have fy3 : w7.cell? ⟨w2.heap.size, 3, none⟩ = some (.string E.call.key) := HY7.out.c (i := 3) rfl
 have fy4 : w7.cell? ⟨w2.heap.size, 4, none⟩ = some (.int .i64 E.call.val) := HY7.out.c (i := 4) rfl
 have fy5 : w7.cell? ⟨w2.heap.size, 5, none⟩ = some (.string E.call.text) := HY7.out.c (i := 5) rfl
 have fy6 : w7.cell? ⟨w2.heap.size, 6, none⟩ = some ((.slice a6 l6 c6)) := HY7.out.c (i := 6) rfl
 go_wp2_with fail
 refine (HHe.out _ HG7.out HR7.out).mono ?_
 rintro e w8 ⟨rfl, hb8⟩
 have HB8 := Lib.hid (bt HB7.out hb8)
 clear hb8
 go_wp2
 go_ret
 exact ⟨rfl, HB8.out⟩
theorem main (ds : List D) (h : HasTys tbl.tab ty_laws_FnExactParseEvent ds) : Fun Tryz.prog 4 none ds (.bool true) [] := by
 obtain ⟨s, rfl⟩ : ∃ s : ByteArray, ds = [.str s] := by
  match ds, h with
  | [d0], h =>
   obtain ⟨s, rfl⟩ := hasTy_str h.1
   exact ⟨s, rfl⟩
 refine Fun.of_callsG (by kernel_rfl) fun w M vs hG hr => ?_
 obtain ⟨v, q, rfl, ⟨rfl, hv⟩, rfl⟩ := hr
 refine (walk s w ⟨fun _ h => h.elim, hG.2.1, hG.2.2⟩ hv).mono ?_
 rintro e w' ⟨rfl, hb⟩
 exact ⟨_, rfl, rfl, hb⟩

set_option maxRecDepth 100000
theorem jf_wf : (Rows.fnExactParseEventRow.wf (OpenSpec.ofChange Rows.fnExactParseEventSpec)) = true := by kernel_rfl
theorem jf_reads : (Tryz.f4.params.all (Tryz.prog.readableRec ·)) = true := by kernel_rfl
theorem jf_tie : (namedTie Tryz.prog Rows.fnExactParseEventRow.named Rows.fnExactParseEventSpec.vars) = true := by kernel_rfl
theorem jf_inPl : ((Rows.fnExactParseEventRow.inPlace == Tryz.prog.inPlace 4)) = true := by kernel_rfl
theorem jf_unfol : ((Rows.fnExactParseEventRow.unfollowed == Tryz.prog.unfollowed 4)) = true := by kernel_rfl
theorem jf_recur : ((Rows.fnExactParseEventRow.recurses == Tryz.prog.recurses 4)) = true := by kernel_rfl
theorem jf_varsN : ((Rows.fnExactParseEventRow.named == Tryz.prog.varsNamed 4)) = true := by kernel_rfl
theorem jf_maps : ((Rows.fnExactParseEventRow.maps == (Tryz.f4.params.toList ++ Rows.fnExactParseEventSpec.plain.varTypes Tryz.prog).any (Tryz.prog.mapsRec ·))) = true := by kernel_rfl
theorem jf_ifaces : ((Rows.fnExactParseEventRow.ifaces == (Tryz.f4.params.toList ++ Rows.fnExactParseEventSpec.plain.varTypes Tryz.prog).any (Tryz.prog.ifacesRec ·))) = true := by kernel_rfl
theorem jf_mapsO : ((Rows.fnExactParseEventRow.mapsOut == Tryz.prog.mapsAmong Tryz.f4.resultTypes.toList)) = true := by kernel_rfl
theorem jf_loops : ((Rows.fnExactParseEventRow.loops == (Tryz.f4.params.toList ++ Rows.fnExactParseEventSpec.plain.varTypes Tryz.prog).any (Tryz.prog.loopsFrom ·))) = true := by kernel_rfl
theorem jf_wide : ((Rows.fnExactParseEventRow.wideKeys == (Tryz.f4.params.toList ++ Rows.fnExactParseEventSpec.plain.varTypes Tryz.prog ++ Tryz.f4.resultTypes.toList).any (Tryz.prog.wideKeysFrom ·))) = true := by kernel_rfl
theorem jf_varR : (Rows.fnExactParseEventSpec.vars.all (Tryz.prog.varReadable ·)) = true := by kernel_rfl
theorem jf_resT : (Tryz.f4.resultTypes.all (fun t => Tryz.prog.readableRec t && decide (t < Tryz.prog.types.size))) = true := by kernel_rfl
theorem jf_ifO : ((Rows.fnExactParseEventRow.ifacesOut == Tryz.f4.resultTypes.toList.any (Tryz.prog.ifacesRec ·))) = true := by kernel_rfl
theorem jf_loO : ((Rows.fnExactParseEventRow.loopsOut == Tryz.f4.resultTypes.toList.any (Tryz.prog.loopsFrom ·))) = true := by kernel_rfl
theorem jf_kinds : ((Rows.fnExactParseEventRow.kinds == (if Rows.fnExactParseEventRow.domain.isEmpty then [] else Tryz.f4.params.toList.map fun t => match Tryz.prog.underlying t with | some (.int k) => some k | _ => none))) = true := by kernel_rfl
theorem jf_veil : ((Rows.fnExactParseEventRow.veiled == (Tryz.f4.params.toList ++ Rows.fnExactParseEventSpec.plain.varTypes Tryz.prog ++ Tryz.f4.resultTypes.toList).any (Tryz.prog.veiledRec ·))) = true := by kernel_rfl
theorem jf_veilF : (Rows.fnExactParseEventRow.veiledFits Tryz.prog Tryz.f4.params.toList (Tryz.f4.params.toList ++ Rows.fnExactParseEventSpec.plain.varTypes Tryz.prog ++ Tryz.f4.resultTypes.toList)) = true := by kernel_rfl
theorem closed : joinedFacts Tryz.prog 4 Tryz.f4 Rows.fnExactParseEventSpec Rows.fnExactParseEventRow = true :=
 (and_tt (and_tt (and_tt (and_tt (and_tt (and_tt (and_tt (and_tt (and_tt (and_tt (and_tt (and_tt (and_tt (and_tt (and_tt (and_tt (and_tt (and_tt (and_tt (and_tt (and_tt (and_tt (and_tt (and_tt (and_tt (and_tt (and_tt (and_tt (and_tt (and_tt (and_tt jf_wf jfLaid) jfRowed) jf_reads) jf_tie) rfl) jfStops) rfl) jfKnobs) jf_inPl) jf_unfol) jf_recur) jf_varsN) jf_maps) jf_ifaces) jf_mapsO) jf_loops) jf_wide) jf_varR) jf_resT) jf_ifO) jf_loO) jfKeys) rfl) jfHeard) jfEnter) jfLifted) jfMake) jf_kinds) rfl) jf_veil) jf_veilF)
noncomputable def low : Nat := (World.holding Tryz.prog default ⟨#[], #[], []⟩).heap.size
noncomputable def laidWorld (os : Os) : World :=
 let w0 := World.holding Tryz.prog os ⟨#[.cells #[.string ⟨#[118, 97, 108, 117, 101, 32, 111, 117, 116, 32, 111, 102, 32, 114, 97, 110, 103, 101]⟩] 267, .cells #[.string ⟨#[105, 110, 118, 97, 108, 105, 100, 32, 115, 121, 110, 116, 97, 120]⟩] 267], #[], []⟩
 { w0 with heap := w0.heap
  |>.modify 8 (fun | .cells _ t f => .cells #[.int .u8 0, .int .u8 1, .int .u8 28, .int .u8 2, .int .u8 29, .int .u8 14, .int .u8 24, .int .u8 3, .int .u8 30, .int .u8 22, .int .u8 20, .int .u8 15, .int .u8 25, .int .u8 17, .int .u8 4, .int .u8 8, .int .u8 31, .int .u8 27, .int .u8 13, .int .u8 23, .int .u8 21, .int .u8 19, .int .u8 16, .int .u8 7, .int .u8 26, .int .u8 12, .int .u8 18, .int .u8 6, .int .u8 11, .int .u8 5, .int .u8 10, .int .u8 9] t f | o => o)
  |>.modify 9 (fun | .cells _ t f => .cells #[.int .u8 0, .int .u8 1, .int .u8 56, .int .u8 2, .int .u8 57, .int .u8 49, .int .u8 28, .int .u8 3, .int .u8 61, .int .u8 58, .int .u8 42, .int .u8 50, .int .u8 38, .int .u8 29, .int .u8 17, .int .u8 4, .int .u8 62, .int .u8 47, .int .u8 59, .int .u8 36, .int .u8 45, .int .u8 43, .int .u8 51, .int .u8 22, .int .u8 53, .int .u8 39, .int .u8 33, .int .u8 30, .int .u8 24, .int .u8 18, .int .u8 12, .int .u8 5, .int .u8 63, .int .u8 55, .int .u8 48, .int .u8 27, .int .u8 60, .int .u8 41, .int .u8 37, .int .u8 16, .int .u8 46, .int .u8 35, .int .u8 44, .int .u8 21, .int .u8 52, .int .u8 32, .int .u8 23, .int .u8 11, .int .u8 54, .int .u8 26, .int .u8 40, .int .u8 15, .int .u8 34, .int .u8 20, .int .u8 31, .int .u8 10, .int .u8 25, .int .u8 14, .int .u8 19, .int .u8 9, .int .u8 13, .int .u8 8, .int .u8 7, .int .u8 6] t f | o => o)
  |>.modify 7 (fun | .cells _ t f => .cells #[.int .u64 1, .int .u64 10, .int .u64 100, .int .u64 1000, .int .u64 10000, .int .u64 100000, .int .u64 1000000, .int .u64 10000000, .int .u64 100000000, .int .u64 1000000000, .int .u64 10000000000, .int .u64 100000000000, .int .u64 1000000000000, .int .u64 10000000000000, .int .u64 100000000000000, .int .u64 1000000000000000, .int .u64 10000000000000000, .int .u64 100000000000000000, .int .u64 1000000000000000000, .int .u64 10000000000000000000] t f | o => o)
  |>.modify 6 (fun | .cells _ t f => .cells #[.int .u8 128, .int .u8 191, .int .u8 160, .int .u8 191, .int .u8 128, .int .u8 159, .int .u8 144, .int .u8 191, .int .u8 128, .int .u8 143, .int .u8 0, .int .u8 0, .int .u8 0, .int .u8 0, .int .u8 0, .int .u8 0, .int .u8 0, .int .u8 0, .int .u8 0, .int .u8 0, .int .u8 0, .int .u8 0, .int .u8 0, .int .u8 0, .int .u8 0, .int .u8 0, .int .u8 0, .int .u8 0, .int .u8 0, .int .u8 0, .int .u8 0, .int .u8 0] t f | o => o)
  |>.modify 4 (fun | .cells _ t f => .cells #[.iface 265 (.pointer (some ⟨low + 0, 0, none⟩))] t f | o => o)
  |>.modify 3 (fun | .cells _ t f => .cells #[.iface 265 (.pointer (some ⟨low + 1, 0, none⟩))] t f | o => o)
  |>.modify 0 (fun | .cells _ t f => .cells #[.string ⟨#[]⟩, .string ⟨#[115, 116, 97, 114, 116]⟩, .string ⟨#[115, 116, 111, 112]⟩, .string ⟨#[99, 97, 108, 108]⟩, .string ⟨#[104, 101, 97, 108]⟩, .string ⟨#[115, 119, 97, 112]⟩] t f | o => o)
  |>.modify 5 (fun | .cells _ t f => .cells #[.int .u8 240, .int .u8 240, .int .u8 240, .int .u8 240, .int .u8 240, .int .u8 240, .int .u8 240, .int .u8 240, .int .u8 240, .int .u8 240, .int .u8 240, .int .u8 240, .int .u8 240, .int .u8 240, .int .u8 240, .int .u8 240, .int .u8 240, .int .u8 240, .int .u8 240, .int .u8 240, .int .u8 240, .int .u8 240, .int .u8 240, .int .u8 240, .int .u8 240, .int .u8 240, .int .u8 240, .int .u8 240, .int .u8 240, .int .u8 240, .int .u8 240, .int .u8 240, .int .u8 240, .int .u8 240, .int .u8 240, .int .u8 240, .int .u8 240, .int .u8 240, .int .u8 240, .int .u8 240, .int .u8 240, .int .u8 240, .int .u8 240, .int .u8 240, .int .u8 240, .int .u8 240, .int .u8 240, .int .u8 240, .int .u8 240, .int .u8 240, .int .u8 240, .int .u8 240, .int .u8 240, .int .u8 240, .int .u8 240, .int .u8 240, .int .u8 240, .int .u8 240, .int .u8 240, .int .u8 240, .int .u8 240, .int .u8 240, .int .u8 240, .int .u8 240, .int .u8 240, .int .u8 240, .int .u8 240, .int .u8 240, .int .u8 240, .int .u8 240, .int .u8 240, .int .u8 240, .int .u8 240, .int .u8 240, .int .u8 240, .int .u8 240, .int .u8 240, .int .u8 240, .int .u8 240, .int .u8 240, .int .u8 240, .int .u8 240, .int .u8 240, .int .u8 240, .int .u8 240, .int .u8 240, .int .u8 240, .int .u8 240, .int .u8 240, .int .u8 240, .int .u8 240, .int .u8 240, .int .u8 240, .int .u8 240, .int .u8 240, .int .u8 240, .int .u8 240, .int .u8 240, .int .u8 240, .int .u8 240, .int .u8 240, .int .u8 240, .int .u8 240, .int .u8 240, .int .u8 240, .int .u8 240, .int .u8 240, .int .u8 240, .int .u8 240, .int .u8 240, .int .u8 240, .int .u8 240, .int .u8 240, .int .u8 240, .int .u8 240, .int .u8 240, .int .u8 240, .int .u8 240, .int .u8 240, .int .u8 240, .int .u8 240, .int .u8 240, .int .u8 240, .int .u8 240, .int .u8 240, .int .u8 240, .int .u8 240, .int .u8 240, .int .u8 241, .int .u8 241, .int .u8 241, .int .u8 241, .int .u8 241, .int .u8 241, .int .u8 241, .int .u8 241, .int .u8 241, .int .u8 241, .int .u8 241, .int .u8 241, .int .u8 241, .int .u8 241, .int .u8 241, .int .u8 241, .int .u8 241, .int .u8 241, .int .u8 241, .int .u8 241, .int .u8 241, .int .u8 241, .int .u8 241, .int .u8 241, .int .u8 241, .int .u8 241, .int .u8 241, .int .u8 241, .int .u8 241, .int .u8 241, .int .u8 241, .int .u8 241, .int .u8 241, .int .u8 241, .int .u8 241, .int .u8 241, .int .u8 241, .int .u8 241, .int .u8 241, .int .u8 241, .int .u8 241, .int .u8 241, .int .u8 241, .int .u8 241, .int .u8 241, .int .u8 241, .int .u8 241, .int .u8 241, .int .u8 241, .int .u8 241, .int .u8 241, .int .u8 241, .int .u8 241, .int .u8 241, .int .u8 241, .int .u8 241, .int .u8 241, .int .u8 241, .int .u8 241, .int .u8 241, .int .u8 241, .int .u8 241, .int .u8 241, .int .u8 241, .int .u8 241, .int .u8 241, .int .u8 2, .int .u8 2, .int .u8 2, .int .u8 2, .int .u8 2, .int .u8 2, .int .u8 2, .int .u8 2, .int .u8 2, .int .u8 2, .int .u8 2, .int .u8 2, .int .u8 2, .int .u8 2, .int .u8 2, .int .u8 2, .int .u8 2, .int .u8 2, .int .u8 2, .int .u8 2, .int .u8 2, .int .u8 2, .int .u8 2, .int .u8 2, .int .u8 2, .int .u8 2, .int .u8 2, .int .u8 2, .int .u8 2, .int .u8 2, .int .u8 19, .int .u8 3, .int .u8 3, .int .u8 3, .int .u8 3, .int .u8 3, .int .u8 3, .int .u8 3, .int .u8 3, .int .u8 3, .int .u8 3, .int .u8 3, .int .u8 3, .int .u8 35, .int .u8 3, .int .u8 3, .int .u8 52, .int .u8 4, .int .u8 4, .int .u8 4, .int .u8 68, .int .u8 241, .int .u8 241, .int .u8 241, .int .u8 241, .int .u8 241, .int .u8 241, .int .u8 241, .int .u8 241, .int .u8 241, .int .u8 241, .int .u8 241] t f | o => o) }
set_option maxRecDepth 100000 in
theorem laid_met (os : Os) (args : Array Value) : laidMet Tryz.prog Rows.fnExactParseEventRow.laid ((laidWorld os).forCall (fun _ _ => 0) ⟨#[], args, []⟩).memory :=
 laidMet_of_run' 8 (by kernel_rfl) (by kernel_rfl)
set_option maxRecDepth 100000 in
theorem lifted (os : Os) (started : os.Started) (H : Type) (enc : TypeId × Value → H) :
  ReturnsInHanded {} Tryz.checked os 4 .any (fun w args => (Rows.fnExactParseEventSpec.pre enc Tryz.prog Tryz.f4 Rows.fnExactParseEventRow.domain false w args ∧ laidMet Tryz.prog Rows.fnExactParseEventRow.laid w) ∧ sizedMet enc Tryz.prog Tryz.f4 (OpenSpec.ofChange Rows.fnExactParseEventSpec) false w args)
   (Rows.fnExactParseEventSpec.post enc Tryz.prog Tryz.f4 false true false false) := by
 refine handed_laid_shaped (C := Tryz.checked) (X := fun w _ => laidMet Tryz.prog Rows.fnExactParseEventRow.laid w) (fun _ _ _ hh h => h.of_heap hh) jfOwn started (by kernel_rfl) Tryz.func4
  (ChangeSpec.witness_at (enc := enc) (C := Tryz.checked) (os := os) (X := fun w _ => laidMet Tryz.prog Rows.fnExactParseEventRow.laid w) false (laidWorld os) #[.string ⟨#[]⟩] 8 rfl (by kernel_rfl) (by kernel_rfl) (by kernel_rfl) (by kernel_rfl) (by kernel_rfl) (laid_met os _)) ?_
 intro W base args ds gs before hval0 hW _ hsz0 hsh hL _
 have hval : ∀ (j : Nat) t v, Tryz.f4.params[j]? = some t → args[j]? = some v → Value.okWide Tryz.prog W .any base t v := hval0
 have hW' := hW
 obtain ⟨p, q, hA0, hV, rfl, hfz, hnd⟩ := hW
 have hA : DataW.TrodAll enc Tryz.prog W 0 (fun _ => true) true Tryz.f4.params.toList args.toList ds p := hA0
 rw [Tryz.params4] at hA hval
 obtain ⟨v0, vs0, d0, ds0, p0, q0, hargs, rfl, rfl, h0, r0⟩ := trodAll_cons hA
 obtain ⟨rfl, rfl, rfl⟩ := trodAll_nil r0
 obtain rfl : args = #[v0] := by cases args; simp_all
 have k0 := h0
 have lt0 : ∀ x ∈ p0, x.block < W.heap.size := by obtain ⟨m, hm⟩ := k0; exact DataW.trod_lt m _ _ _ hm
 obtain ⟨x0, y0, z0⟩ := open_arg tbl_ok (by kernel_rfl) (hval 0 9 v0 rfl rfl) h0
 clear hA0 hval0
 refine ((law_run (main [x0] ⟨y0, trivial⟩) ⟨fun p hp => hp.elim, start hsh hL⟩ (show Rs W M0 [x0] [v0] from ⟨_, _, rfl, z0, rfl⟩))).mono fun e W' ⟨he, bel⟩ => ?_
 subst he
 obtain ⟨dv, rfl, pv, vv⟩ := vars_kept jfLaid (g := 0) (t := 85) (by kernel_rfl) (by kernel_rfl) (by kernel_rfl) (of_decide_eq_true (by kernel_rfl)) hV bel
 exact ⟨_, rfl, _, _, _, [], _, pv, hW', trodAll_mk1 (shut_bool Tryz.underlying4 _), (trodAll_cons_mk (Below.trod jfLaid (by kernel_rfl) (of_decide_eq_true (by kernel_rfl)) k0 bel lt0) trodAll_mk0), vv, bel.frame _, fun h => by cases h⟩
theorem over : Rows.fnExactParseEventRow.holds Tryz.pinned (OpenSpec.ofChange Rows.fnExactParseEventSpec) :=
 OpenClaim.holds_of_wide 4 Tryz.f4 rfl rfl rfl rfl rfl rfl rfl ⟨rfl, rfl, rfl, rfl, rfl⟩ rfl rfl rfl rfl rfl (by kernel_rfl) Tryz.func4 closed
  (of_decide_eq_true (by kernel_rfl)) (by unfold Func.isWrapper; first | (rw [if_pos (by decide +kernel)]; kernel_rfl) | (rw [if_neg (by decide +kernel)]; exact ⟨rfl, rfl⟩))
  (fun os started H enc _ => lifted os started H enc)

theorem row_tie : Rows.fnExactParseEventRow.laidByTextAt .later Tryz.pinned [.data, .data, .data, .data, .sentinel, .sentinel, .data, .pinned] true := fnExactParseEvent_row_tie
theorem proved : Rows.FnExactParseEventCardSaid :=
 Claim7.holds_tied_plain_at .later [] [.data, .data, .data, .data, .sentinel, .sentinel, .data, .pinned] true Rows.fnExactParseEventCard.stood.harness true
  over (fun _ h => by cases h) (by kernel_rfl) (fun _ h => by cases h) row_tie rfl ⟨rfl, rfl⟩ (by kernel_rfl) rfl
  (fun f fn hf hfn => by
   obtain rfl : f = 4 := Option.some.inj ((show Tryz.prog.funcNamed Rows.fnExactParseEventRow.func = some 4 by kernel_rfl).symm.trans hf) |>.symm
   obtain rfl : fn = Tryz.f4 := (Option.some.inj (Tryz.func4.symm.trans hfn)).symm
   exact ⟨by kernel_rfl, stand_in (by kernel_rfl)⟩)
  (by kernel_rfl)
#print axioms proved
end Go.Proofs.YtjmakbnblpjkhaaGreatDoor.lawFnExactParseEvent
