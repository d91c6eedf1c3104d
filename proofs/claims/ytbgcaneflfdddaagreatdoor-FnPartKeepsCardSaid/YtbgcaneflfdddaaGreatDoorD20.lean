/- Walk: the reference draws a part that may be none; parts with calls. -/
import Derived.Test.YtbgcaneflfdddaaGreatDoorD19
import Derived.Test.YtbgcaneflfdddaaGreatDoorD9
import Derived.WalkKit
import Derived.ProofKit
import Derived.OpenShut
import Derived.ShutString
import Derived.ChangeOld
import Derived.Below
import Derived.Deep.Slices
import Derived.Test.YtbgcaneflfdddaaGreatDoorTie
import Derived.Test.YtbgcaneflfdddaaGreatDoorCards
import Derived.HandedShaped
import Derived.LaidLaws
import Derived.Lib.LaidTab
import Derived.Stop.LaidErr
import Derived.Shelf.Vars
import Derived.SevenTiedAt
import Derived.Test.YtbgcaneflfdddaaGreatDoorD11
import Derived.ChangeVars
import Derived.Test.YtbgcaneflfdddaaGreatDoorRows
import Derived.JoinedOf
import Derived.KernelRfl
import Derived.Test.YtbgcaneflfdddaaGreatDoorD0
set_option linter.unusedVariables false
set_option linter.unusedSimpArgs false
set_option maxRecDepth 100000
set_option linter.unusedSectionVars false
namespace Go.Proofs.YtbgcaneflfdddaaGreatDoor
open Go.RowKit Go
variable [GC]
def isPw (r : D) : Prop := ∃ p : Part, r = enc p ∧ p.core.cells.length ≤ 5 ∧ p.layers.length ≤ 4
theorem isPw.ty {r : D} (h : isPw r) : HasVT tbl.tab (.one (.agg [.str, .bool, .bool, .sl 125, .int .i64, .sl 52])) r := by obtain ⟨x, rfl, _⟩ := h; exact ty_Part x
theorem is_co : (Tryz.prog.info? 26).map (·.size) = some 5 := by kernel_rfl
theorem is_sl : (Tryz.prog.info? 27).map (·.size) = some 1 := by kernel_rfl
theorem ca_4d : callable Tryz.prog 51 = true := by kernel_rfl
theorem ca_3a : callable Tryz.prog 101 = true := by kernel_rfl
theorem ca_4n : callable Tryz.prog 102 = true := by kernel_rfl
theorem ca_od : callable Tryz.prog 103 = true := by kernel_rfl
theorem bl_l (s : ByteArray) (v : Int) : buildB Tryz.prog 52 [(0, .string s), (1, .int .i64 v)] = some #[.string s, .int .i64 v] := by kernel_rfl
theorem put_core (p : Part) (k : Core) (S1 S2 S : Value) : setAllA (partA p S1 S2) 0 (coreA k S).toList = partA ⟨k, p.layers⟩ S S2 := rfl
theorem core_one (k : Core) {a : Option Addr} {n c : Nat} : ∀ u ∈ (coreA k (.slice a n c)).toList, u.oneCell' = true := by
  intro u hu
  simp [coreA] at hu
  rcases hu with rfl | rfl | rfl | rfl | rfl <;> rfl
theorem WL.stP {n : Nat} {P : Program} {ops : Array Oper} {Q : Exit → Act → World → Prop} {E : List (Nat × Value)} {w : World} {o : Oper} {rest : List Oper} {T : TypeId} {x y : Operand} {b : Nat} {t : TypeId} {C cs : Array Value} (hg : o.guard = none) (hd : o.dst = none) (ho : o.op = .store T x y) (hx : ev E x = some (.pointer (some ⟨b, 0, none⟩))) (hy : ev E y = some (.agg cs)) (hb : RBlk w b t C) (hC : cs.size ≤ C.size) (hone : ∀ u ∈ cs.toList, u.oneCell' = true) (hsz : (P.info? T).map (·.size) = some cs.size)
    (h : ∀ w', RBlk w' b t (setAllA C 0 cs.toList) → OneBlock w w' b → WL n P ops Q rest E w') : WL n P ops Q (o :: rest) E w := by
  obtain ⟨w', h1, h2, h3⟩ := r_storeP (n := n) (P := P) (E := E) ho hx hy hsz hone hC hb
  exact WL.s hg hd h1 (h w' h2 h3)
set_option maxHeartbeats 8000000 in
theorem d_l4Any : DrR 62 [] isPw [(3, 2), (5, 2)] := by
  intro cs hcs
  obtain ⟨r0, c0, ⟨p0, rfl, hp0⟩, hc0, F0⟩ := d_l4Draw cs hcs
  have hsm := partB_small hp0
  obtain ⟨rn, c1, ⟨n, rfl, hn0, -⟩, hc1, F1⟩ := d_l1Below 14 c0 hc0
  obtain ⟨⟨y1, y2⟩, hys, hyc, hy⟩ : ∃ y : Part × List D, (y.1.core.cells.length ≤ 5 ∧ y.1.layers.length ≤ 4) ∧ Cur y.2 ∧
      ((n = 0 ∧ ∃ k1, FunR Tryz.prog 101 (some c1) [] (enc (k1 : Core)) y.2 [(3, 2)] ∧ y.1 = ⟨k1, p0.layers⟩) ∨
       (n = 1 ∧ ∃ (s : ByteArray) (c2 : List D) (v : Int), Cur c2 ∧ Fun Tryz.prog 102 (some c1) [] (.str s) c2 ∧ Fun Tryz.prog 52 (some c2) [.int .i64 2] (.int .i64 v) y.2 ∧ y.1 = ⟨p0.core, p0.layers ++ [⟨s, v⟩]⟩) ∨
       (n = 2 ∧ ∃ (i : Nat) (c2 : List D) (v : Int), i < p0.layers.length ∧ Cur c2 ∧ Fun Tryz.prog 52 (some c1) [.int .i64 (p0.layers.length : Nat)] (.int .i64 (i : Nat)) c2 ∧ Fun Tryz.prog 103 (some c2) [] (.int .i64 v) y.2 ∧ y.1 = setLy p0 i v) ∨
       (n ≠ 0 ∧ n ≠ 1 ∧ (n = 2 → p0.layers.length = 0) ∧ y = (p0, c1))) := by
    by_cases h0 : n = 0
    · obtain ⟨_, c2, ⟨k1, rfl, hk1⟩, hc2, F2⟩ := d_l3Any c1 hc1
      exact ⟨(⟨k1, p0.layers⟩, c2), ⟨hk1, by simp only; omega⟩, hc2, .inl ⟨h0, k1, F2, rfl⟩⟩
    by_cases h1 : n = 1
    · obtain ⟨_, c2, ⟨s, rfl⟩, hc2, F2⟩ := d_l4Name c1 hc1
      obtain ⟨_, c3, ⟨v, rfl, _, _⟩, hc3, F3⟩ := d_l1Below 2 c2 hc2
      exact ⟨(⟨p0.core, p0.layers ++ [⟨s, v⟩]⟩, c3), ⟨by simp only; omega, by simp; omega⟩, hc3, .inr (.inl ⟨h1, s, c2, v, hc2, F2, F3, rfl⟩)⟩
    by_cases h2 : n = 2 ∧ 0 < p0.layers.length
    · obtain ⟨_, c2, ⟨i, rfl, i0, i1⟩, hc2, F2⟩ := d_l1Below (p0.layers.length : Nat) c1 hc1
      obtain ⟨_, c3, ⟨v, rfl⟩, hc3, F3⟩ := d_l1Odd c2 hc2
      have i1 := i1 (by omega)
      obtain ⟨j, rfl⟩ : ∃ j : Nat, i = (j : Int) := ⟨i.toNat, by omega⟩
      exact ⟨(setLy p0 j v, c3), ⟨by show p0.core.cells.length ≤ 5; omega, by simp only [setLy_len]; omega⟩, hc3, .inr (.inr (.inl ⟨h2.1, j, c2, v, by omega, hc2, F2, F3, rfl⟩))⟩
    · exact ⟨(p0, c1), ⟨by simp only; omega, by simp only; omega⟩, hc1, .inr (.inr (.inr ⟨h0, h1, fun h => by have := fun z => h2 ⟨h, z⟩; omega, rfl⟩))⟩
  simp only at hys hyc hy
  refine ⟨enc y1, y2, ⟨y1, rfl, hys⟩, hyc, by kernel_rfl, fun w M gc vs hM hr hbx => ?_⟩
  obtain ⟨us, T, hu1, hu2, hng, hgM⟩ := hbx cs rfl
  have hr : vs = [] := hr
  subst hr
  have hgl : gc < w.heap.size := (Array.getElem?_eq_some_iff.1 hu1).1
  refine calls_CW (E := [(0, .pointer (some ⟨gc, 0, none⟩))]) Tryz.func62 rfl Tryz.ntmps62 (by simp) (by simp) ?_
  refine CW.seq (CW.region ?_)
  refine WL.vv rfl rfl (r_alloc rfl iz_p) (by decide) ?_
  refine WL.nil (NX.next ?_)
  show CW _ Tryz.prog _ _ _ (w.alloc (.cells zPart 29))
  have hb1 : Below w.heap.size w (w.alloc (.cells zPart 29)) := by go_grown
  have hs1 : (w.alloc (.cells zPart 29)).heap.size = w.heap.size + 1 := World.size_alloc _ _
  have hr2 : RBlk (w.alloc (.cells zPart 29)) w.heap.size 29 zPart := RBlk.new w _ _
  generalize (w.alloc (.cells zPart 29)) = w1 at hb1 hs1 hr2 ⊢
  have hM1 : Rdy w1 (fun q => M q ∨ q.block = w.heap.size) := hM.below hb1 fun q hq => by rcases hq with hq | hq; have := hM.1 q hq; omega; omega
  have hbx1 : ∀ cs', some cs = some cs' → ∃ us T, w1.heap[gc]? = some (.cells us.toArray T (0, 0)) ∧ Rs w1 (fun q => M q ∨ q.block = w.heap.size) cs' us ∧ NG ≤ gc ∧ ∀ q : Addr, q.block = gc → M q ∨ q.block = w.heap.size := fun cs' e => by
    cases e
    exact ⟨us, T, (hb1.block gc hgl).trans hu1, Rs.keep (Keeps.below hb1 fun q hl hq => by rcases hq with hq | hq; exact hq; omega) _ _ hu2, hng, fun q hq => .inl (hgM q hq)⟩
  refine CW.seq (CW.region ?_)
  refine WL.vv rfl rfl (r_move rfl rfl) (by decide) ?_
  refine WL.c rfl rfl (r_call (args := #[.pointer (some ⟨gc, 0, none⟩)]) ca_4d rfl rfl rfl) (by decide) (F0.2 w1 _ gc [] hM1 rfl hbx1) ?_
  rintro _ w2 ⟨v, rfl, hv, hf2, hrt, hcur⟩
  obtain ⟨S1, S2, rfl, hS1, hS2, hks, hct⟩ := part_shape hv
  refine ⟨_, rfl, ?_⟩
  refine WL.vv rfl rfl (r_alloc rfl iz_p) (by decide) ?_
  have hone0 : ∀ u ∈ (partA p0 S1 S2).toList, u.oneCell' = true := by
    obtain ⟨a, m, c, e, _⟩ := hS1
    obtain ⟨a', m', c', e', _⟩ := hS2
    rw [e, e']; exact part_one _
  refine WL.st rfl rfl rfl rfl (cs := partA p0 S1 S2) rfl (show RBlk (w2.alloc (.cells zPart 29)) w2.heap.size 29 zPart from RBlk.new w2 _ _) rfl hone0 is_p fun w3 R3 O3 => ?_
  have H3 := LD.start2 hM hgM hng hgl hb1 hs1 hr2 hc0 hf2 hS1 hS2 hrt (hcur rfl) O3 R3 hks hct
  clear hv hcur hrt hS1 hS2 hf2 hone0 hM1 hbx1 hu1 hu2 hr2 O3 R3
  generalize w2.heap.size = g3 at H3 ⊢
  generalize hg2 : w.heap.size = g2 at H3 ⊢
  generalize (fun q => M q ∨ q.block = g2 ∨ q.block = g3 ∨ spareIn S1 2 q ∨ spareIn S2 2 q) = Ba at H3
  refine WL.nil (NX.next ?_)
  refine CW.sub (E' := [(0, .pointer (some ⟨gc, 0, none⟩)), (2, .pointer (some ⟨g2, 0, none⟩)), (3, .pointer (some ⟨g3, 0, none⟩))]) ⟨rfl, rfl, rfl, trivial⟩ ?_
  refine CW.seq (CW.seq (CW.region ?_))
  refine WL.vv rfl rfl (r_move rfl rfl) (by decide) ?_
  refine WL.c rfl rfl (r_call (args := #[.pointer (some ⟨gc, 0, none⟩), .int .i64 14]) ca_1b rfl rfl rfl) (by decide) (H3.draws hc1 F1 ⟨_, [], rfl, ⟨rfl, by decide⟩, rfl⟩) ?_
  rintro _ w4 ⟨v, rfl, hv, -, H4⟩
  obtain ⟨rfl, -⟩ : v = .int .i64 n ∧ True := ⟨hv.1, trivial⟩
  refine ⟨_, rfl, ?_⟩
  have hkg : w.heap.size ≤ g2 ∧ w.heap.size ≤ g3 := ⟨H4.k2.1, H4.k3.1⟩
  have hl2 := H4.b2.lt
  have hl3 := H4.b3.lt
  have hsz := H4.size
  refine WL.nil (NX.next (CW.block ?_))
  refine CW.sub (E' := [(0, .pointer (some ⟨gc, 0, none⟩)), (2, .pointer (some ⟨g2, 0, none⟩)), (3, .pointer (some ⟨g3, 0, none⟩)), (7, .int .i64 n)]) ⟨rfl, rfl, rfl, rfl, trivial⟩ ?_
  refine CW.seq (CW.region ?_)
  have hlr : IntKind.i64.min ≤ ((p0.layers.length : Nat) : Int) ∧ ((p0.layers.length : Nat) : Int) ≤ IntKind.i64.max := by
    have e1 : IntKind.i64.min = -9223372036854775808 ∧ IntKind.i64.max = 9223372036854775807 := by decide
    rw [e1.1, e1.2]; omega
  rcases hy with ⟨h0, k1, F2, rfl⟩ | ⟨h1, s, cm, v, hcm, Fs, Fv, rfl⟩ | ⟨h2, i, cm, v, hi, hcm, Fi, Fv, rfl⟩ | ⟨h0, h1, h02, hy⟩
  · skip
    subst h0
    refine WL.vv rfl rfl (r_cmpB (b := true) rfl rfl rfl rfl (by simp [cmpI])) (by decide) ?_
    refine WL.vv rfl rfl (r_assign rfl rfl) (by decide) ?_
    refine WL.nil (NX.next (CW.yes rfl (CW.region ?_)))
    refine WL.vv rfl rfl (r_move rfl rfl) (by decide) ?_
    refine WL.c rfl rfl (r_call (args := #[.pointer (some ⟨gc, 0, none⟩)]) ca_3a rfl rfl rfl) (by decide) (F2.2 w4 Ba gc [] H4.rdy rfl H4.can.2) ?_
    rintro _ w5 ⟨v, rfl, hv, hf, hrt, hcur⟩
    obtain ⟨S, rfl, hS, hks', hct'⟩ := core_shape hv
    refine ⟨_, rfl, ?_⟩
    have l1 : LiveAt w4.heap.size w5 S 2 := hrt.1 (3, 2) (by simp)
    have f1 : R w5 (fun _ => False) (.sl ((prC k1.cells).map rowP)) S := by rw [prC_row]; exact R.less hS fun _ h => h.elim
    have q1 := Row2.of (K := fun b => w.heap.size ≤ b ∧ b ≠ g2) (g := g3) f1 l1 (fun b z1 z2 => ⟨by omega, by omega⟩) (fun b z1 z2 => by omega)
    have new : ∀ b, OutB S b → w4.heap.size ≤ b ∧ b < w5.heap.size := by
      rintro b ⟨o, s, len, cap, e, hc⟩
      obtain ⟨_, z2, cells, TT, z3, _⟩ := l1 b o s len cap e hc
      exact ⟨z2, (Array.getElem?_eq_some_iff.1 z3).1⟩
    have out : ∀ {z : Addr}, spareIn S 2 z → OutB S z.block := fun {z} h => by
      obtain ⟨o, s, len, cap, e, hc⟩ := spare_lt h
      exact ⟨o, s, len, cap, e, hc⟩
    have H5 := H4.drawX (Ba' := fun q => Ba q ∨ spareIn S 2 q) hyc hf (fun _ h => .inl h) (fun q hq => by
      rcases hq with hq | hq
      · exact Nat.lt_of_lt_of_le (H4.rdy.1 q hq) hf.size
      · exact (new _ (out hq)).2) (by
      obtain ⟨us, T, u1, u2⟩ := hcur rfl
      refine ⟨us, T, u1, Rs.keep (fun q v hq hm => ⟨hq, fun h => hm ?_⟩) _ _ u2⟩
      rcases h with h | h
      · exact .inl h
      · exact .inr ⟨(3, 2), by simp, h⟩)
    refine WL.vv rfl rfl (r_field rfl rfl fo_p0) (by decide) ?_
    refine WL.stP rfl rfl rfl rfl (cs := coreA k1 S) rfl H5.b3 (by simp [coreA, partA]) (by obtain ⟨a, m, c, e, _⟩ := hS; rw [e]; exact core_one _) is_co fun w7 R7 O7 => ?_
    rw [put_core] at R7
    have H7 := H5.turn O7 R7 q1 H5.r2 (fun b hb hb' => by have := (new b hb).1; have := (H4.r2.out hb').2.2; omega) (fun q h => .inr h) (fun q h => .inl (H4.s2 q h)) hks' hct'
    refine WL.nil (NX.norB (NX.next ?_))
    refine CW.seq (CW.region ?_)
    refine WL.vv rfl rfl (r_loadS rfl rfl Tryz.underlying29 rfl H7.b3 is_p) (by decide) ?_
    refine WL.st rfl rfl rfl rfl rfl H7.b2 rfl H7.hone is_p fun wj Rj Oj => ?_
    refine WL.nil (NX.next (CW.ret ?_))
    subst hg2
    obtain ⟨v, z1, z2, z3, z4, z5⟩ := H7.fin Oj
    exact NX.body1 rfl rfl Rj Tryz.underlying29 rfl is_p ⟨v, z1, z2, z3, z4, fun _ => z5⟩
  · skip
    subst h1
    refine WL.vv rfl rfl (r_cmpB (b := false) rfl rfl rfl rfl (by simp [cmpI])) (by decide) ?_
    refine WL.vv rfl rfl (r_assign rfl rfl) (by decide) ?_
    refine WL.nil (NX.next (CW.no rfl ?_))
    refine CW.seq (CW.region ?_)
    refine WL.vv rfl rfl (r_cmpB (b := true) rfl rfl rfl rfl (by simp [cmpI])) (by decide) ?_
    refine WL.vv rfl rfl (r_assign rfl rfl) (by decide) ?_
    refine WL.nil (NX.next (CW.yes rfl ?_))
    refine CW.sub (E' := [(0, .pointer (some ⟨gc, 0, none⟩)), (2, .pointer (some ⟨g2, 0, none⟩)), (3, .pointer (some ⟨g3, 0, none⟩))]) ⟨rfl, rfl, rfl, trivial⟩ ?_
    refine CW.any (fun W => RBlk W g3 29 (partA p0 S1 S2)) 10 mo fun wd hwd hBd => ⟨H4.b3.below hBd H4.b3.lt, ?_⟩
    have H4 := H4.below hBd
    refine AU.take 0 rfl (by kernel_rfl) (by kernel_rfl) (by kernel_rfl) (by kernel_rfl) (fun _ _ _ h => h) rfl rfl (fun W hW => r_field rfl rfl fo_p1) (by decide) H4.b3 ?_
    refine AU.take 1 rfl (by kernel_rfl) (by kernel_rfl) (by kernel_rfl) (by kernel_rfl) (fun _ _ _ h => h) rfl rfl (fun W hW => r_load rfl rfl Tryz.underlying27 rfl (hW.cell 5)) (by decide) H4.b3 ?_
    refine AU.take 2 rfl (by kernel_rfl) (by kernel_rfl) (by kernel_rfl) (by kernel_rfl) (fun _ _ _ h => h) rfl rfl (fun W hW => r_move rfl rfl) (by decide) H4.b3 ?_
    refine AU.take 4 rfl (by kernel_rfl) (by kernel_rfl) (by kernel_rfl) (by kernel_rfl) (fun _ _ _ h => h) rfl rfl (fun W hW => r_move rfl rfl) (by decide) H4.b3 ?_
    refine AU.c 3 (args := #[.pointer (some ⟨gc, 0, none⟩)]) rfl (by kernel_rfl) rfl rfl (r_call ca_4n rfl rfl rfl) (by decide) (H4.draws hcm Fs rfl) ?_
    rintro _ w5 ⟨u, rfl, hu, -, H5⟩
    obtain ⟨rfl, hs⟩ : u = .string s ∧ s.size ≤ maxLen := hu
    refine ⟨_, rfl, fun _ => H5.b3, ?_⟩
    refine AU.c 5 (args := #[.pointer (some ⟨gc, 0, none⟩), .int .i64 2]) rfl (by kernel_rfl) rfl rfl (r_call ca_1b rfl rfl rfl) (by decide) (H5.draws hyc Fv ⟨_, [], rfl, ⟨rfl, by decide⟩, rfl⟩) ?_
    rintro _ w6 ⟨u, rfl, hu, -, H6⟩
    obtain ⟨rfl, hv⟩ : u = .int .i64 v ∧ (IntKind.i64.min ≤ v ∧ v ≤ IntKind.i64.max) := hu
    refine ⟨_, rfl, fun _ => H6.b3, ?_⟩
    obtain ⟨il, hil, hils⟩ := inf_l
    have hilz : il.zero = some (.agg #[.string ⟨#[]⟩, .int .i64 0]) := by
      have h1 := iz_l
      rw [hil] at h1; simpa using h1
    refine AU.vv 6 rfl (by kernel_rfl) rfl rfl (r_build (vs := [(0, .string s), (1, .int .i64 v)]) rfl rfl (bl_l s v)) (by decide) (fun _ => H6.b3) ?_
    have hba : Below w6.heap.size w6 (w6.alloc (.cells #[.string s, .int .i64 v] 52)) := by go_grown
    have H7 := H6.below hba
    have Rn : RBlk (w6.alloc (.cells #[.string s, .int .i64 v] 52)) w6.heap.size 52 #[.string s, .int .i64 v] := RBlk.new w6 _ _
    refine AU.vv 7 rfl (by kernel_rfl) rfl rfl (r_bslice rfl rfl Tryz.underlying27 hil hils hilz) (by decide) (fun _ => H7.b3) ?_
    generalize (w6.alloc (.cells #[.string s, .int .i64 v] 52)) = W7 at H7 Rn ⊢
    have hp : pOk (s, v) := ⟨hs, hv⟩
    have hll := prL_len p0.layers
    have hsz7 := H7.size
    have hk2 := H7.b2.lt
    have hk3 := H7.b3.lt
    have eP : prL p0.layers ++ [(s, v)] = prL (p0.layers ++ [⟨s, v⟩]) := by simp [prL]
    rcases app2 27 H7.r2 (.tmp 16) (.tmp 22) hp H7.b3.lt (show (prL p0.layers).length ≤ 100 by omega) (Rn.cell 0) (Rn.cell 1) with ⟨S', w8, hrun, hB, hR⟩ | ⟨b, o', cap, rfl, hcap, hrun⟩
    · refine AU.vv 8 rfl (by kernel_rfl) rfl rfl (hrun _ _ _ rfl rfl rfl rfl) (by decide) (fun _ => H7.b3.below hB H7.b3.lt) ?_
      have out : ∀ {z : Addr}, spareIn S' 2 z → OutB S' z.block := fun {z} h => by
        obtain ⟨o, s, len, cap, e, hc⟩ := spare_lt h
        exact ⟨o, s, len, cap, e, hc⟩
      have H8 := H7.more (Ba' := fun q => Ba q ∨ spareIn S' 2 q) hB (fun _ h => .inl h) (fun q hq hl => by
        rcases hq with hq | hq
        · exact hq
        · have := (hR.out (out hq)).1; omega) (fun q hq => by
        rcases hq with hq | hq
        · exact Nat.lt_of_lt_of_le (H7.rdy.1 q hq) hB.size
        · exact (hR.out (out hq)).2.2)
      rw [eP] at hR
      have hone : S'.oneCell' = true := by obtain ⟨a, c, e, _⟩ := hR.lenS; rw [e]; rfl
      refine AU.vv 9 rfl (by kernel_rfl) rfl rfl (r_field rfl rfl fo_p1) (by decide) (fun _ => H8.b3) ?_
      refine AU.ss 10 rfl (by kernel_rfl) rfl rfl (r_store rfl rfl rfl is_sl hone (H8.b3.cell 5) (H8.b3.frozen 5)) (fun h => absurd rfl h) ?_
      have R9 := H8.b3.set_ 5 S'
      have H9 := H8.turn (q := ⟨p0.core, p0.layers ++ [⟨s, v⟩]⟩) ((OneBlock.refl _ g3).set 5 _) R9 H8.r1 (hR.keep (fun _ _ => rfl) fun b hb => ⟨by omega, by omega⟩) (fun b hb hb' => by have := (H7.r1.out hb).2.2; have := (hR.out hb').1; omega) (fun q h => H8.s1 q h) (fun q h => .inr h) H8.ks H8.ct
      refine AU.done (by kernel_rfl) ?_
      refine NX.norB (NX.next ?_)
      refine CW.seq (CW.region ?_)
      refine WL.vv rfl rfl (r_loadS rfl rfl Tryz.underlying29 rfl H9.b3 is_p) (by decide) ?_
      refine WL.st rfl rfl rfl rfl rfl H9.b2 rfl H9.hone is_p fun wj Rj Oj => ?_
      refine WL.nil (NX.next (CW.ret ?_))
      subst hg2
      obtain ⟨v, z1, z2, z3, z4, z5⟩ := H9.fin Oj
      exact NX.body1 rfl rfl Rj Tryz.underlying29 rfl is_p ⟨v, z1, z2, z3, z4, fun _ => z5⟩
    · rw [hll] at hrun hcap H7 ⊢
      have hr1 : p0.layers.length + 1 ≤ cap := hcap
      obtain ⟨H8, hR⟩ := LD.room (a := (p0, y2)) H7 hr1 hp
      refine AU.vv 8 rfl (by kernel_rfl) rfl rfl (hrun _ _ _ rfl rfl rfl rfl) (by decide) (fun _ => H8.b3) ?_
      refine AU.vv 9 rfl (by kernel_rfl) rfl rfl (r_field rfl rfl fo_p1) (by decide) (fun _ => H8.b3) ?_
      refine AU.ss 10 rfl (by kernel_rfl) rfl rfl (r_store rfl rfl rfl is_sl rfl (H8.b3.cell 5) (H8.b3.frozen 5)) (fun h => absurd rfl h) ?_
      have R9 := H8.b3.set_ 5 (.slice (some ⟨b, o', none⟩) (p0.layers.length + 1) cap)
      have H9 := H8.turn (q := ⟨p0.core, p0.layers ++ [⟨s, v⟩]⟩) ((OneBlock.refl _ g3).set 5 _) R9 H8.r1 hR (fun x hx hx' => H8.ap x hx (by obtain ⟨o, s, len, c, e, hc⟩ := hx'; cases e; exact ⟨_, _, _, _, rfl, hc⟩)) (fun q h => H8.s1 q h) (fun q h => H8.s2 q (by obtain ⟨b2, o2, s2, l2, c2, e, z1, z2, z3⟩ := h; cases e; exact ⟨_, _, _, _, _, rfl, z1, by simp only; omega, z3⟩)) H8.ks H8.ct
      refine AU.done (by kernel_rfl) ?_
      refine NX.norB (NX.next ?_)
      refine CW.seq (CW.region ?_)
      refine WL.vv rfl rfl (r_loadS rfl rfl Tryz.underlying29 rfl H9.b3 is_p) (by decide) ?_
      refine WL.st rfl rfl rfl rfl rfl H9.b2 rfl H9.hone is_p fun wj Rj Oj => ?_
      refine WL.nil (NX.next (CW.ret ?_))
      subst hg2
      obtain ⟨v, z1, z2, z3, z4, z5⟩ := H9.fin Oj
      exact NX.body1 rfl rfl Rj Tryz.underlying29 rfl is_p ⟨v, z1, z2, z3, z4, fun _ => z5⟩
  · skip
    subst h2
    refine WL.vv rfl rfl (r_cmpB (b := false) rfl rfl rfl rfl (by simp [cmpI])) (by decide) ?_
    refine WL.vv rfl rfl (r_assign rfl rfl) (by decide) ?_
    refine WL.nil (NX.next (CW.no rfl ?_))
    refine CW.seq (CW.region ?_)
    refine WL.vv rfl rfl (r_cmpB (b := false) rfl rfl rfl rfl (by simp [cmpI])) (by decide) ?_
    refine WL.vv rfl rfl (r_assign rfl rfl) (by decide) ?_
    refine WL.nil (NX.next (CW.no rfl ?_))
    refine CW.seq (CW.region ?_)
    refine WL.vv rfl rfl (r_cmpB (b := true) rfl rfl rfl rfl (by simp [cmpI])) (by decide) ?_
    refine WL.vv rfl rfl (r_assign rfl rfl) (by decide) ?_
    refine WL.nil (NX.next (CW.yes rfl ?_))
    obtain ⟨b, o, cp, e, _⟩ := H4.r2.at (i := i) (by rw [prL_len]; exact hi)
    rw [prL_len] at e
    subst e
    refine CW.seq (CW.region ?_)
    refine WL.vv rfl rfl (r_field rfl rfl fo_p1) (by decide) ?_
    refine WL.vv rfl rfl (r_load rfl rfl Tryz.underlying27 rfl (H4.b3.cell 5)) (by decide) ?_
    refine WL.vv rfl rfl (r_len rfl rfl rfl rfl Tryz.underlying27 rfl) (by decide) ?_
    refine WL.vv rfl rfl (r_cmpB (b := true) rfl rfl rfl rfl (by simp [cmpI]; omega)) (by decide) ?_
    refine WL.nil (NX.next (CW.yes rfl ?_))
    refine CW.sub (E' := [(0, .pointer (some ⟨gc, 0, none⟩)), (2, .pointer (some ⟨g2, 0, none⟩)), (3, .pointer (some ⟨g3, 0, none⟩))]) ⟨rfl, rfl, rfl, trivial⟩ ?_
    refine CW.any (fun W => RBlk W g3 29 (partA p0 S1 (.slice (some ⟨b, o, none⟩) p0.layers.length cp))) 11 mo fun wd hwd hBd => ⟨H4.b3.below hBd H4.b3.lt, ?_⟩
    have H4 := H4.below hBd
    refine AU.take 0 rfl (by kernel_rfl) (by kernel_rfl) (by kernel_rfl) (by kernel_rfl) (fun _ _ _ h => h) rfl rfl (fun W hW => r_field rfl rfl fo_p1) (by decide) H4.b3 ?_
    refine AU.take 1 rfl (by kernel_rfl) (by kernel_rfl) (by kernel_rfl) (by kernel_rfl) (fun _ _ _ h => h) rfl rfl (fun W hW => r_load rfl rfl Tryz.underlying27 rfl (hW.cell 5)) (by decide) H4.b3 ?_
    refine AU.take 2 rfl (by kernel_rfl) (by kernel_rfl) (by kernel_rfl) (by kernel_rfl) (fun _ _ _ h => h) rfl rfl (fun W hW => r_move rfl rfl) (by decide) H4.b3 ?_
    refine AU.take 3 rfl (by kernel_rfl) (by kernel_rfl) (by kernel_rfl) (by kernel_rfl) (fun _ _ _ h => h) rfl rfl (fun W hW => r_field rfl rfl fo_p1) (by decide) H4.b3 ?_
    refine AU.take 4 rfl (by kernel_rfl) (by kernel_rfl) (by kernel_rfl) (by kernel_rfl) (fun _ _ _ h => h) rfl rfl (fun W hW => r_load rfl rfl Tryz.underlying27 rfl (hW.cell 5)) (by decide) H4.b3 ?_
    refine AU.take 5 rfl (by kernel_rfl) (by kernel_rfl) (by kernel_rfl) (by kernel_rfl) (fun _ _ _ h => h) rfl rfl (fun W hW => r_len rfl rfl rfl rfl Tryz.underlying27 rfl) (by decide) H4.b3 ?_
    refine AU.take 7 rfl (by kernel_rfl) (by kernel_rfl) (by kernel_rfl) (by kernel_rfl) (fun _ _ _ h => h) rfl rfl (fun W hW => r_move rfl rfl) (by decide) H4.b3 ?_
    refine AU.c 6 (args := #[.pointer (some ⟨gc, 0, none⟩), .int .i64 (p0.layers.length : Nat)]) rfl (by kernel_rfl) rfl rfl (r_call ca_1b rfl rfl rfl) (by decide) (H4.draws hcm Fi ⟨_, [], rfl, ⟨rfl, hlr⟩, rfl⟩) ?_
    rintro _ w5 ⟨u, rfl, hu, -, H5⟩
    obtain ⟨rfl, -⟩ : u = .int .i64 (i : Nat) ∧ True := ⟨hu.1, trivial⟩
    refine ⟨_, rfl, fun _ => H5.b3, ?_⟩
    refine AU.c 8 (args := #[.pointer (some ⟨gc, 0, none⟩)]) rfl (by kernel_rfl) rfl rfl (r_call ca_od rfl rfl rfl) (by decide) (H5.draws hyc Fv rfl) ?_
    rintro _ w6 ⟨u, rfl, hu, -, H6⟩
    obtain ⟨rfl, hv⟩ : u = .int .i64 v ∧ (IntKind.i64.min ≤ v ∧ v ≤ IntKind.i64.max) := hu
    obtain ⟨-, -, -, z5, zf, -⟩ := H6.lay hi
    refine ⟨_, rfl, fun _ => H6.b3, ?_⟩
    refine AU.vv 9 rfl (by kernel_rfl) rfl rfl (r_index rfl rfl rfl (by omega) (by omega) es_l) (by decide) (fun _ => H6.b3) ?_
    refine AU.vv 10 rfl (by kernel_rfl) rfl rfl (r_field rfl rfl fo_l1) (by decide) (fun _ => H6.b3) ?_
    refine AU.ss 11 rfl (by kernel_rfl) rfl rfl (r_store rfl rfl rfl is_i rfl z5 (zf _ _)) (fun h => absurd rfl h) ?_
    have H7 := H6.put hi hv
    refine AU.done (by kernel_rfl) ?_
    refine NX.norB (NX.next ?_)
    refine CW.seq (CW.region ?_)
    refine WL.vv rfl rfl (r_loadS rfl rfl Tryz.underlying29 rfl H7.b3 is_p) (by decide) ?_
    refine WL.st rfl rfl rfl rfl rfl H7.b2 rfl H7.hone is_p fun wj Rj Oj => ?_
    refine WL.nil (NX.next (CW.ret ?_))
    subst hg2
    obtain ⟨v, z1, z2, z3, z4, z5⟩ := H7.fin Oj
    exact NX.body1 rfl rfl Rj Tryz.underlying29 rfl is_p ⟨v, z1, z2, z3, z4, fun _ => z5⟩
  · simp only [Prod.mk.injEq] at hy
    obtain ⟨rfl, rfl⟩ := hy
    refine WL.vv rfl rfl (r_cmpB (b := false) rfl rfl rfl rfl (by simp [cmpI]; exact h0)) (by decide) ?_
    refine WL.vv rfl rfl (r_assign rfl rfl) (by decide) ?_
    refine WL.nil (NX.next (CW.no rfl ?_))
    refine CW.seq (CW.region ?_)
    refine WL.vv rfl rfl (r_cmpB (b := false) rfl rfl rfl rfl (by simp [cmpI]; exact h1)) (by decide) ?_
    refine WL.vv rfl rfl (r_assign rfl rfl) (by decide) ?_
    refine WL.nil (NX.next (CW.no rfl ?_))
    refine CW.seq (CW.region ?_)
    by_cases h2 : n = 2
    · refine WL.vv rfl rfl (r_cmpB (b := true) rfl rfl rfl rfl (by simp [cmpI]; exact h2)) (by decide) ?_
      refine WL.vv rfl rfl (r_assign rfl rfl) (by decide) ?_
      refine WL.nil (NX.next (CW.yes rfl ?_))
      have hz := h02 h2
      obtain ⟨al, cap, e, _⟩ := H4.lenS
      subst e
      refine CW.seq (CW.region ?_)
      refine WL.vv rfl rfl (r_field rfl rfl fo_p1) (by decide) ?_
      refine WL.vv rfl rfl (r_load rfl rfl Tryz.underlying27 rfl (H4.b3.cell 5)) (by decide) ?_
      refine WL.vv rfl rfl (r_len rfl rfl rfl rfl Tryz.underlying27 rfl) (by decide) ?_
      refine WL.vv rfl rfl (r_cmpB (b := false) rfl rfl rfl rfl (by simp [cmpI]; exact List.eq_nil_of_length_eq_zero hz)) (by decide) ?_
      refine WL.nil (NX.next (CW.no rfl (CW.skip ?_)))
      refine NX.norB (NX.next ?_)
      refine CW.seq (CW.region ?_)
      refine WL.vv rfl rfl (r_loadS rfl rfl Tryz.underlying29 rfl H4.b3 is_p) (by decide) ?_
      refine WL.st rfl rfl rfl rfl rfl H4.b2 rfl H4.hone is_p fun wj Rj Oj => ?_
      refine WL.nil (NX.next (CW.ret ?_))
      subst hg2
      obtain ⟨v, z1, z2, z3, z4, z5⟩ := H4.fin Oj
      exact NX.body1 rfl rfl Rj Tryz.underlying29 rfl is_p ⟨v, z1, z2, z3, z4, fun _ => z5⟩
    · refine WL.vv rfl rfl (r_cmpB (b := false) rfl rfl rfl rfl (by simp [cmpI]; exact h2)) (by decide) ?_
      refine WL.vv rfl rfl (r_assign rfl rfl) (by decide) ?_
      refine WL.nil (NX.next (CW.no rfl (CW.skip ?_)))
      refine NX.norB (NX.next ?_)
      refine CW.seq (CW.region ?_)
      refine WL.vv rfl rfl (r_loadS rfl rfl Tryz.underlying29 rfl H4.b3 is_p) (by decide) ?_
      refine WL.st rfl rfl rfl rfl rfl H4.b2 rfl H4.hone is_p fun wj Rj Oj => ?_
      refine WL.nil (NX.next (CW.ret ?_))
      subst hg2
      obtain ⟨v, z1, z2, z3, z4, z5⟩ := H4.fin Oj
      exact NX.body1 rfl rfl Rj Tryz.underlying29 rfl is_p ⟨v, z1, z2, z3, z4, fun _ => z5⟩
end Go.Proofs.YtbgcaneflfdddaaGreatDoor
/- Contracts: calls of a part in a row; recipes; drawn parts, perhaps none, with calls. -/
namespace Go.Proofs.YtbgcaneflfdddaaGreatDoor
open Go.RowKit Go
section
variable [GC]
def smallP (p : Part) : Prop := p.core.cells.length ≤ 5 ∧ p.layers.length ≤ 4
theorem smallP_of {p : Part} (h : partB p = true) : smallP p := by have := partB_small h; unfold smallP; omega
theorem smallP_call {p : Part} (h : smallP p) (x : Call) : smallP (callD p x).1 := by
 by_cases hp : partB p = true
 ·exact smallP_of (call_keeps hp x).1
 ·rw [call_bad (.inl (by simpa using hp))]; exact h
theorem smallP_st {p : Part} (h : smallP p) (l : List Call) : ∀ k, smallP (stD p l k)
 | 0 => h
 | k + 1 => smallP_call (smallP_st h l k) _
def rsD (p : Part) (l : List Call) (k : Nat) : List Reply := (List.range k).map fun i => (callD (stD p l i) (nth l i)).2
theorem rsD_succ (p : Part) (l : List Call) (k : Nat) : rsD p l (k + 1) = rsD p l k ++ [(callD (stD p l k) (nth l k)).2] := by simp [rsD, List.range_succ]
theorem rsD_len (p : Part) (l : List Call) (k : Nat) : (rsD p l k).length = k := by simp [rsD]
theorem drop_nth {α : Type} [Inhabited α] {l : List α} {k : Nat} (h : k < l.length) : l.drop k = nth l k :: l.drop (k + 1) := by
 rw [List.drop_eq_getElem_cons h]; simp [nth, h]
def recP (p : Part) : List ByteArray := p.core.kind :: p.layers.map (·.name)
theorem c_impl_RecipeOf (p : Part) (h : p.layers.length ≤ 100) : Fun Tryz.prog 31 none [enc p] (encS (recP p)) [] := by
 refine .ofR (rt := rbt.get 31) ?_
 refine FunR.ofV vc_impl_RecipeOf_ok ty_impl_RecipeOf_ok rt_impl_RecipeOf_ok rfl ?_ (fun hfit => ?_)
 ·exact ⟨ty_Part p, trivial⟩
 unfold vc_impl_RecipeOf
 refine den_for p.layers.length (fun k => [encS (p.core.kind :: (p.layers.take k).map (·.name)), .int .i64 k]) (fun _ => True) (by simp only [E.den, dEq, iEq, sEq, cells_Part]; rfl) trivial ?_
 intro k hk _ _
 simp only [cA]
 refine den_ite (fun h2 => ?_) (fun h2 => ?_)
 ·simp only [E.den, dEq, iEq, sEq, cells_Part] at h2
  have h2 : k < p.layers.length := by simp at h2; exact h2
  (refine den_cond (fun hg => ?_) ?_; (focus (simp only [gsH, gE, E.den, dEq, iEq, sEq, cells_Part] at hg ⊢; (try simp only [D.bool.injEq] at hg); (try simp only [D.bool.injEq]); grind)))
  refine den_cond (fun _ => ?_) ?_
  ·simp only [E.den, dEq, iEq, sEq, cells_Part]; simp; omega
  refine den_next h2 ?_ trivial
  simp only [E.den, dEq, iEq, sEq, cells_Part, row_Layer, cells_Layer]
  rw [ar_add (by omega) (by omega), take_snoc h2]
  simp [encS, cells_str]
 ·simp only [E.den, dEq, iEq, sEq, cells_Part] at h2
  obtain rfl : k = p.layers.length := by simp at h2; omega
  refine den_ret ?_
  simp only [E.den, dEq, iEq, sEq]
  rw [List.take_length]
  rfl
theorem c_laws_texts (l l' : List ByteArray) : Fun Tryz.prog 30 none [encS l, encS l'] (.bool (decide (l = l'))) [] := by
 refine Fun.ofV vc_laws_texts_ok ty_laws_texts_ok rfl ?_ (fun hfit => ?_)
 ·exact ⟨ty_strS l, ty_strS l', trivial⟩
 have hl : l.length ≤ 9223372036854775807 := fits_encS hfit.1
 unfold vc_laws_texts
 refine den_ite (fun h => ?_) (fun h => ?_)
 ·simp only [E.den, dEq, iEq, sEq] at h
  have h : l.length ≠ l'.length := by grind
  exact den_ret (by simp [E.den, ne_len h])
 simp only [E.den, dEq, iEq, sEq] at h
 have h : l.length = l'.length := by grind
 refine den_for l.length (fun k => [.int .i64 k]) (fun k => ∀ i, i < k → nth l i = nth l' i) rfl (by omega) ?_
 intro k hk hI _
 simp only [cA]
 refine den_ite (fun h2 => ?_) (fun h2 => ?_)
 ·simp only [E.den, dEq, iEq, sEq] at h2
  have h2 : k < l.length := by simp at h2; exact h2
  (refine den_cond (fun hg => ?_) ?_; (focus (simp only [gsH, gE, E.den, dEq, iEq, sEq] at hg ⊢; (try simp only [D.bool.injEq] at hg); (try simp only [D.bool.injEq]); grind)))
  (refine den_cond (fun hg => ?_) ?_; (focus (simp only [gsH, gE, E.den, dEq, iEq, sEq] at hg ⊢; (try simp only [D.bool.injEq] at hg); (try simp only [D.bool.injEq]); grind)))
  refine den_ite (fun h3 => ?_) (fun h3 => ?_)
  ·simp only [E.den, dEq, iEq, sEq, row_str, cells_str] at h3
   have h3 : nth l k ≠ nth l' k := by simpa using h3
   exact den_ret (by simp [E.den, ne_at h3])
  ·simp only [E.den, dEq, iEq, sEq, row_str, cells_str] at h3
   have h3 : nth l k = nth l' k := by simpa using h3
   refine den_next h2 ?_ fun i hi => ?_
   ·simp only [E.den, dEq, iEq, sEq]
    rw [ar_add (by omega) (by omega)]; rfl
   ·rcases Nat.lt_or_ge i k with h' | h'
    ·exact hI i h'
    ·obtain rfl : i = k := by omega
     exact h3
 ·simp only [E.den, dEq, iEq, sEq] at h2
  obtain rfl : k = l.length := by simp at h2; omega
  exact den_ret (by simp [E.den, ext_nth h hI])
def isPX (r : D) : Prop := ∃ (p : Part) (x : Call), r = .tup [enc p, enc x] ∧ smallP p ∧ x.text.size ≤ 100
theorem isPX.ty {r : D} (h : isPX r) : HasVT tbl.tab (.tup [.agg [.str, .bool, .bool, .sl 125, .int .i64, .sl 52], .agg [.str, .str, .int .i64, .str]]) r := by
 obtain ⟨p, x, rfl, _⟩ := h
 exact ⟨ty_Part p, ty_Call x, trivial⟩
def isPS (r : D) : Prop := ∃ (p : Part) (l : List Call), r = .tup [enc p, encS l] ∧ smallP p ∧ l.length ≤ 8 ∧ ∀ x ∈ l, x.text.size ≤ 100
theorem isPS.ty {r : D} (h : isPS r) : HasVT tbl.tab (.tup [.agg [.str, .bool, .bool, .sl 125, .int .i64, .sl 52], .c (.sl 39)]) r := by
 obtain ⟨p, l, rfl, _⟩ := h
 exact ⟨ty_Part p, ty_CallS l, trivial⟩
theorem d_DrawCallPart {rows : List (List D)} (hr : RowsTy tbl.tab [.int .u8] rows) : ∃ r, isPX r ∧ Fun Tryz.prog 19 none [.sl rows] r [] := by
 refine Fun.exV vc_spec_DrawCallPart_ok rfl ty_spec_DrawCallPart_ok ⟨by show RowsTy _ (tbl.tab _) _; rw [tab_u8]; exact hr, trivial⟩ (.tup [enc (⟨⟨robotN, false, false, [], 0⟩, []⟩ : Part), enc (plainCall mTell)]) ⟨_, _, rfl, smallP_of robot_part, by decide⟩ fun hfit => ?_; unfold vc_spec_DrawCallPart
 refine den_newc rfl hr fun sd => ?_
 have hi : (0 : Int) ≤ 0 := Int.le_refl _
 ((first | apply den_draw | apply den_drawR); (iterate 2 (focus (simp only [VC.den, E.den, dEq, gsH_nil, and_true]; try exact rfl))); (focus (exact ⟨_, _, _, rfl, by assumption, by assumption⟩)); (focus (first | exact d_l4Any | exact Dr.ofR (d_l4Any))); (focus (exact fun _ h => isPw.ty h)); rintro _ rows i sd ⟨p, rfl, hp⟩ hr hi; (simp only [cA]))
 ((first | apply den_draw | apply den_drawR); (iterate 2 (focus (simp only [VC.den, E.den, dEq, gsH_nil, and_true]; try exact rfl))); (focus (exact ⟨_, _, _, rfl, by assumption, by assumption⟩)); (focus (first | exact d_l4Call p | exact Dr.ofR (d_l4Call p))); (focus (exact fun _ h => isCl.ty h)); rintro _ rows i sd ⟨x, rfl, hx⟩ hr hi; (simp only [cA]))
 exact ⟨⟨p, x, rfl, hp, hx⟩, rfl⟩
theorem d_DrawCallParts {rows : List (List D)} (hr : RowsTy tbl.tab [.int .u8] rows) : ∃ r, isPS r ∧ FunR Tryz.prog 27 none [.sl rows] r [] [(6, 4)] := by
 refine FunR.exV vc_spec_DrawCallParts_ok rt_spec_DrawCallParts_ok rfl ty_spec_DrawCallParts_ok ⟨by show RowsTy _ (tbl.tab _) _; rw [tab_u8]; exact hr, trivial⟩ (.tup [enc (⟨⟨robotN, false, false, [], 0⟩, []⟩ : Part), encS ([] : List Call)]) ⟨_, _, rfl, smallP_of robot_part, by simp, (fun x hx => by cases hx)⟩ fun hfit => ?_; unfold vc_spec_DrawCallParts
 refine den_newc rfl hr fun sd => ?_
 have hi : (0 : Int) ≤ 0 := Int.le_refl _
 ((first | apply den_draw | apply den_drawR); (iterate 2 (focus (simp only [VC.den, E.den, dEq, gsH_nil, and_true]; try exact rfl))); (focus (exact ⟨_, _, _, rfl, by assumption, by assumption⟩)); (focus (first | exact d_l4Any | exact Dr.ofR (d_l4Any))); (focus (exact fun _ h => isPw.ty h)); rintro _ rows i sd ⟨p, rfl, hp⟩ hr hi; (simp only [cA]))
 ((first | apply den_draw | apply den_drawR); (iterate 2 (focus (simp only [VC.den, E.den, dEq, gsH_nil, and_true]; try exact rfl))); (focus (exact ⟨_, _, _, rfl, by assumption, by assumption⟩)); (focus (first | exact d_l1Below _ | exact Dr.ofR (d_l1Below _))); (focus (exact fun _ h => isBel.ty h)); rintro _ rows i sd ⟨n, rfl, hn⟩ hr hi; (simp only [cA]))
 have hn2 := hn.2 (by omega)
 refine den_loop PlSt PlSt.lay (fun s => RowsTy tbl.tab [.int .u8] s.rows ∧ 0 ≤ s.i ∧ 0 ≤ s.n ∧ (s.l.length : Int) + s.n ≤ 8 ∧ ∀ x ∈ s.l, x.text.size ≤ 100) (fun s => s.n.toNat) ⟨[], n, _, _, _⟩ (fun s s' h => by simp [PlSt.lay] at h; rw [h.2.1]) rfl ⟨hr, hi, hn.1, by simp; omega, (fun x hx => by cases hx)⟩ ?_
 rintro ⟨l, m, rows, i, sd⟩ ⟨hr, hi, hm, hml, hl⟩ -
 simp only at hr hi hm hml hl
 simp only [PlSt.lay, List.cons_append, List.nil_append]
 refine den_ite (fun h => ?_) (fun h => ?_)
 ·simp [E.den, cmpI] at h
  have hms : arI .sub .i64 m 1 = m - 1 := ar_sub (by omega) (by omega)
  ((first | apply den_draw | apply den_drawR); (iterate 2 (focus (simp only [VC.den, E.den, dEq, gsH_nil, and_true]; try exact rfl))); (focus (exact ⟨_, _, _, rfl, by assumption, by assumption⟩)); (focus (first | exact d_l4Call p | exact Dr.ofR (d_l4Call p))); (focus (exact fun _ h => isCl.ty h)); rintro _ rows i sd ⟨x, rfl, hx⟩ hr hi; (simp only [cA]))
  refine den_cond (fun _ => ?_) ?_
  ·simp only [E.den, dEq, iEq, sEq]; simp; omega
  refine ⟨⟨l ++ [x], m - 1, rows, i, sd⟩, ?_, ⟨hr, hi, by simp only; omega, by simp; omega, fun y hy => ?_⟩, by simp only; omega⟩
  ·simp [E.den, PlSt.lay, hms, encS, enc]
  ·rcases List.mem_append.1 hy with hy | hy
   ·exact hl y hy
   ·simp at hy; subst hy; exact hx
 ·exact ⟨⟨p, l, rfl, hp, by omega, hl⟩, rfl⟩
end
section
variable [GC] [HasPow] [HasMax] [HasErr]
theorem c_CallS (p : Part) (x : Call) (hp : smallP p) (hx : x.text.size ≤ 100) : FunR Tryz.prog 17 none [enc p, enc x] (.tup [enc (callD p x).1, enc (callD p x).2]) [] [(3, 2), (5, 2)] :=
 c_impl_CallPart p x (by have := hp.1; omega) (by have := hp.2; omega) (by omega)
theorem c_impl_CallParts (p : Part) (l : List Call) (hp : smallP p) (h8 : l.length ≤ 100) (hl : ∀ x ∈ l, x.text.size ≤ 100) : FunR Tryz.prog 29 none [enc p, encS l] (.tup [enc (callsD p l).1, encS (callsD p l).2]) [] [(3, 2), (5, 2), (6, 5)] := by
 refine FunR.ofV vc_impl_CallParts_ok ty_impl_CallParts_ok rt_impl_CallParts_ok rfl ?_ (fun hfit => ?_)
 ·exact ⟨ty_Part p, ty_CallS l, trivial⟩
 unfold vc_impl_CallParts
 ((first | refine den_call ?_ (c_impl_copyPart p (Nat.le_trans hp.1 (by decide)) (Nat.le_trans hp.2 (by decide))) (ty_Part _) ?_ | refine den_callR ?_ (c_impl_copyPart p (Nat.le_trans hp.1 (by decide)) (Nat.le_trans hp.2 (by decide))) (ty_Part _) ?_ | refine den_call ?_ (.ofR (c_impl_copyPart p (Nat.le_trans hp.1 (by decide)) (Nat.le_trans hp.2 (by decide)))) (ty_Part _) ?_); (focus (simp only [VC.den, E.den, dEq, gsH_nil, and_true]; try exact rfl)); (simp only [cA]))
 refine den_for l.length (fun k => [encS (rsD p l k), .int .i64 k, .str (stD p l k).core.kind, .bool (stD p l k).core.on, .bool (stD p l k).core.broken, encS (stD p l k).core.cells, .int .i64 (stD p l k).core.count, encS (stD p l k).layers])
  (fun k => callsD p l = ((callsD (stD p l k) (l.drop k)).1, rsD p l k ++ (callsD (stD p l k) (l.drop k)).2)) (by simp only [E.den, dEq, iEq, sEq, cells_Part]; rfl) (by simp [stD, rsD]) ?_
 intro k hk hI _
 simp only [cA]
 have hs := smallP_st hp l k
 refine den_ite (fun h2 => ?_) (fun h2 => ?_)
 ·simp only [E.den, dEq, iEq, sEq] at h2
  have h2 : k < l.length := by simp at h2; exact h2
  have hx := hl _ (nth_mem h2)
  (refine den_cond (fun hg => ?_) ?_; (focus (simp only [gsH, gE, E.den, dEq, iEq, sEq] at hg ⊢; (try simp only [D.bool.injEq] at hg); (try simp only [D.bool.injEq]); grind)))
  ((first | refine den_call ?_ (c_CallS (stD p l k) (nth l k) hs hx) (⟨ty_Part _, ty_Reply _, trivial⟩) ?_ | refine den_callR ?_ (c_CallS (stD p l k) (nth l k) hs hx) (⟨ty_Part _, ty_Reply _, trivial⟩) ?_ | refine den_call ?_ (.ofR (c_CallS (stD p l k) (nth l k) hs hx)) (⟨ty_Part _, ty_Reply _, trivial⟩) ?_); (focus (simp only [VC.den, E.den, dEq, gsH_nil, and_true, row_Call]; try exact rfl)); (simp only [cA]))
  refine den_cond (fun _ => ?_) ?_
  ·simp only [E.den, dEq, iEq, sEq]
   have := rsD_len p l k
   simp; omega
  rw [drop_nth h2, callsD] at hI
  refine den_ite (fun h3 => ?_) (fun h3 => ?_)
  ·simp only [E.den, dEq, iEq, sEq, cells_Reply] at h3
   have h3 : (callD (stD p l k) (nth l k)).2.code = 1 := by simpa using h3
   rw [if_pos h3] at hI
   refine den_ret ?_
   rw [hI]
   simp only [E.den, dEq, iEq, sEq]
   simp [encS]
  ·simp only [E.den, dEq, iEq, sEq, cells_Reply] at h3
   have h3 : (callD (stD p l k) (nth l k)).2.code ≠ 1 := by simpa using h3
   rw [if_neg h3] at hI
   refine den_next h2 ?_ (by rw [hI, rsD_succ]; simp [stD])
   rw [rsD_succ]
   simp only [E.den, dEq, iEq, sEq, cells_Part]
   rw [ar_add (by omega) (by omega)]
   simp [encS, stD]
 ·simp only [E.den, dEq, iEq, sEq] at h2
  obtain rfl : k = l.length := by simp at h2; omega
  rw [List.drop_length, callsD] at hI
  refine den_ret ?_
  rw [hI]
  simp only [E.den, dEq, iEq, sEq]
  simp [enc, cells_Part]
end
end Go.Proofs.YtbgcaneflfdddaaGreatDoor
/- What a law is handed, opened: a value that reads as data of the statement's kind reads as abstract data. No program in sight. -/
namespace Go.Proofs.YtbgcaneflfdddaaGreatDoor
open Go.RowKit Go.ChangeShapes Go.WideShapes Go.ChangeAt
variable [GC]
def opn (tb : TB) : Nat → Nat → Bool
 | 0, _ => false
 | d + 1, T => match tb.get T with
  | none => false
  | some ti => match ti.vt with
   | .one (.c (.sl e)) => opn tb d e && Nat.blt 0 (tb.tab e).length
   | .one (.c _) => true
   | .one (.agg ts) => contig tb 0 ts ti.fs && ti.fs.all (fun x => opn tb d x.2)
   | .tup _ => false
theorem opn_one {tb : TB} {d T : Nat} (h : opn tb d T = true) : ∃ ti v, tb.get T = some ti ∧ ti.vt = .one v ∧ tb.tab T = v.cells := by
 cases d with
 | zero => simp [opn] at h
 | succ d =>
  simp only [opn] at h
  split at h
  ·simp at h
  ·rename_i ti hti
   cases hv : ti.vt with
   | tup _ => rw [hv] at h; simp at h
   | one v => exact ⟨ti, v, hti, hv, by simp [TB.tab, hti, TI.cells, hv]⟩
def vtOf (tb : TB) (T : Nat) : VT := match tb.get T with | some ti => ti.vt | none => .tup []
def M0 : Addr → Prop := fun _ => False
section
variable {H : Type} {enc : TypeId × Value → H} {P : Program} {w : World} {base : Nat} {spare : Nat → Bool} {held : Bool} {tb : TB}
theorem rs_rw {M : Addr → Prop} {ds : List D} {cs : List Value} {b o : Nat} (h : Rs w M ds cs) (hc : ∀ j u, cs[j]? = some u → w.cell? ⟨b, o + j, none⟩ = some u) (hM : ∀ p, ¬ M p) : Rw w M ds b o :=
 Rw.of fun i d hd => by
  obtain ⟨v, h1, h2⟩ := h.get hd
  exact ⟨v, hc i v h1, hM _, h2⟩
theorem cellsOf_tab (hcx : tbOk P tb tb = true) {d T : Nat} (h : opn tb d T = true) : P.cellsOf T = (tb.tab T).length := by
 obtain ⟨ti, v, h1, h2, h3⟩ := opn_one h
 obtain ⟨i, hi, hs, _⟩ := ty_one hcx h1 h2
 simp [Program.cellsOf, hi, hs, h3]
theorem open_fields {cs : List Value} : ∀ (fl : List (Nat × Nat)) (o : Nat) (ts : List CT), contig tb o ts fl = true →
  (∀ p ∈ fl, ∃ ds, RowTy tb.tab (tb.tab p.2) ds ∧ Rs w M0 ds ((cs.drop p.1).take (tb.tab p.2).length)) → cs.length = o + ts.length → ∃ ds, RowTy tb.tab ts ds ∧ Rs w M0 ds (cs.drop o)
 | [], o, ts, h, _, hl => by
  simp only [contig, List.isEmpty_iff] at h
  subst h
  refine ⟨[], trivial, ?_⟩
  rw [List.drop_eq_nil_of_le (by simp at hl; omega)]; rfl
 | (o', t) :: r, o, ts, h, hf, hl => by
  simp only [contig, Bool.and_eq_true] at h
  obtain ⟨h1, h2⟩ := h
  have h1 := Nat.eq_of_beq_eq_true h1
  subst h1
  cases ht : tb.get t with
  | none => rw [ht] at h2; simp at h2
  | some i =>
   rw [ht] at h2
   simp only [Bool.and_eq_true, decide_eq_true_eq] at h2
   obtain ⟨h2, h3⟩ := h2
   have htab : tb.tab t = i.cells := by simp [TB.tab, ht]
   obtain ⟨ds, q1, q2⟩ := hf (o, t) (by simp)
   simp only [htab] at q1 q2
   have hle : i.cells.length ≤ ts.length := by
    have := congrArg List.length h2
    rw [List.length_take] at this; omega
   obtain ⟨ds', q3, q4⟩ := open_fields r (o + i.cells.length) (ts.drop i.cells.length) h3 (fun p hp => hf p (by simp [hp])) (by rw [List.length_drop]; omega)
   refine ⟨ds ++ ds', ?_, ?_⟩
   ·have : ts = i.cells ++ ts.drop i.cells.length := (List.take_append_drop i.cells.length ts).symm.trans (by rw [h2])
    rw [this]; exact q1.append q3
   ·have : cs.drop o = (cs.drop o).take i.cells.length ++ cs.drop (o + i.cells.length) := by
     rw [← List.drop_drop, List.take_append_drop]
    rw [this]; exact q2.append q4
theorem open_ty (hcx : tbOk P tb tb = true) : ∀ (d T : Nat), opn tb d T = true → ∀ (fuel : Nat) (cs : List Value) (x : DataW H × List MemPlace), DataW.trod enc P w base spare held fuel T cs = some x → ∃ ds, RowTy tb.tab (tb.tab T) ds ∧ Rs w M0 ds cs
 | 0, _, h, _, _, _, _ => by simp [opn] at h
 | d + 1, T, h, fuel, cs, x, hx => by
  simp only [opn] at h
  split at h
  ·simp at h
  ·rename_i ti hti
   have htab : tb.tab T = ti.cells := by simp [TB.tab, hti]
   rw [htab]
   cases hv : ti.vt with
   | tup _ => rw [hv] at h; simp at h
   | one v =>
    rw [hv] at h
    simp only [TI.cells, hv]
    cases v with
    | c t =>
     obtain ⟨i, ds, _, _, _, _, hu, hd⟩ := ty_c hcx hti hv
     cases t with
     | mem => exact hd.elim
     | fn => exact hd.elim
     | bool =>
      simp only [DescC] at hd; subst hd
      obtain ⟨b, rfl, _⟩ := DataW.trod_bool hu hx
      exact ⟨[.bool b], ⟨trivial, trivial⟩, Rs.one rfl⟩
     | int k =>
      simp only [DescC] at hd; subst hd
      obtain ⟨n, rfl, _, hw⟩ := DataW.trod_int hu hx
      exact ⟨[.int k n], ⟨rfl, trivial⟩, Rs.one ⟨rfl, by simpa [Lit.wf] using hw⟩⟩
     | str =>
      simp only [DescC] at hd; subst hd
      obtain ⟨s, rfl, _, hw⟩ := DataW.trod_string hu hx
      exact ⟨[.str s], ⟨trivial, trivial⟩, Rs.one ⟨rfl, hw⟩⟩
     | sl e =>
      simp only [DescC] at hd; subst hd
      simp only [Bool.and_eq_true] at h
      obtain ⟨he, hpos⟩ := h
      have hpos : 0 < (tb.tab e).length := Nat.le_of_ble_eq_true hpos
      have hn := cellsOf_tab hcx he
      rcases Go.Deep.open_slice hu hx with ⟨h0, _⟩ | ⟨a, len, cap, m, n, Dd, Pl, hcs, _, hl, hm, hmm, _, hi⟩
      ·exact ⟨[.sl []], ⟨trivial, trivial⟩, by rw [h0]; exact Rs.one ⟨none, 0, 0, rfl, rfl, Nat.le_refl _, Nat.zero_le _, fun _ => rfl, fun b o s hh => by cases hh⟩⟩
      ·have hlm : len ≤ m := by rw [hmm]; split <;> omega
       have hex : ∀ i, i < len → ∃ q : List Value × List D, w.cells? base (a.add (i * P.cellsOf e)) (P.cellsOf e) = some q.1 ∧ RowTy tb.tab (tb.tab e) q.2 ∧ Rs w M0 q.2 q.1 := fun i hil => by
        obtain ⟨cs', hc, ht'⟩ := hi i (by omega)
        obtain ⟨y, hy1, hy2⟩ := open_ty hcx d e he _ _ _ ht'
        exact ⟨(cs', y), hc, hy1, hy2⟩
       have hch : ∃ f : Nat → List Value × List D, ∀ i, i < len → w.cells? base (a.add (i * P.cellsOf e)) (P.cellsOf e) = some (f i).1 ∧ RowTy tb.tab (tb.tab e) (f i).2 ∧ Rs w M0 (f i).2 (f i).1 := by
        refine ⟨fun i => if hi : i < len then (hex i hi).choose else ([], []), fun i hi => ?_⟩
        simp only [hi, dif_pos]
        exact (hex i hi).choose_spec
       obtain ⟨f, hf⟩ := hch
       have hcell : ∀ i, i < len → ∀ j u, (f i).1[j]? = some u → w.cell? ((a.add (i * P.cellsOf e)).add j) = some u := fun i hil j u hu => by
        obtain ⟨_, hcl, hat⟩ := World.cells?_some (hf i hil).1
        have hj : j < P.cellsOf e := by rw [← hcl]; exact (List.getElem?_eq_some_iff.1 hu).1
        rw [hat j hj, hu]
       have hspot : 0 < len → a.spot = none := fun h0 => by
        have hlen0 : 0 < (f 0).1.length := by rw [(hf 0 h0).2.2.length, (hf 0 h0).2.1.length]; exact hpos
        have hx := hcell 0 h0 0 _ (List.getElem?_eq_getElem hlen0)
        rw [Nat.zero_mul] at hx
        exact World.cell?_spot (a := a) (by simpa [Addr.add] using hx)
       refine ⟨[.sl ((List.range len).map fun i => (f i).2)], ⟨?_, trivial⟩, ?_⟩
       ·refine RowsTy.of fun r hr => ?_
        obtain ⟨i, hi, rfl⟩ := List.mem_map.1 hr
        exact (hf i (by simpa using hi)).2.1
       ·rw [hcs]
        refine Rs.one ⟨some a, len, cap, rfl, by simp, hl, hm, (fun h => by cases h), fun b o s hh => ⟨fun h0 => ?_, ?_⟩⟩
        ·have := hspot h0
         simp only [Option.some.injEq] at hh; subst hh; exact this
        ·simp only [Option.some.injEq] at hh; subst hh
         refine Rws.of (n := (tb.tab e).length) (fun r hr => ?_) fun i r hr => ?_
         ·obtain ⟨i, hi, rfl⟩ := List.mem_map.1 hr
          exact (hf i (by simpa using hi)).2.1.length
         ·have hil : i < len := by
           have := (List.getElem?_eq_some_iff.1 hr).1
           simpa using this
          have hr' : r = (f i).2 := by simp [hil] at hr; exact hr.symm
          subst hr'
          refine rs_rw (hf i hil).2.2 (fun j u hu => ?_) (fun _ h => h)
          have h1 := hcell i hil j u hu
          have hs := hspot (by omega)
          simp only at hs
          subst hs
          rw [hn] at h1
          rwa [addr_add, addr_add] at h1
    | agg ts =>
     simp only [Bool.and_eq_true] at h
     obtain ⟨hc, hall⟩ := h
     obtain ⟨i, fields, zs, hi, hs, _, _, _, hu, hfo⟩ := ty_agg hcx hti hv
     obtain ⟨xs, m, _, _, hl, hxs, hf⟩ := DataW.trod_struct hu hx
     have hlen : cs.length = ts.length := by rw [hl]; simp [Program.cellsOf, hi, hs]
     have key : ∀ p ∈ ti.fs, ∃ ds, RowTy tb.tab (tb.tab p.2) ds ∧ Rs w M0 ds ((cs.drop p.1).take (tb.tab p.2).length) := by
      intro p hp
      have hop := List.all_eq_true.1 hall p hp
      obtain ⟨k, hk⟩ := List.getElem?_of_mem hp
      have hfk : ∃ fd, fields.toList[k]? = some fd ∧ fd.offset = p.1 ∧ fd.type = p.2 := fieldsOk_get hfo hk
      obtain ⟨fd, hfd, e1, e2⟩ := hfk
      have hfd' : fields[k]? = some fd := by simpa using hfd
      have hlt : k < xs.length := by rw [hxs]; exact (Array.getElem?_eq_some_iff.1 hfd').1
      have ht := (hf k fd hfd').trans (List.getElem?_eq_getElem hlt)
      rw [e1, e2, cellsOf_tab hcx hop] at ht
      exact open_ty hcx d p.2 hop _ _ _ ht
     have := open_fields (w := w) ti.fs 0 ts hc key (by omega)
     simpa [V1.cells] using this
theorem open_arg (hcx : tbOk P tb tb = true) {r : Reach} {b0 T : Nat} {v : Value} {dd : DataW H} {p : List MemPlace} (ht : opn tb 12 T = true) (hv : Value.okWide P w r b0 T v) (h : DataW.Trod enc P w base spare held T v dd p) :
  ∃ x, HasVT tb.tab (vtOf tb T) x ∧ R w M0 x v := by
 obtain ⟨fuel, hf⟩ := h
 obtain ⟨ds, h1, h2⟩ := open_ty hcx 12 T ht fuel _ _ hf
 obtain ⟨ti, v1, hti, hv1, htab⟩ := opn_one ht
 rw [htab] at h1
 unfold vtOf
 rw [hti]
 simp only [hv1]
 cases v1 with
 | c t =>
  obtain ⟨_, d, _, _, _, _, hu, hd⟩ := ty_c hcx hti hv1
  have hc : v.cells.toList = [v] := by
   cases t <;> simp only [DescC] at hd <;> subst hd
   ·obtain ⟨_, rfl⟩ := okWide_bool hu hv; rfl
   ·obtain ⟨_, rfl⟩ := okWide_int hu hv; rfl
   ·obtain ⟨_, rfl⟩ := okWide_string hu hv; rfl
   ·obtain ⟨_, _, _, rfl⟩ := okWide_slice hu hv; rfl
  rw [hc] at h2
  match ds, h1 with
  | [x], h1 =>
   obtain ⟨v', q, e, h3, h4⟩ := h2
   simp only [List.cons.injEq] at e
   obtain ⟨rfl, rfl⟩ := e
   exact ⟨x, h1.1, h3⟩
 | agg ts =>
  obtain ⟨_, fields, _, _, _, _, _, _, hu, _⟩ := ty_agg hcx hti hv1
  obtain ⟨cs, rfl, _⟩ := okWide_struct hu hv
  exact ⟨.agg ds, h1, cs, rfl, h2⟩
end
theorem law_run {P : Program} {f : FuncId} {ds : List D} {vs : List Value} {w : World} (h : Fun P f none ds (.bool true) []) (hG : Rdy w M0) (hr : Rs w M0 ds vs) : Calls P f vs.toArray w fun e w' => e = .returned (.bool true) ∧ Below w.heap.size w w' := by
 refine (h.2 w M0 0 vs hG hr (fun cs hcs => by cases hcs)).mono ?_
 rintro e w' ⟨v, rfl, h1, h2, _⟩
 simp only [R] at h1
 subst h1
 exact ⟨rfl, h2.to_below⟩
end Go.Proofs.YtbgcaneflfdddaaGreatDoor
/- Rows that list variables of packages: the builder, and what the list says of the variables' blocks. No program in sight. -/
namespace Go.Proofs.YtbgcaneflfdddaaGreatDoor
open Go.RowKit Go Go.ChangeShapes
theorem handed_laid_shaped {H : Type} {enc : TypeId × Value → H} {a : Assume} {C : Checked} {os : Os} {f : FuncId} {fn : Func} {s : ChangeSpec} {conds : List PathCond} {apart fresh handsOn again : Bool} {X : World → Array Value → Prop}
  (hX : ∀ (w w' : World) (args : Array Value), w.heap = w'.heap → X w args → X w' args)
  (own : ownKnob C.prog.godebug = none) (started : os.Started) (noInit : C.prog.inits.idxOf? f = none) (hfn : C.prog.funcs[f]? = some fn)
  (witness : ∃ (w : World) (tape : Tape) (i : Input), w.os = os ∧ (w.forCall tape i).Shaped C.prog ∧ i.vars = [] ∧ Input.okWide C.prog (w.forCall tape i) .any w.heap.size f i ∧
   ((s.pre enc C.prog fn conds apart (w.forCall tape i).memory i.args ∧ X (w.forCall tape i).memory i.args) ∧ sizedMet enc C.prog fn (OpenSpec.ofChange s) apart (w.forCall tape i).memory i.args) ∧ a.holds C.prog (lone (Frame.enter C.prog f i.args .normal) [] (w.forCall tape i)))
  (contract : ∀ (W : World) (base : Nat) (args : Array Value) (ds gs : List (DataW H)) (before : List MemPlace),
   (∀ (j : Nat) t v, fn.params[j]? = some t → args[j]? = some v → Value.okWide C.prog W .any base t v) →
   DataW.Whole enc C.prog fn.params.toList s.vars apart W args.toList ds gs before →
   conds.all (PathCond.test C.prog ⟨fn.params.toList, ds, s.plain.varTypes C.prog, gs⟩) = true →
   (DataW.weightsEach C.prog (fn.params.toList ++ s.plain.varTypes C.prog) (ds ++ gs)).all (· ≤ reachBytes) = true → W.ShapedOpen C.prog → X W args →
   a.holds C.prog (lone (Frame.enter C.prog f args .normal) [] W) →
   Calls C.prog f args W fun e W' => ∃ v, e = .returned v ∧ s.post enc C.prog fn apart fresh handsOn again W args v W') :
  ReturnsInHanded a C os f .any (fun w args => (s.pre enc C.prog fn conds apart w args ∧ X w args) ∧ sizedMet enc C.prog fn (OpenSpec.ofChange s) apart w args) (s.post enc C.prog fn apart fresh handsOn again) := by
 refine returnsInHanded_of_calls own started noInit witness fun w tape i _ hshape _ hok hpre hh => ?_
 obtain ⟨_, _, _, fn', hfn', _, _, _, _, hval⟩ := hok
 cases Option.some.inj (hfn'.symm.trans hfn)
 obtain ⟨⟨⟨ds, gs, before, q1, q2⟩, q3⟩, q4⟩ := hpre
 refine (contract (w.forCall tape i) w.heap.size i.args ds gs before hval (DataW.Whole.of_heap (w' := w.forCall tape i) (by rfl) q1) q2 (q4.weights q1) hshape (hX _ _ _ (by rfl) q3) hh).mono fun e W' ⟨v, he, hp⟩ => ?_
 cases he
 exact ChangeSpec.post_blind hp
theorem stand_in {P : Program} {ps : Array TypeId} (h : ps.all (fun t => !P.wantsStandIn t) = true) : ∀ (j : Nat) t, ps[j]? = some t → P.wantsStandIn t = false := fun j t ht => by
 rw [Array.all_eq_true_iff_forall_mem] at h
 have := h t (Array.mem_of_getElem? ht)
 simpa using this
theorem ghas_of_var {P : Program} {w : World} {n : String} {g : Nat} {cs : Array Value} {p : Array Value → Prop} (hg : P.globalNamed n = some g) (h : w.var? P n = some cs) (hp : p cs) : GHas w g p := by
 simp only [World.var?, hg, Option.bind_some] at h
 split at h
 ·rename_i c t f hh
  simp at h; subst h
  exact ⟨_, t, f, hh, hp⟩
 ·simp at h
theorem ghas_of_cell {w : World} {g : Nat} {v : Value} (h : w.cell? ⟨g, 0, none⟩ = some v) : GHas w g fun cs => cs[0]? = some v := by
 unfold World.cell? at h
 cases hb : w.heap[g]? with
 | none => simp [hb] at h
 | some o =>
  simp only [hb] at h
  cases o with
  | cells cs t f => exact ⟨cs, t, f, hb, by simpa using h⟩
  | _ => simp at h
theorem seat_err {W : World} {r : List (String × DataW Unit)} {n : String} (hn : Tryz.prog.globalNamed n = some 1) (h : laidMet Tryz.prog ((n, Rows.laid_strconv_ErrSyntax) :: r) W) : GHas W 1 fun cs => ∃ tp p, cs = #[.iface tp p] := by
 obtain ⟨a, s, hv, _⟩ := laid_sentinel (tp := 211) h hn (by kernel_rfl) Tryz.underlying162
  (fun u hu => typeName_ptr_named (nm := "errors.errorString") (by kernel_rfl) (by kernel_rfl) (by decide) u (hu.trans (by decide)))
  Tryz.underlying211 Tryz.underlying213 rfl rfl Tryz.underlying9 (by kernel_rfl) (by kernel_rfl)
 exact ghas_of_var hn hv ⟨_, _, rfl⟩
theorem seat_pow {W : World} {r : List (String × DataW Unit)} {n : String} (hn : Tryz.prog.globalNamed n = some 3) (h : laidMet Tryz.prog ((n, Rows.laid_internal_strconv_uint64pow10) :: r) W) : GHas W 3 fun cs => cs = (Lib.pow10Tab.map fun z => Value.int .u64 z).toArray := by
 have e : (Rows.laid_internal_strconv_uint64pow10 : DataW Unit) = Lib.tabData .u64 Lib.pow10Tab := by kernel_rfl
 rw [e] at h
 have := Lib.tabIs_of_head (t := 203) hn (by kernel_rfl) Tryz.underlying203 Tryz.underlying185 (by kernel_rfl) (by kernel_rfl) h
 exact ghas_of_var hn this rfl
theorem seat_max {W : World} (h : W.ShapedOpen Tryz.prog) : GHas W 0 fun cs => ∃ m, cs[0]? = some (Value.int .i64 m) := by
 obtain ⟨m, hm⟩ := cell_of_shapedOpen_int (g := 0) (t := 3) (zero := #[.int .i64 0]) (k := .i64) h (of_decide_eq_true (by kernel_rfl)) (by kernel_rfl) rfl (by kernel_rfl) (by kernel_rfl) Tryz.underlying3
 obtain ⟨cs, t, f, h1, h2⟩ := ghas_of_cell hm
 exact ⟨cs, t, f, h1, m, h2⟩
theorem ghas_lt {w : World} {g : Nat} {p : Array Value → Prop} (h : GHas w g p) : g + 1 ≤ w.heap.size := by
 obtain ⟨cs, t, f, h1, _⟩ := h
 rcases Nat.lt_or_ge g w.heap.size with h | h
 ·exact h
 ·rw [Array.getElem?_eq_none h] at h1; cases h1
end Go.Proofs.YtbgcaneflfdddaaGreatDoor
/- What the rows ask of the seat's program as a whole, decided once. -/
namespace Go.Proofs.YtbgcaneflfdddaaGreatDoor
open Go
theorem jfOwn : ownKnob Tryz.prog.godebug = none := by kernel_rfl
theorem jfLaid : laidOutB Tryz.prog = true := by kernel_rfl
theorem jfRowed : mapsRowed Tryz.prog = true := by kernel_rfl
theorem jfStops : (Tryz.prog.stops == []) = true := by kernel_rfl
theorem jfKnobs : (Tryz.prog.stopKnobs == []) = true := by kernel_rfl
theorem jfKeys : (Rows.fnCountsRow.plainKeys == Tryz.prog.plainKeys) = true := by kernel_rfl
theorem jfHeard : Tryz.prog.stopsHeard = true := by kernel_rfl
theorem jfEnter : Tryz.prog.mayEnter = true := by kernel_rfl
theorem jfLifted : (Rows.fnCountsRow.lifted == Tryz.prog.liftsFinal) = true := by kernel_rfl
theorem jfMake : (Tryz.prog.make == some Rows.fnCountsRow.make) = true := by kernel_rfl
theorem and_tt {a b : Bool} (ha : a = true) (hb : b = true) : (a && b) = true := by rw [ha, hb]; rfl
end Go.Proofs.YtbgcaneflfdddaaGreatDoor
