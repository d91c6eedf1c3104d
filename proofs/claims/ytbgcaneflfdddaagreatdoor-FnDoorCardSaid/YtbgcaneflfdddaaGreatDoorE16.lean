/- Walk: the reference draws a part. -/
import Derived.Test.YtbgcaneflfdddaaGreatDoorE15
import Derived.Test.YtbgcaneflfdddaaGreatDoorE14
import Derived.Deep.Upon
set_option linter.unusedVariables false
set_option linter.unusedSimpArgs false
set_option maxRecDepth 100000
set_option linter.unusedSectionVars false
namespace Go.Proofs.YtbgcaneflfdddaaGreatDoor
open Go.RowKit Go
variable [GC]
def isPa (r : D) : Prop := ∃ p : Part, r = enc p ∧ partB p = true
theorem partB_small {p : Part} (h : partB p = true) : p.core.cells.length ≤ 4 ∧ p.layers.length ≤ 3 := by
 obtain ⟨h1, h2, _⟩ := partB_iff.1 h
 exact ⟨coreB_len h1, h2⟩
def coreA (p : Core) (S1 : Value) : Array Value := #[.string p.kind, .bool p.on, .bool p.broken, S1, .int .i64 p.count]
theorem core_shape {w : World} {M : Addr → Prop} {p : Core} {v : Value} (h : R w M (enc p) v) : ∃ S1, v = .agg (coreA p S1) ∧ R w M (encS p.cells) S1 ∧ p.kind.size ≤ maxLen ∧ (IntKind.i64.min ≤ p.count ∧ p.count ≤ IntKind.i64.max) := by
 obtain ⟨cs, rfl, v0, r0, e0, ⟨rfl, h0⟩, v1, r1, rfl, rfl, v2, r2, rfl, rfl, v3, r3, rfl, h3, v4, r4, rfl, ⟨rfl, h4⟩, rfl⟩ := h
 have : cs = coreA p v3 := by rw [← Array.toList_inj, e0]; rfl
 exact ⟨v3, by rw [this], h3, h0, h4⟩
theorem bl_core (p : Core) (S1 : Value) : buildB Tryz.prog 29 [(0, .agg (coreA p S1))] = some (partA ⟨p, []⟩ S1 (.slice none 0 0)) := by kernel_rfl
theorem ca_3d : callable Tryz.prog 87 = true := by kernel_rfl
theorem ca_1b : callable Tryz.prog 52 = true := by kernel_rfl
theorem ca_1o : callable Tryz.prog 89 = true := by kernel_rfl
theorem iz_l : (Tryz.prog.info? 52).bind (·.zero) = some (.agg #[.string ⟨#[]⟩, .int .i64 0]) := by kernel_rfl
theorem is_l : (Tryz.prog.info? 52).map (·.size) = some 2 := by kernel_rfl
theorem inf_l : ∃ i, Tryz.prog.info? 52 = some i ∧ i.size = 2 := by
 have h := is_l
 simp only [Option.map_eq_some_iff] at h
 exact h
theorem r_load2 {n : Nat} {E : List (Nat × Value)} {w : World} {o : Oper} {T : TypeId} {fs : Array Field} {x : Operand} {b c : Nat} {u0 u1 : Value} (ho : o.op = .load T x) (hx : ev E x = some (.pointer (some ⟨b, c, none⟩))) (hT : Tryz.prog.underlying T = some (.struct fs)) (hi : ∃ i, Tryz.prog.info? T = some i ∧ i.size = 2)
  (h0 : w.cell? ⟨b, c, none⟩ = some u0) (h1 : w.cell? ⟨b, c + 1, none⟩ = some u1) : RunV n Tryz.prog E o w (.agg #[u0, u1]) w := fun a hE => by
 obtain ⟨i, hi, hs⟩ := hi
 have hl := run_loadVar_s (P := Tryz.prog) (w := w) hT hi (b := b) (o := c) (vs := [u0, u1]) (by rw [hs]; rfl) (fun j u hj => by
  match j, hj with
  | 0, hj => simp at hj; subst hj; exact h0
  | 1, hj => simp at hj; subst hj; exact h1
  | j + 2, hj => simp at hj)
 simp [execOp, ho, hE.ev hx, Instr.loadAt, Instr.sureAddr, hl]
theorem LD.start {w w1 w2 w3 : World} {M : Addr → Prop} {gc : Nat} {p0 : Core} {c0 : List D} {S1 : Value} (hM : Rdy w M) (hgM : ∀ q : Addr, q.block = gc → M q) (hng : NG ≤ gc) (hgl : gc < w.heap.size) (hb1 : Below w.heap.size w w1) (hs1 : w1.heap.size = w.heap.size + 1) (hr2 : RBlk w1 w.heap.size 29 zPart) (hc0 : Cur c0)
  (hf2 : Fr w1.heap.size (some gc) w1 w2) (hv : R w2 (fun q => (M q ∨ q.block = w.heap.size) ∨ RtM (.agg (coreA p0 S1)) [(3, 2)] q) (encS p0.cells) S1) (hrt : RtOk w1.heap.size w2 (.agg (coreA p0 S1)) [(3, 2)])
  (hcur : ∃ us T, w2.heap[gc]? = some (.cells us.toArray T (0, 0)) ∧ Rs w2 (fun q => (M q ∨ q.block = w.heap.size) ∨ RtM (.agg (coreA p0 S1)) [(3, 2)] q) c0 us) (ho : OneBlock (w2.alloc (.cells zPart 29)) w3 w2.heap.size) (hb3 : RBlk w3 w2.heap.size 29 (partA ⟨p0, []⟩ S1 (.slice none 0 0)))
  (hks : p0.kind.size ≤ maxLen) (hct : IntKind.i64.min ≤ p0.count ∧ p0.count ≤ IntKind.i64.max) :
  LD w M gc w.heap.size w2.heap.size (fun q => M q ∨ q.block = w.heap.size ∨ q.block = w2.heap.size ∨ spareIn S1 2 q) (⟨p0, []⟩, c0) S1 (.slice none 0 0) w3 := by
 have hb := below_alloc_one ho
 have hl : LiveAt w1.heap.size w2 S1 2 := hrt.1 (3, 2) (by simp)
 have hs2 : w1.heap.size ≤ w2.heap.size := hf2.size
 have hlt : w2.heap.size < w3.heap.size := hb3.lt
 have f1 : R w2 (fun _ => False) (.sl ((prC p0.cells).map rowP)) S1 := by rw [prC_row]; exact R.less hv fun _ h => h.elim
 have q1 := Row2.of (K := fun b => w.heap.size ≤ b ∧ b ≠ w.heap.size) (g := w2.heap.size) f1 hl (fun b z1 z2 => ⟨by omega, by omega⟩) (fun b z1 z2 => by omega)
 have out : ∀ {z : Addr}, spareIn S1 2 z → OutB S1 z.block := fun {z} h => by
  obtain ⟨o, s, len, cap, e, hc⟩ := spare_lt h
  exact ⟨o, s, len, cap, e, hc⟩
 have hgn : ∀ k, k < NG → some k ≠ some gc := fun k hk e => by simp at e; omega
 have hB : ∀ k, k < w.heap.size → k ≠ gc → w3.heap[k]? = w.heap[k]? := fun k hk hn => ((hb.block k (by omega)).trans (hf2.block k (by omega) (fun e => hn (by simpa using e)))).trans (hb1.block k hk)
 obtain ⟨us, T, c1, c2⟩ := hcur
 refine ⟨⟨hb.os.trans (hf2.os.trans hb1.os), hb.tape.trans (hf2.tape.trans hb1.tape), hb.output.trans (hf2.output.trans hb1.output), by omega, fun k hk hn => hB k hk fun e => hn (by rw [e])⟩, ⟨fun q hq => ?_, hM.2.1.keep fun k hk => hB k (Nat.lt_of_lt_of_le hk hM.2.2) (fun e => by omega), by have := hM.2.2; omega⟩, fun q hq => .inl hq, hgM, hng, hgl, hM.1, hc0, ⟨us, T, (hb.block gc (by omega)).trans c1, Rs.keep (Keeps.below hb fun q hql hq => ?_) _ _ c2⟩, ⟨Nat.le_refl _, fun q hq => .inr (.inl hq)⟩, ⟨by omega, fun q hq => .inr (.inr (.inl hq))⟩, fun q hq => .inr (.inr (.inr hq)), fun q hq => ?_, by omega, ?_, hb3, q1.keep (fun b hb' => hb.block b (q1.out hb').2.2) (fun _ h => h), ?_, ?_, hks, hct⟩
 ·rcases hq with hq | hq | hq | hq
  ·have := hM.1 q hq; omega
  ·omega
  ·omega
  ·have := (q1.out (out hq)).2.2; omega
 ·rcases hq with hq | hq | hq | hq
  ·exact .inl (.inl hq)
  ·exact .inl (.inr hq)
  ·omega
  ·exact .inr ⟨(3, 2), by simp, hq⟩
 ·obtain ⟨b, o, s, len, cap, e, _⟩ := hq
  simp at e
 ·have hne : some w.heap.size ≠ some gc := fun e => by simp at e; omega
  exact ((hb.block _ (by omega)).trans (hf2.block _ (by omega) hne)).trans hr2
 ·exact ⟨none, 0, rfl, Nat.le_refl _, by decide, fun _ => rfl, (fun x hx => by cases hx), fun b o s e => by cases e⟩
 ·rintro b _ ⟨o, s, len, cap, e, hc⟩
  simp at e
theorem setLy_twice (p : Part) (i : Nat) (u v : Int) (hi : i < p.layers.length) : setLy (setLy p i u) i v = setLy p i v := by
 unfold setLy
 simp only [Part.mk.injEq, true_and]
 have e : nth (p.layers.set i ⟨(nth p.layers i).name, u⟩) i = ⟨(nth p.layers i).name, u⟩ := by rw [nthC_set _ _ _ _ hi, if_pos rfl]
 rw [e, List.set_set]
theorem eqS_yes {s t : ByteArray} (h : s = t) : cmpS .eql s t = true := by subst h; simp [cmpS]
theorem eqS_no {s t : ByteArray} (h : s ≠ t) : cmpS .eql s t = false := by
 simp only [cmpS, beq_eq_false_iff_ne]
 exact fun e => h (toList_inj e)
def E4 (gc g2 g3 : Nat) (m : Int) : List (Nat × Value) := [(0, PQ gc), (2, PQ g2), (3, PQ g3), (4, .int .i64 m)]
def I1 (w0 : World) (M : Addr → Prop) (gc g2 g3 : Nat) (σ : Nat → Part × List D) (n : Nat) (m : Nat) (E : List (Nat × Value)) (w : World) : Prop := ∃ k Ba S1 S2, k + m = n ∧ E = E4 gc g2 g3 (m : Int) ∧ LD w0 M gc g2 g3 Ba (σ k) S1 S2 w
def E5 (gc g2 g3 : Nat) (S2 : Value) (n i : Nat) : List (Nat × Value) := [(0, PQ gc), (2, PQ g2), (3, PQ g3), (32, S2), (33, .int .i64 (n : Nat)), (34, .int .i64 (i : Nat))]
def I2 (w0 : World) (M : Addr → Prop) (gc g2 g3 : Nat) (τ : Nat → Part × List D) (S2 : Value) (n : Nat) (m : Nat) (E : List (Nat × Value)) (w : World) : Prop := ∃ i Ba S1, i + m = n ∧ E = E5 gc g2 g3 S2 n i ∧ LD w0 M gc g2 g3 Ba (τ i) S1 S2 w
set_option maxHeartbeats 8000000 in
theorem d_l4Draw : DrR 51 [] isPa [(3, 2), (5, 2)] := by
 intro cs hcs
 obtain ⟨r0, c0, ⟨p0, rfl, hp0⟩, hc0, F0⟩ := d_l3Draw cs hcs
 obtain ⟨rn, c1, ⟨n0, rfl, hn0, hn4⟩, hc1, F1⟩ := d_l1Below 4 c0 hc0
 have hn4 := hn4 (by omega)
 obtain ⟨n, rfl⟩ : ∃ n : Nat, n0 = (n : Int) := ⟨n0.toNat, by omega⟩
 have hP0 : partB ⟨p0, []⟩ = true := partB_iff.2 ⟨hp0, by simp, fun i hi => by simp at hi⟩
 obtain ⟨σ, hσ0, hσ⟩ := chain_ex (fun _ => DP) (fun _ => Wr) (fun k a h => wr_ex h) (a := ((⟨p0, []⟩, c1) : Part × List D)) ⟨hP0, hc1⟩
 obtain ⟨τ, hτ0, hτ⟩ := chain_ex (fun _ => DP) Nu (fun k a h => nu_ex k h) (a := σ n) (hσ n).1
 generalize hln : (σ n).1.layers.length = ln
 have hτl : ∀ i, (τ i).1.layers.length = ln := by
  intro i
  induction i with
  | zero => rw [hτ0]; exact hln
  | succ i ih =>
   by_cases hc : ndL (τ i).1 i = true ∧ i < (τ i).1.layers.length
   ·obtain ⟨v, x, mid, _, _, _, _, _, e⟩ := (hτ i).2.1 hc
    rw [e, setLy_len, ih]
   ·rw [(hτ i).2.2 hc, ih]
 refine ⟨enc (τ ln).1, (τ ln).2, ⟨_, rfl, (hτ ln).1.1⟩, (hτ ln).1.2, by kernel_rfl, fun w M gc vs hM hr hbx => ?_⟩
 obtain ⟨us, T, hu1, hu2, hng, hgM⟩ := hbx cs rfl
 have hr : vs = [] := hr
 subst hr
 have hgl : gc < w.heap.size := (Array.getElem?_eq_some_iff.1 hu1).1
 refine calls_CW (E := [(0, PQ gc)]) Tryz.func51 rfl Tryz.ntmps51 (by simp) (by simp) ?_
 refine CW.seq (CW.region ?_)
 refine WL.vv rfl rfl (r_alloc rfl iz_p) (by decide) ?_
 refine WL.nil (NX.next ?_)
 show CW _ Tryz.prog _ _ _ (w.alloc (.cells zPart 29))
 have hb1 : Below w.heap.size w (w.alloc (.cells zPart 29)) := by go_grown
 have hs1 : (w.alloc (.cells zPart 29)).heap.size = w.heap.size + 1 := World.size_alloc _ _
 have hr2 : RBlk (w.alloc (.cells zPart 29)) w.heap.size 29 zPart := RBlk.new w _ _
 generalize (w.alloc (.cells zPart 29)) = w1 at hb1 hs1 hr2 ⊢
 have hM1 : Rdy w1 (fun q => M q ∨ q.block = w.heap.size) := hM.below hb1 fun q hq => by rcases hq with hq | hq; have := hM.1 q hq; omega; omega
 have hbx1 : ∀ cs', some cs = some cs' → ∃ us T, w1.heap[gc]? = some (.cells us.toArray T (0, 0)) ∧ Rs w1 (fun q => M q ∨ q.block = w.heap.size) cs' us ∧ NG ≤ gc ∧ ∀ q : Addr, q.block = gc → M q ∨ q.block = w.heap.size := fun cs' e => by
  cases e
  exact ⟨us, T, (hb1.block gc hgl).trans hu1, Rs.keep (Keeps.below hb1 fun q hl hq => by rcases hq with hq | hq; exact hq; omega) _ _ hu2, hng, fun q hq => .inl (hgM q hq)⟩
 refine CW.seq (CW.region ?_)
 refine WL.vv rfl rfl (r_move rfl rfl) (by decide) ?_
 refine WL.c rfl rfl (r_call (args := #[PQ gc]) ca_3d rfl rfl rfl) (by decide) (F0.2 w1 _ gc [] hM1 rfl hbx1) ?_
 rintro _ w2 ⟨v, rfl, hv, hf2, hrt, hcur⟩
 obtain ⟨S1, rfl, hS1, hks, hct⟩ := core_shape hv
 refine ⟨_, rfl, ?_⟩
 refine WL.vv rfl rfl (r_build (vs := [(0, .agg (coreA p0 S1))]) rfl rfl (bl_core p0 S1)) (by decide) ?_
 refine WL.vv rfl rfl (r_alloc rfl iz_p) (by decide) ?_
 have hone0 : ∀ u ∈ (partA ⟨p0, []⟩ S1 (.slice none 0 0)).toList, u.oneCell' = true := by
  obtain ⟨a, n, c, e, _⟩ := hS1
  rw [e]; exact part_one _
 refine WL.st rfl rfl rfl rfl (cs := partA ⟨p0, []⟩ S1 (.slice none 0 0)) rfl (show RBlk (w2.alloc (.cells zPart 29)) w2.heap.size 29 zPart from RBlk.new w2 _ _) rfl hone0 is_p fun w3 R3 O3 => ?_
 have H3 := LD.start hM hgM hng hgl hb1 hs1 hr2 hc0 hf2 hS1 hrt (hcur rfl) O3 R3 hks hct
 clear hv hcur hrt hS1 hf2 hone0 hM1 hbx1 hu1 hu2 hr2 O3 R3
 generalize w2.heap.size = g3 at H3 ⊢
 generalize hg2 : w.heap.size = g2 at H3 ⊢
 refine WL.nil (NX.next ?_)
 refine CW.sub (E' := [(0, PQ gc), (2, PQ g2), (3, PQ g3)]) ⟨rfl, rfl, rfl, trivial⟩ ?_
 refine CW.seq (CW.seq (CW.region ?_))
 refine WL.vv rfl rfl (r_move rfl rfl) (by decide) ?_
 refine WL.c rfl rfl (r_call (args := #[PQ gc, .int .i64 4]) ca_1b rfl rfl rfl) (by decide) (H3.draws hc1 F1 ⟨_, [], rfl, ⟨rfl, by decide⟩, rfl⟩) ?_
 rintro _ w4 ⟨v, rfl, hv, -, H4⟩
 obtain ⟨rfl, -⟩ : v = .int .i64 (n : Int) ∧ True := ⟨hv.1, trivial⟩
 refine ⟨_, rfl, ?_⟩
 refine WL.vv rfl rfl (r_assign rfl rfl) (by decide) ?_
 refine WL.nil (NX.next ?_)
 refine CW.sub (E' := E4 gc g2 g3 (n : Int)) ⟨rfl, rfl, rfl, rfl, trivial⟩ ?_
 refine CW.block (CW.loop (I1 w M gc g2 g3 σ n) n ⟨0, _, _, _, by omega, rfl, by rw [hσ0]; exact H4⟩ ?_)
 rintro m E wr ⟨k, Ba, S1, S2, hk, rfl, H⟩
 refine CW.seq (CW.seq (CW.region ?_))
 refine WL.vv rfl rfl (r_move rfl rfl) (by decide) ?_
 rcases Nat.eq_zero_or_pos m with hm | hm
 ·subst hm
  refine WL.vv rfl rfl (r_cmpB (b := false) rfl rfl rfl rfl (by decide)) (by decide) ?_
  refine WL.nil (NX.next (CW.no rfl (CW.exit (NX.exi (NX.exi (NX.exiB (NX.next ?_)))))))
  obtain rfl : k = n := by omega
  refine CW.sub (E' := [(0, PQ gc), (2, PQ g2), (3, PQ g3)]) ⟨rfl, rfl, rfl, trivial⟩ ?_
  have hlS := H.lenS
  rw [hln] at hlS
  obtain ⟨al, cap, rfl, hcl, _⟩ := hlS
  refine CW.seq (CW.seq (CW.region ?_))
  refine WL.vv rfl rfl (r_field rfl rfl fo_p1) (by decide) ?_
  refine WL.vv rfl rfl (r_load rfl rfl Tryz.underlying27 rfl (H.b3.cell 5)) (by decide) ?_
  refine WL.vv rfl rfl (r_len rfl rfl rfl rfl Tryz.underlying27 rfl) (by decide) ?_
  refine WL.vv rfl rfl (r_move rfl rfl) (by decide) ?_
  refine WL.nil (NX.next ?_)
  refine CW.sub (E' := E5 gc g2 g3 (.slice al ln cap) ln 0) ⟨rfl, rfl, rfl, rfl, rfl, rfl, trivial⟩ ?_
  refine CW.block (CW.loop (I2 w M gc g2 g3 τ (.slice al ln cap) ln) ln ⟨0, _, _, by omega, rfl, by rw [hτ0]; exact H⟩ ?_)
  clear H
  rintro m E wr ⟨i, Ba, S1, hi, rfl, H⟩
  refine CW.seq (CW.region ?_)
  rcases Nat.eq_zero_or_pos m with hm | hm
  ·subst hm
   obtain rfl : i = ln := by omega
   refine WL.vv rfl rfl (r_cmpB (b := false) rfl rfl rfl rfl (by simp [cmpI])) (by decide) ?_
   refine WL.nil (NX.next (CW.seq (CW.no rfl (CW.exit (NX.exi (NX.exi (NX.exiB (NX.next ?_))))))))
   refine CW.seq (CW.region ?_)
   refine WL.vv rfl rfl (r_loadS rfl rfl Tryz.underlying29 rfl H.b3 is_p) (by decide) ?_
   refine WL.st rfl rfl rfl rfl rfl H.b2 rfl H.hone is_p fun wj Rj Oj => ?_
   refine WL.nil (NX.next (CW.ret ?_))
   subst hg2
   obtain ⟨v, z1, z2, z3, z4, z5⟩ := H.fin Oj
   exact NX.body1 rfl rfl Rj Tryz.underlying29 rfl is_p ⟨v, z1, z2, z3, z4, fun _ => z5⟩
  ·obtain ⟨m', rfl⟩ : ∃ m', m = m' + 1 := ⟨m - 1, by omega⟩
   have hil : i < (τ i).1.layers.length := by rw [hτl]; omega
   have hln3 : ln ≤ 3 := by have := (partB_small (hτ i).1.1).2; rw [hτl] at this; exact this
   obtain ⟨b, o, cp, e, _⟩ := H.r2.at (i := i) (by rw [prL_len]; exact hil)
   simp only [Value.slice.injEq] at e
   obtain ⟨rfl, -, rfl⟩ := e
   obtain ⟨-, -, y0, y1, hfz, ⟨hge, hb2⟩, hb3, hnm⟩ := H.lay hil
   refine WL.vv rfl rfl (r_cmpB (b := true) rfl rfl rfl rfl (by first | (simp [cmpI]; done) | (simp [cmpI]; omega))) (by decide) ?_
   refine WL.nil (NX.next (CW.seq (CW.yes rfl (CW.skip (NX.next ?_)))))
   refine CW.seq (CW.block ?_)
   refine CW.seq (CW.region ?_)
   refine WL.vv rfl rfl (r_move rfl rfl) (by decide) ?_
   refine WL.vv rfl rfl (r_index rfl rfl rfl (by omega) (by omega) es_l) (by decide) ?_
   refine WL.vv rfl rfl (r_load2 rfl rfl Tryz.underlying52 inf_l y0 y1) (by decide) ?_
   refine WL.vv rfl rfl (r_alloc rfl iz_l) (by decide) ?_
   refine WL.vv rfl rfl (r_assign rfl rfl) (by decide) ?_
   refine WL.st rfl rfl rfl rfl (cs := #[.string (nth (τ i).1.layers i).name, .int .i64 (nth (τ i).1.layers i).count]) rfl (RBlk.new wr 52 #[.string ⟨#[]⟩, .int .i64 0]) rfl (by intro u hu; simp at hu; rcases hu with rfl | rfl <;> rfl) is_l fun w5 R5 O5 => ?_
   have H5 := H.below (below_alloc_one O5)
   generalize wr.heap.size = b8 at R5 ⊢
   refine WL.nil (NX.next ?_)
   refine CW.sub (E' := [(0, PQ gc), (2, PQ g2), (3, PQ g3), (32, .slice (some ⟨b, o, none⟩) ln cap), (33, .int .i64 (ln : Nat)), (34, .int .i64 (i : Nat)), (7, .int .i64 (i : Nat)), (8, PQ b8)]) ⟨rfl, rfl, rfl, rfl, rfl, rfl, rfl, rfl, trivial⟩ ?_
   refine CW.seq (CW.region ?_)
   refine WL.vv rfl rfl (r_field rfl rfl fo_l0) (by decide) ?_
   refine WL.vv rfl rfl (r_load rfl rfl Tryz.underlying9 rfl (R5.cell 0)) (by decide) ?_
   by_cases hn1 : (nth (τ i).1.layers i).name = counts
   ·have hnd : ndL (τ i).1 i = true := by unfold ndL; simp [hn1]
    refine WL.vv rfl rfl (r_eqSB (b := true) rfl rfl rfl (eqS_yes hn1)) (by decide) ?_
    refine WL.vv rfl rfl (r_move rfl rfl) (by decide) ?_
    refine WL.no (b := true) rfl rfl rfl rfl (by decide) ?_
    refine WL.no (b := true) rfl rfl rfl rfl (by decide) ?_
    refine WL.no (b := true) rfl rfl rfl rfl (by decide) ?_
    refine WL.vv rfl rfl (r_pickT rfl rfl rfl) (by decide) ?_
    refine WL.nil (NX.next (CW.yes rfl ?_))
    obtain ⟨v, x, mid, hv0, hv3, hcm, Fv, Fx, eN⟩ := (hτ i).2.1 ⟨hnd, hil⟩
    have hvi : IntKind.i64.min ≤ v ∧ v ≤ IntKind.i64.max := by
     have e1 : IntKind.i64.min = -9223372036854775808 ∧ IntKind.i64.max = 9223372036854775807 := by decide
     rw [e1.1, e1.2]; omega
    refine CW.sub (E' := [(0, PQ gc), (2, PQ g2), (3, PQ g3), (32, .slice (some ⟨b, o, none⟩) ln cap), (33, .int .i64 (ln : Nat)), (34, .int .i64 (i : Nat)), (7, .int .i64 (i : Nat))]) ⟨rfl, rfl, rfl, rfl, rfl, rfl, rfl, trivial⟩ ?_
    refine CW.seq (CW.any (fun W => RBlk W g3 29 (partA (τ i).1 S1 (.slice (some ⟨b, o, none⟩) ln cap))) 7 mo fun wd hwd hBd => ⟨H5.b3.below hBd H5.b3.lt, ?_⟩)
    have H6 := H5.below hBd
    refine AU.take 0 rfl (by kernel_rfl) (by kernel_rfl) (by kernel_rfl) (by kernel_rfl) (fun _ _ _ h => h) rfl rfl (fun W hW => r_field rfl rfl fo_p1) (by decide) H6.b3 ?_
    refine AU.take 1 rfl (by kernel_rfl) (by kernel_rfl) (by kernel_rfl) (by kernel_rfl) (fun _ _ _ h => h) rfl rfl (fun W hW => r_load rfl rfl Tryz.underlying27 rfl (hW.cell 5)) (by decide) H6.b3 ?_
    refine AU.take 2 rfl (by kernel_rfl) (by kernel_rfl) (by kernel_rfl) (by kernel_rfl) (fun _ _ _ h => h) rfl rfl (fun W hW => r_move rfl rfl) (by decide) H6.b3 ?_
    refine AU.take 3 rfl (by kernel_rfl) (by kernel_rfl) (by kernel_rfl) (by kernel_rfl) (fun _ _ _ h => h) rfl rfl (fun W hW => r_move rfl rfl) (by decide) H6.b3 ?_
    refine AU.c 4 (args := #[PQ gc, .int .i64 4]) rfl (by kernel_rfl) rfl rfl (r_call ca_1b rfl rfl rfl) (by decide) (H6.draws hcm Fv ⟨_, [], rfl, ⟨rfl, by decide⟩, rfl⟩) ?_
    rintro _ w7 ⟨u, rfl, hu, -, H7⟩
    obtain ⟨rfl, -⟩ : u = .int .i64 v ∧ True := ⟨hu.1, trivial⟩
    obtain ⟨-, -, -, y3, hfz7, -⟩ := H7.lay hil
    refine ⟨_, rfl, fun _ => H7.b3, ?_⟩
    refine AU.vv 5 rfl (by kernel_rfl) rfl rfl (r_index rfl rfl rfl (by omega) (by omega) es_l) (by decide) (fun _ => H7.b3) ?_
    refine AU.vv 6 rfl (by kernel_rfl) rfl rfl (r_field rfl rfl fo_l1) (by decide) (fun _ => H7.b3) ?_
    refine AU.ss 7 rfl (by kernel_rfl) rfl rfl (r_store rfl rfl rfl is_i rfl y3 (hfz7 _ _)) (fun h => absurd rfl h) ?_
    have H8 := H7.put hil hvi
    refine AU.done (by kernel_rfl) (NX.next ?_)
    refine CW.sub (E' := [(0, PQ gc), (2, PQ g2), (3, PQ g3), (32, .slice (some ⟨b, o, none⟩) ln cap), (33, .int .i64 (ln : Nat)), (34, .int .i64 (i : Nat)), (7, .int .i64 (i : Nat))]) ⟨rfl, rfl, rfl, rfl, rfl, rfl, rfl, trivial⟩ ?_
    refine CW.seq (CW.region ?_)
    refine WL.vv rfl rfl (r_move rfl rfl) (by decide) ?_
    refine WL.c rfl rfl (r_call (args := #[PQ gc, .int .i64 15]) ca_1o rfl rfl rfl) (by decide) (H8.draws (hτ (i + 1)).1.2 Fx ⟨_, [], rfl, ⟨rfl, by decide⟩, rfl⟩) ?_
    rintro _ w9 ⟨u, rfl, hu, -, H9⟩
    obtain ⟨rfl, -⟩ : u = .bool x ∧ True := ⟨hu, trivial⟩
    refine ⟨_, rfl, ?_⟩
    cases x with
    | false =>
     refine WL.nil (NX.next (CW.no rfl (CW.skip ?_)))
     have e : (setLy (τ i).1 i v, (τ (i + 1)).2) = τ (i + 1) := by rw [Prod.ext_iff]; exact ⟨by rw [eN]; rfl, rfl⟩
     simp only at H9
     rw [e] at H9
     refine NX.norB (NX.next (CW.region ?_))
     refine WL.vv rfl rfl (r_arB (r := ((i + 1 : Nat) : Int)) rfl rfl rfl rfl (by rw [ar_add (by omega) (by omega)]; rfl)) (by decide) ?_
     refine WL.vv rfl rfl (r_move rfl rfl) (by decide) ?_
     exact WL.nil (NX.again m' (E5 gc g2 g3 (.slice (some ⟨b, o, none⟩) ln cap) ln (i + 1)) (by omega) ⟨rfl, rfl, rfl, rfl, rfl, rfl, trivial⟩ ⟨i + 1, _, _, by omega, rfl, H9⟩)
    | true =>
     refine WL.nil (NX.next (CW.yes rfl (CW.region ?_)))
     have hil9 : i < (setLy (τ i).1 i v).layers.length := by rw [setLy_len]; exact hil
     obtain ⟨-, -, -, y5, hfz9, -⟩ := H9.lay hil9
     refine WL.vv rfl rfl (r_field rfl rfl fo_p1) (by decide) ?_
     refine WL.vv rfl rfl (r_load rfl rfl Tryz.underlying27 rfl (H9.b3.cell 5)) (by decide) ?_
     refine WL.vv rfl rfl (r_move rfl rfl) (by decide) ?_
     refine WL.vv rfl rfl (r_index rfl rfl rfl (by omega) (by omega) es_l) (by decide) ?_
     refine WL.vv rfl rfl (r_field rfl rfl fo_l1) (by decide) ?_
     refine WL.s rfl rfl (r_store rfl rfl rfl is_i rfl y5 (hfz9 _ _)) ?_
     have H10 := H9.put hil9 (v := 999) (by decide)
     have e : (setLy (setLy (τ i).1 i v) i 999, (τ (i + 1)).2) = τ (i + 1) := by rw [Prod.ext_iff]; exact ⟨by rw [eN, setLy_twice _ _ _ _ hil]; rfl, rfl⟩
     simp only at H10
     rw [e] at H10
     refine WL.nil (NX.norB (NX.next (CW.region ?_)))
     refine WL.vv rfl rfl (r_arB (r := ((i + 1 : Nat) : Int)) rfl rfl rfl rfl (by rw [ar_add (by omega) (by omega)]; rfl)) (by decide) ?_
     refine WL.vv rfl rfl (r_move rfl rfl) (by decide) ?_
     exact WL.nil (NX.again m' (E5 gc g2 g3 (.slice (some ⟨b, o, none⟩) ln cap) ln (i + 1)) (by omega) ⟨rfl, rfl, rfl, rfl, rfl, rfl, trivial⟩ ⟨i + 1, _, _, by omega, rfl, H10⟩)
   ·refine WL.vv rfl rfl (r_eqSB (b := false) rfl rfl rfl (eqS_no hn1)) (by decide) ?_
    refine WL.vv rfl rfl (r_move rfl rfl) (by decide) ?_
    refine WL.vg (b := false) rfl rfl rfl rfl (r_field rfl rfl fo_l0) (by decide) ?_
    refine WL.vg (b := false) rfl rfl rfl rfl (r_load rfl rfl Tryz.underlying9 rfl (R5.cell 0)) (by decide) ?_
    by_cases hn2 : (nth (τ i).1.layers i).name = hears
    ·have hnd : ndL (τ i).1 i = true := by unfold ndL; simp [hn2]
     refine WL.vg (b := false) rfl rfl rfl rfl (r_eqSB (b := true) rfl rfl rfl (eqS_yes hn2)) (by decide) ?_
     refine WL.vv rfl rfl (r_pickF rfl rfl rfl) (by decide) ?_
     refine WL.nil (NX.next (CW.yes rfl ?_))
     obtain ⟨v, x, mid, hv0, hv3, hcm, Fv, Fx, eN⟩ := (hτ i).2.1 ⟨hnd, hil⟩
     have hvi : IntKind.i64.min ≤ v ∧ v ≤ IntKind.i64.max := by
      have e1 : IntKind.i64.min = -9223372036854775808 ∧ IntKind.i64.max = 9223372036854775807 := by decide
      rw [e1.1, e1.2]; omega
     refine CW.sub (E' := [(0, PQ gc), (2, PQ g2), (3, PQ g3), (32, .slice (some ⟨b, o, none⟩) ln cap), (33, .int .i64 (ln : Nat)), (34, .int .i64 (i : Nat)), (7, .int .i64 (i : Nat))]) ⟨rfl, rfl, rfl, rfl, rfl, rfl, rfl, trivial⟩ ?_
     refine CW.seq (CW.any (fun W => RBlk W g3 29 (partA (τ i).1 S1 (.slice (some ⟨b, o, none⟩) ln cap))) 7 mo fun wd hwd hBd => ⟨H5.b3.below hBd H5.b3.lt, ?_⟩)
     have H6 := H5.below hBd
     refine AU.take 0 rfl (by kernel_rfl) (by kernel_rfl) (by kernel_rfl) (by kernel_rfl) (fun _ _ _ h => h) rfl rfl (fun W hW => r_field rfl rfl fo_p1) (by decide) H6.b3 ?_
     refine AU.take 1 rfl (by kernel_rfl) (by kernel_rfl) (by kernel_rfl) (by kernel_rfl) (fun _ _ _ h => h) rfl rfl (fun W hW => r_load rfl rfl Tryz.underlying27 rfl (hW.cell 5)) (by decide) H6.b3 ?_
     refine AU.take 2 rfl (by kernel_rfl) (by kernel_rfl) (by kernel_rfl) (by kernel_rfl) (fun _ _ _ h => h) rfl rfl (fun W hW => r_move rfl rfl) (by decide) H6.b3 ?_
     refine AU.take 3 rfl (by kernel_rfl) (by kernel_rfl) (by kernel_rfl) (by kernel_rfl) (fun _ _ _ h => h) rfl rfl (fun W hW => r_move rfl rfl) (by decide) H6.b3 ?_
     refine AU.c 4 (args := #[PQ gc, .int .i64 4]) rfl (by kernel_rfl) rfl rfl (r_call ca_1b rfl rfl rfl) (by decide) (H6.draws hcm Fv ⟨_, [], rfl, ⟨rfl, by decide⟩, rfl⟩) ?_
     rintro _ w7 ⟨u, rfl, hu, -, H7⟩
     obtain ⟨rfl, -⟩ : u = .int .i64 v ∧ True := ⟨hu.1, trivial⟩
     obtain ⟨-, -, -, y3, hfz7, -⟩ := H7.lay hil
     refine ⟨_, rfl, fun _ => H7.b3, ?_⟩
     refine AU.vv 5 rfl (by kernel_rfl) rfl rfl (r_index rfl rfl rfl (by omega) (by omega) es_l) (by decide) (fun _ => H7.b3) ?_
     refine AU.vv 6 rfl (by kernel_rfl) rfl rfl (r_field rfl rfl fo_l1) (by decide) (fun _ => H7.b3) ?_
     refine AU.ss 7 rfl (by kernel_rfl) rfl rfl (r_store rfl rfl rfl is_i rfl y3 (hfz7 _ _)) (fun h => absurd rfl h) ?_
     have H8 := H7.put hil hvi
     refine AU.done (by kernel_rfl) (NX.next ?_)
     refine CW.sub (E' := [(0, PQ gc), (2, PQ g2), (3, PQ g3), (32, .slice (some ⟨b, o, none⟩) ln cap), (33, .int .i64 (ln : Nat)), (34, .int .i64 (i : Nat)), (7, .int .i64 (i : Nat))]) ⟨rfl, rfl, rfl, rfl, rfl, rfl, rfl, trivial⟩ ?_
     refine CW.seq (CW.region ?_)
     refine WL.vv rfl rfl (r_move rfl rfl) (by decide) ?_
     refine WL.c rfl rfl (r_call (args := #[PQ gc, .int .i64 15]) ca_1o rfl rfl rfl) (by decide) (H8.draws (hτ (i + 1)).1.2 Fx ⟨_, [], rfl, ⟨rfl, by decide⟩, rfl⟩) ?_
     rintro _ w9 ⟨u, rfl, hu, -, H9⟩
     obtain ⟨rfl, -⟩ : u = .bool x ∧ True := ⟨hu, trivial⟩
     refine ⟨_, rfl, ?_⟩
     cases x with
     | false =>
      refine WL.nil (NX.next (CW.no rfl (CW.skip ?_)))
      have e : (setLy (τ i).1 i v, (τ (i + 1)).2) = τ (i + 1) := by rw [Prod.ext_iff]; exact ⟨by rw [eN]; rfl, rfl⟩
      simp only at H9
      rw [e] at H9
      refine NX.norB (NX.next (CW.region ?_))
      refine WL.vv rfl rfl (r_arB (r := ((i + 1 : Nat) : Int)) rfl rfl rfl rfl (by rw [ar_add (by omega) (by omega)]; rfl)) (by decide) ?_
      refine WL.vv rfl rfl (r_move rfl rfl) (by decide) ?_
      exact WL.nil (NX.again m' (E5 gc g2 g3 (.slice (some ⟨b, o, none⟩) ln cap) ln (i + 1)) (by omega) ⟨rfl, rfl, rfl, rfl, rfl, rfl, trivial⟩ ⟨i + 1, _, _, by omega, rfl, H9⟩)
     | true =>
      refine WL.nil (NX.next (CW.yes rfl (CW.region ?_)))
      have hil9 : i < (setLy (τ i).1 i v).layers.length := by rw [setLy_len]; exact hil
      obtain ⟨-, -, -, y5, hfz9, -⟩ := H9.lay hil9
      refine WL.vv rfl rfl (r_field rfl rfl fo_p1) (by decide) ?_
      refine WL.vv rfl rfl (r_load rfl rfl Tryz.underlying27 rfl (H9.b3.cell 5)) (by decide) ?_
      refine WL.vv rfl rfl (r_move rfl rfl) (by decide) ?_
      refine WL.vv rfl rfl (r_index rfl rfl rfl (by omega) (by omega) es_l) (by decide) ?_
      refine WL.vv rfl rfl (r_field rfl rfl fo_l1) (by decide) ?_
      refine WL.s rfl rfl (r_store rfl rfl rfl is_i rfl y5 (hfz9 _ _)) ?_
      have H10 := H9.put hil9 (v := 999) (by decide)
      have e : (setLy (setLy (τ i).1 i v) i 999, (τ (i + 1)).2) = τ (i + 1) := by rw [Prod.ext_iff]; exact ⟨by rw [eN, setLy_twice _ _ _ _ hil]; rfl, rfl⟩
      simp only at H10
      rw [e] at H10
      refine WL.nil (NX.norB (NX.next (CW.region ?_)))
      refine WL.vv rfl rfl (r_arB (r := ((i + 1 : Nat) : Int)) rfl rfl rfl rfl (by rw [ar_add (by omega) (by omega)]; rfl)) (by decide) ?_
      refine WL.vv rfl rfl (r_move rfl rfl) (by decide) ?_
      exact WL.nil (NX.again m' (E5 gc g2 g3 (.slice (some ⟨b, o, none⟩) ln cap) ln (i + 1)) (by omega) ⟨rfl, rfl, rfl, rfl, rfl, rfl, trivial⟩ ⟨i + 1, _, _, by omega, rfl, H10⟩)
    ·have hnd : ¬ (ndL (τ i).1 i = true ∧ i < (τ i).1.layers.length) := by unfold ndL; simp [hn1, hn2]
     refine WL.vg (b := false) rfl rfl rfl rfl (r_eqSB (b := false) rfl rfl rfl (eqS_no hn2)) (by decide) ?_
     refine WL.vv rfl rfl (r_pickF rfl rfl rfl) (by decide) ?_
     refine WL.nil (NX.next (CW.no rfl (CW.skip ?_)))
     rw [← (hτ i).2.2 hnd] at H5
     refine NX.norB (NX.next (CW.region ?_))
     refine WL.vv rfl rfl (r_arB (r := ((i + 1 : Nat) : Int)) rfl rfl rfl rfl (by rw [ar_add (by omega) (by omega)]; rfl)) (by decide) ?_
     refine WL.vv rfl rfl (r_move rfl rfl) (by decide) ?_
     exact WL.nil (NX.again m' (E5 gc g2 g3 (.slice (some ⟨b, o, none⟩) ln cap) ln (i + 1)) (by omega) ⟨rfl, rfl, rfl, rfl, rfl, rfl, trivial⟩ ⟨i + 1, _, _, by omega, rfl, H5⟩)
 ·obtain ⟨m', rfl⟩ : ∃ m', m = m' + 1 := ⟨m - 1, by omega⟩
  refine WL.vv rfl rfl (r_cmpB (b := true) rfl rfl rfl rfl (by first | (simp [cmpI]; done) | (simp [cmpI]; omega))) (by decide) ?_
  refine WL.nil (NX.next (CW.yes rfl (CW.skip (NX.next ?_))))
  obtain ⟨s, F4, e4⟩ := (hσ k).2
  obtain ⟨hz1, hz2⟩ := partB_small (hσ k).1.1
  refine CW.seq (CW.block ?_)
  refine CW.sub (E' := E4 gc g2 g3 ((m' + 1 : Nat) : Int)) ⟨rfl, rfl, rfl, rfl, trivial⟩ ?_
  refine CW.seq (CW.any (fun W => RBlk W g3 29 (partA (σ k).1 S1 S2)) 12 mo fun wd hwd hBd => ⟨H.b3.below hBd H.b3.lt, ?_⟩)
  refine reg5 (fun _ _ t _ _ h => by cases t <;> exact h) (hσ (k + 1)).1.2 F4 (by omega) (by omega) (fun Ba' W T1 T2 b5 b6 H' hT r5 r6 => ?_) Ba wd (H.below hBd)
  refine NX.next ?_
  refine CW.seq (CW.region ?_)
  refine WL.vv rfl rfl (r_field rfl rfl fo_r0) (by decide) ?_
  refine WL.vv rfl rfl (r_load rfl rfl Tryz.underlying3 rfl (r6.cell 0)) (by decide) ?_
  have fin : ∀ Ba T1 T2 W, LD w M gc g2 g3 Ba (σ (k + 1)) T1 T2 W → I1 w M gc g2 g3 σ n m' (E4 gc g2 g3 (m' : Int)) W := fun Ba T1 T2 W H => ⟨k + 1, Ba, T1, T2, by omega, rfl, H⟩
  by_cases hc : (wrapP (σ k).1 s).2.code = 0
  ·refine WL.vv rfl rfl (r_cmpB (b := true) rfl rfl rfl rfl (by simp [cmpI, hc])) (by decide) ?_
   refine WL.nil (NX.next (CW.yes rfl (CW.region ?_)))
   refine WL.vv rfl rfl (r_loadS rfl rfl Tryz.underlying29 rfl r5 is_p) (by decide) ?_
   refine WL.st rfl rfl rfl rfl rfl H'.b3 rfl hT.hone is_p fun W' R' O' => ?_
   have H2 := H'.turn O' R' hT.r1 hT.r2 hT.ap hT.s1 hT.s2 hT.ks hT.ct
   have e : ((wrapP (σ k).1 s).1, (σ (k + 1)).2) = σ (k + 1) := by rw [Prod.ext_iff]; exact ⟨by rw [e4, wrapIf, if_pos hc], rfl⟩
   rw [e] at H2
   refine WL.nil (NX.norB (NX.next (CW.region ?_)))
   refine WL.vv rfl rfl (r_move rfl rfl) (by decide) ?_
   refine WL.vv rfl rfl (r_arB (r := (m' : Int)) rfl rfl rfl rfl (by rw [ar_sub (by omega) (by omega)]; omega)) (by decide) ?_
   refine WL.vv rfl rfl (r_assign rfl rfl) (by decide) ?_
   exact WL.nil (NX.again m' (E4 gc g2 g3 (m' : Int)) (by omega) ⟨rfl, rfl, rfl, rfl, trivial⟩ (fin _ _ _ _ H2))
  ·refine WL.vv rfl rfl (r_cmpB (b := false) rfl rfl rfl rfl (by simp [cmpI, hc])) (by decide) ?_
   refine WL.nil (NX.next (CW.no rfl (CW.skip ?_)))
   have e : ((σ k).1, (σ (k + 1)).2) = σ (k + 1) := by rw [Prod.ext_iff]; exact ⟨by rw [e4, wrapIf, if_neg hc], rfl⟩
   rw [e] at H'
   refine NX.norB (NX.next (CW.region ?_))
   refine WL.vv rfl rfl (r_move rfl rfl) (by decide) ?_
   refine WL.vv rfl rfl (r_arB (r := (m' : Int)) rfl rfl rfl rfl (by rw [ar_sub (by omega) (by omega)]; omega)) (by decide) ?_
   refine WL.vv rfl rfl (r_assign rfl rfl) (by decide) ?_
   exact WL.nil (NX.again m' (E4 gc g2 g3 (m' : Int)) (by omega) ⟨rfl, rfl, rfl, rfl, trivial⟩ (fin _ _ _ _ H'))
end Go.Proofs.YtbgcaneflfdddaaGreatDoor
/- keepCall's insertion: what the walk's end gives. -/
namespace Go.Proofs.YtbgcaneflfdddaaGreatDoor
open Go.RowKit Go
variable [GC]
theorem st_insert {K : Nat → Prop} {w wc W3 : World} {g : Nat} {S2 : Value} {p : Part} {l : List Cell} {T : TypeId} {a3 : Option Addr} {m c3 : Nat} {xs : List Value} (h : St K w g S2 K p wc) (hB : Below wc.heap.size wc W3)
  (ho : W3.ownsRow wc.heap.size T 2 (.slice a3 m c3) m xs) (hx : xs = flatL (prC l)) (hm : m = (prC l).length) (hok : ∀ x ∈ prC l, pOk x) :
  St K w g S2 (Gr K wc W3) ⟨⟨p.core.kind, p.core.on, p.core.broken, l, p.core.count⟩, p.layers⟩ (W3.setCell ⟨g, 3, none⟩ (.slice a3 m c3)) := by
 have hg := h.pb.glt
 have P := (h.pb.below hB).mono (K' := Gr K wc W3) (fun b hb => .inl hb) (fun b hb => by
  rcases hb with hb | hb
  ·have := h.pb.kb b hb; exact ⟨this.1, Nat.lt_of_lt_of_le this.2 hB.size⟩
  ·exact ⟨Nat.le_trans h.pb.gi.2 hb.1, hb.2⟩)
 have hr := Row2.owns (K := Gr K wc W3) (g := g) ho hx hm hok (fun b h1 h2 => .inr ⟨h1, h2⟩) (fun b h1 _ e => by omega)
 have P3 := P.setCells hr (fun b hb h2 => by
  have hl := (h.pb.ly.out h2).2.2
  obtain ⟨o, s, len, cap', e, hc⟩ := hb
  obtain ⟨_, ⟨e0, _⟩ | ⟨g', cap, cur, e0, h1, _⟩⟩ := ho
  ·rw [e0] at e; cases e
  ·rw [e0] at e; cases e; omega)
 exact ⟨P3, h.nb, fun b hk => by
  rcases hk with hk | hk
  ·exact .inl hk
  ·exact .inr ⟨Nat.le_trans h.fr.size hk.1, by simpa using hk.2⟩, (h.fr.transB hB).transS _ (.inl h.pb.kg)⟩
theorem leaf_insert {K : Nat → Prop} {w wc W3 : World} {g : Nat} {S2 : Value} {p : Part} {x : Call} {T TR : TypeId} {a3 : Option Addr} {n k m c3 r : Nat} {xs : List Value} {cs : Array Value} (h : St K w g S2 K p wc) (hx : CallFits x)
  (hn : n = p.core.cells.length) (hk : atC p.core.cells x.key = k) (his : isK p.core.cells x.key = false) (hB : Below wc.heap.size wc W3)
  (ho : W3.ownsRow wc.heap.size T 2 (.slice a3 m c3) m xs) (hm : m = k + 1 + (n - k)) (hxs : xs = flatL ((prC p.core.cells).take k) ++ [.string x.key, .int .i64 x.val] ++ flatL ((prC p.core.cells).drop k))
  (hr : RBlk wc r TR cs) (hkr : ¬ K r) :
  ∃ K', St K w g S2 K' ⟨⟨p.core.kind, p.core.on, p.core.broken, putC p.core.cells x.key x.val, p.core.count⟩, p.layers⟩ (W3.setCell ⟨g, 3, none⟩ (.slice a3 (k + 1 + (n - k)) c3)) ∧ ¬ K' r ∧ RBlk (W3.setCell ⟨g, 3, none⟩ (.slice a3 (k + 1 + (n - k)) c3)) r TR cs := by
 have eP : putC p.core.cells x.key x.val = p.core.cells.take k ++ [⟨x.key, x.val⟩] ++ p.core.cells.drop k := by
  unfold putC
  rw [if_neg (by rw [his]; simp), hk]
 have hkn : k ≤ n := by rw [hn, ← hk]; exact atC_le _ _
 have hks : ∀ c ∈ p.core.cells, pOk (c.key, c.val) := fun c hc => by
  obtain ⟨S1, _, q2, _⟩ := h.pb.bx
  exact q2.ok (List.mem_map.2 ⟨c, hc, rfl⟩)
 subst hm
 refine ⟨_, st_insert h hB ho ?_ ?_ ?_, ?_, ?_⟩
 ·rw [hxs, eP]
  simp [prC, flatL, List.map_take, List.map_drop]
 ·rw [prC_len, eP]
  simp [← hn]
  omega
 ·intro y hy
  obtain ⟨c, hc, rfl⟩ := List.mem_map.1 hy
  rw [eP] at hc
  rcases List.mem_append.1 hc with hc | hc
  ·rcases List.mem_append.1 hc with hc | hc
   ·exact hks c (List.mem_of_mem_take hc)
   ·cases List.mem_singleton.1 hc
    exact ⟨hx.key, hx.val⟩
  ·exact hks c (List.mem_of_mem_drop hc)
 ·intro hkk
  rcases hkk with hkk | hkk
  ·exact hkr hkk
  ·have := hr.lt; omega
 ·exact (hr.below hB hr.lt).far (fun e => hkr (by rw [e]; exact h.pb.kg)) _
theorem owns_le {w : World} {B n sz : Nat} {e : TypeId} {a : Option Addr} {c : Nat} {xs : List Value} (h : w.ownsRow B e sz (.slice a n c) n xs) : n ≤ c := by
 obtain ⟨_, ⟨e0, hz⟩ | ⟨g', cap, cur, e0, h1, h2, h3, _⟩⟩ := h
 ·cases e0; exact Nat.le_refl _
 ·cases e0; omega
theorem step_append_none {P : Program} {ops : Array Oper} {o : Oper} {a : Act} {w : World} {K : Act → World → Prop} {Q : Exit → Act → World → Prop} {E : Prop}
  (hg : o.guard = none) (s x : Operand) (t : TypeId) (hop : o.op = Op.call { callee := Callee.builtin Builtin.append, args := #[s, x], argTypes := #[t, t] })
  (e : TypeId) (i : TypeInfo) (ht : P.underlying t = some (.slice e)) (hi : P.info? e = some i)
  (base : Option Addr) (n cap : Nat) (hs : a.eval s = .slice base n cap) (hle : n ≤ cap) (hx : a.eval x = .slice none 0 0)
  (hK : K (a.put o.dst (.slice base n cap)) w) :
  if Region.wanted o (yielded ops a.tmps) = true then Oper.wp P o a w K Q else E := by
 have hw : Region.wanted o (yielded ops a.tmps) = true := by simp [Region.wanted, hg]
 rw [if_pos hw]
 have hr : (Builtin.append_ #[t, t] o.type #[.slice base n cap, .slice none 0 0]).run P w = .ok (.slice base n cap) w :=
  run_append_nothing w t t o.type e i ht hi base n cap hle (.slice none 0 0) (Src.ofNil w ht 0)
 unfold Oper.wp execOp
 simp only [hop, resolve, invoke, builtin, Sem.run_bind, Sem.run_pure, Result.andThen_ok, List.map_toArray, List.map_cons, List.map_nil, hs, hx, hr]
 exact hK
end Go.Proofs.YtbgcaneflfdddaaGreatDoor
