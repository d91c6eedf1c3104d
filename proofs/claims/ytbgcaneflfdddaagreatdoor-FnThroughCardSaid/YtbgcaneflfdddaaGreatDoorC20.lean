/- Walk: a call within the layers of a part in a box (through), over an environment. -/
import Derived.Test.YtbgcaneflfdddaaGreatDoorC15
import Derived.Test.YtbgcaneflfdddaaGreatDoorC18
import Derived.Test.YtbgcaneflfdddaaGreatDoorC19
import Derived.Test.YtbgcaneflfdddaaGreatDoorC10
import Derived.Test.YtbgcaneflfdddaaGreatDoorC17
import Derived.WalkKit
import Derived.ProofKit
import Derived.OpenShut
import Derived.ShutString
import Derived.ChangeOld
import Derived.Below
import Derived.Deep.Slices
import Derived.Test.YtbgcaneflfdddaaGreatDoorTie
import Derived.Test.YtbgcaneflfdddaaGreatDoorCards
import Derived.HandedShaped
import Derived.LaidLaws
import Derived.Lib.LaidTab
import Derived.Stop.LaidErr
import Derived.Shelf.Vars
import Derived.SevenTiedAt
import Derived.Test.YtbgcaneflfdddaaGreatDoorC12
import Derived.ChangeVars
import Derived.Test.YtbgcaneflfdddaaGreatDoorRows
import Derived.JoinedOf
import Derived.KernelRfl
import Derived.Test.YtbgcaneflfdddaaGreatDoorC0
set_option linter.unusedVariables false
set_option linter.unusedSimpArgs false
set_option linter.unusedSectionVars false
set_option maxRecDepth 100000
namespace Go.Proofs.YtbgcaneflfdddaaGreatDoor
open Go.RowKit Go
variable [GC]
set_option maxHeartbeats 4000000 in
theorem t_step {k : Nat} (IH : IHt k) : IHt (k + 1) := by
  intro K w g S2 p x h hx hk
  have hkl : k < p.layers.length := by omega
  obtain ⟨b, o, cap, hS2, -, -, -, -, -, -, -⟩ := h.ly.at (i := k) (by rw [prL_len]; exact hkl)
  rw [prL_len] at hS2
  subst hS2
  have hgl := h.glt
  have H := Lib.hid h
  have HX := hx
  have hw : arI .sub .i64 ((k + 1 : Nat) : Int) 1 = (k : Int) := by
    obtain ⟨a, cap, _, h1, h2⟩ := h.ly.lenS
    rw [prL_len] at h1
    unfold maxLen at h2
    rw [ar_sub (by omega) (by omega)]; omega
  have HW := show Below w.heap.size w ((((w.alloc (.cells #[PQ g] 89)).alloc (.cells #[.int .i64 ((k + 1 : Nat) : Int)] 3)).alloc (.cells #[.string x.method, .string x.key, .int .i64 x.val, .string x.text] 39)).alloc (.cells zReply 34)) by go_grown
  have hnk : ∀ i, ¬ K (w.heap.size + i) := fun i hk => by have := (H.out.kb _ hk).2; omega
  have L := show Loc w g k x K ((((w.alloc (.cells #[PQ g] 89)).alloc (.cells #[.int .i64 ((k + 1 : Nat) : Int)] 3)).alloc (.cells #[.string x.method, .string x.key, .int .i64 x.val, .string x.text] 39)).alloc (.cells zReply 34)) from
    ⟨(((RBlk.new w _ _).alloc _).alloc _).alloc _,
     by have := (RBlk.new (w.alloc (.cells #[PQ g] 89)) 3 #[.int .i64 ((k + 1 : Nat) : Int)]); simp only [World.size_alloc] at this; exact (this.alloc _).alloc _,
     by have := (RBlk.new ((w.alloc (.cells #[PQ g] 89)).alloc (.cells #[.int .i64 ((k + 1 : Nat) : Int)] 3)) 39 #[.string x.method, .string x.key, .int .i64 x.val, .string x.text]); simp only [World.size_alloc] at this; exact this.alloc _,
     by have := (RBlk.new (((w.alloc (.cells #[PQ g] 89)).alloc (.cells #[.int .i64 ((k + 1 : Nat) : Int)] 3)).alloc (.cells #[.string x.method, .string x.key, .int .i64 x.val, .string x.text] 39)) 34 zReply); simp only [World.size_alloc] at this; exact this,
     hnk 0, hnk 1, hnk 2, hnk 3⟩
  have HS := (St.start H.out).below HW
  refine calls_CW (E := [(0, PQ g), (1, .int .i64 ((k + 1 : Nat) : Int)), (2, callV x)]) Tryz.func57 rfl Tryz.ntmps57 (by simp) (by simp) ?_
  refine CW.seq (CW.region ?_)
  refine WL.vv rfl rfl (r_box rfl rfl) (by decide) ?_
  refine WL.vv rfl rfl (r_box rfl rfl) (by decide) ?_
  refine WL.vv rfl rfl (r_box rfl rfl) (by decide) ?_
  refine WL.vv rfl rfl (r_alloc rfl iz_r) (by decide) ?_
  refine WL.nil (NX.next ?_)
  show CW _ Tryz.prog _ _ _ ((((w.alloc (.cells #[PQ g] 89)).alloc (.cells #[.int .i64 ((k + 1 : Nat) : Int)] 3)).alloc (.cells #[.string x.method, .string x.key, .int .i64 x.val, .string x.text] 39)).alloc (.cells zReply 34))
  refine CW.sub (E' := [(3, PQ (w.heap.size)), (4, PQ (w.heap.size + 1)), (5, PQ (w.heap.size + 1 + 1)), (6, PQ (w.heap.size + 1 + 1 + 1))]) ⟨rfl, by simp only [World.size_alloc]; rfl, by simp only [World.size_alloc]; rfl, by simp only [World.size_alloc]; rfl, trivial⟩ ?_
  generalize ((((w.alloc (.cells #[PQ g] 89)).alloc (.cells #[.int .i64 ((k + 1 : Nat) : Int)] 3)).alloc (.cells #[.string x.method, .string x.key, .int .i64 x.val, .string x.text] 39)).alloc (.cells zReply 34)) = wa at HW L HS ⊢
  clear HW hnk
  obtain ⟨l0, l1, y0, y1, y2, y3⟩ := L.cells
  obtain ⟨S1, a, n1, cp1, -, -, -, -, -, -, -, -, -, c5, -, -, -⟩ := HS.pb.cells
  refine CW.seq (CW.seq (CW.region ?_))
  refine WL.vv rfl rfl (r_load rfl rfl Tryz.underlying3 rfl l1) (by decide) ?_
  refine WL.vv rfl rfl (r_cmpB (b := false) rfl rfl rfl rfl (by simp [cmpI]; omega)) (by decide) ?_
  refine WL.nil (NX.next (CW.no rfl (CW.skip (NX.next ?_))))
  refine CW.seq (CW.still mo (by kernel_rfl) fun wc hwd hBd => ?_)
  replace l0 := cell_keep hBd l0
  replace l1 := cell_keep hBd l1
  replace c5 := cell_keep hBd c5
  replace L := L.below hBd
  replace HS := HS.below hBd
  clear hwd hBd
  refine WS.vv rfl rfl (r_load rfl rfl Tryz.underlying89 rfl l0) (by decide) ?_
  refine WS.vv rfl rfl (r_nil rfl rfl) (by decide) ?_
  refine WS.vv rfl rfl (r_field rfl rfl fo_p1) (by decide) ?_
  refine WS.vv rfl rfl (r_load rfl rfl Tryz.underlying27 rfl c5) (by decide) ?_
  refine WS.vv rfl rfl (r_load rfl rfl Tryz.underlying3 rfl l1) (by decide) ?_
  refine WS.vv rfl rfl (r_arB rfl rfl rfl rfl hw) (by decide) ?_
  refine WS.vv rfl rfl (r_index rfl rfl rfl (by omega) (by omega) es_l) (by decide) ?_
  refine WS.vv rfl rfl (r_assign rfl rfl) (by decide) ?_
  refine WS.fin (NX.next ?_)
  refine CW.sub (E' := [(3, PQ (w.heap.size)), (4, PQ (w.heap.size + 1)), (5, PQ (w.heap.size + 1 + 1)), (6, PQ (w.heap.size + 1 + 1 + 1)), (7, .pointer (some ⟨b, o + k * 2, none⟩))]) ⟨rfl, rfl, rfl, rfl, rfl, trivial⟩ ?_
  clear l0 l1 y0 y1 y2 y3 c5
  obtain ⟨l0, l1, y0, y1, y2, y3⟩ := L.cells
  obtain ⟨a0, a1, hfz, hKb, hbg, hct⟩ := HS.pb.lay hkl
  refine CW.seq (CW.region ?_)
  refine WL.vv rfl rfl (r_mkfn (ps := #[PQ (w.heap.size), PQ (w.heap.size + 1)]) rfl rfl) (by decide) ?_
  refine WL.vv rfl rfl (r_assign rfl rfl) (by decide) ?_
  refine WL.nil (NX.next ?_)
  refine CW.seq (CW.region (test_or rfl rfl rfl rfl rfl rfl rfl rfl rfl rfl rfl rfl rfl rfl rfl rfl rfl rfl rfl rfl rfl rfl rfl rfl rfl rfl rfl (by decide) rfl (fun _ _ _ _ => rfl) (by decide) Tryz.underlying9 rfl fo_c0 y0 ?_))
  intro E1 hE1 hb1
  refine NX.next (CW.sub (E' := thrE w b o k x) ⟨(hE1 3 (by decide)).trans rfl, (hE1 4 (by decide)).trans rfl, (hE1 5 (by decide)).trans rfl, (hE1 6 (by decide)).trans rfl, (hE1 7 (by decide)).trans rfl, (hE1 8 (by decide)).trans rfl, hb1.trans (by rw [cmpS_eql, cmpS_eql]; rfl), trivial⟩ ?_)
  clear hE1 hb1
  refine CW.seq (CW.block ?_)
  refine CW.seq (CW.region (test_and rfl rfl rfl rfl rfl rfl rfl rfl rfl rfl rfl rfl rfl rfl rfl rfl rfl rfl rfl rfl rfl rfl rfl rfl rfl rfl rfl rfl rfl rfl rfl rfl rfl (by decide) (fun _ _ _ _ _ _ => rfl) (by decide) rfl fo_l0 Tryz.underlying9 rfl a0 fo_c0 y0 ?_))
  intro E1 hE1 hb1
  refine NX.next (CW.sub (E' := (36, .bool (decide ((nth p.layers k).name = counts) && decide (x.method = mTell))) :: thrE w b o k x) ⟨hb1.trans (by rw [cmpS_eql, cmpS_eql]; rfl), (hE1 3 (by decide)).trans rfl, (hE1 4 (by decide)).trans rfl, (hE1 5 (by decide)).trans rfl, (hE1 6 (by decide)).trans rfl, (hE1 7 (by decide)).trans rfl, (hE1 8 (by decide)).trans rfl, (hE1 9 (by decide)).trans rfl, trivial⟩ ?_)
  clear hE1 hb1
  by_cases C : (nth p.layers k).name = counts ∧ x.method = mTell
  · have hq : (decide ((nth p.layers k).name = counts) && decide (x.method = mTell)) = true := by simp [C.1, C.2]
    rw [hq]
    clear hq
    refine CW.yes rfl ?_
    refine CW.seq (CW.region ?_)
    refine WL.vv rfl rfl (r_move rfl rfl) (by decide) ?_
    refine WL.vv rfl rfl (r_nil rfl rfl) (by decide) ?_
    refine WL.vv rfl rfl (r_field rfl rfl fo_l1) (by decide) ?_
    refine WL.vv rfl rfl (r_load rfl rfl Tryz.underlying3 rfl a1) (by decide) ?_
    refine WL.vv rfl rfl (r_build (vs := [(1, .int .i64 (nth p.layers k).count)]) rfl rfl (bl_1 _)) (by decide) ?_
    refine WL.st rfl rfl rfl rfl rfl L.b3 rfl (rep_one _) is_r fun w7 R7 O7 => ?_
    have e : thrD (k + 1) p x = (p, rep 0 (nth p.layers k).count 0 0) := by rw [thrD, if_pos C]
    refine WL.nil (NX.next (CW.ret ?_))
    exact NX.retB (NX.ret (NX.body1 rfl rfl R7 Tryz.underlying34 rfl is_r (by rw [e]; exact (HS.one O7 L.n3 (by omega)).done H.out)))
  have hq : (decide ((nth p.layers k).name = counts) && decide (x.method = mTell)) = false := by
    simp only [Bool.and_eq_false_iff, decide_eq_false_iff_not]
    by_cases h1 : (nth p.layers k).name = counts
    · right; exact fun h2 => C ⟨h1, h2⟩
    · left; exact h1
  have N0 := C
  clear C
  rw [hq]
  clear hq
  refine CW.no rfl ?_
  refine CW.seq (CW.region (test_keep rfl rfl rfl rfl rfl rfl rfl rfl rfl rfl rfl rfl rfl rfl rfl rfl rfl rfl rfl rfl rfl rfl rfl rfl rfl rfl rfl (by decide) (fun _ _ _ _ _ _ => rfl) (by decide) rfl fo_l0 Tryz.underlying9 rfl a0 ?_))
  intro E1 hE1 hb1
  refine NX.next (CW.sub (E' := (52, .bool (decide ((nth p.layers k).name = counts) && isKeep x)) :: thrE w b o k x) ⟨hb1.trans (by rw [cmpS_eql]; rfl), (hE1 3 (by decide)).trans rfl, (hE1 4 (by decide)).trans rfl, (hE1 5 (by decide)).trans rfl, (hE1 6 (by decide)).trans rfl, (hE1 7 (by decide)).trans rfl, (hE1 8 (by decide)).trans rfl, (hE1 9 (by decide)).trans rfl, trivial⟩ ?_)
  clear hE1 hb1
  by_cases C : (nth p.layers k).name = counts ∧ isKeep x = true
  · have hq : (decide ((nth p.layers k).name = counts) && isKeep x) = true := by simp [C.1, C.2]
    rw [hq]
    clear hq
    refine CW.yes rfl ?_
    obtain ⟨l0, l1, y0, y1, y2, y3⟩ := L.cells
    refine CW.seq (CW.region ?_)
    refine WL.vv rfl rfl (r_load rfl rfl Tryz.underlying89 rfl l0) (by decide) ?_
    refine WL.vv rfl rfl (r_load rfl rfl Tryz.underlying3 rfl l1) (by decide) ?_
    refine WL.vv rfl rfl (r_arB rfl rfl rfl rfl hw) (by decide) ?_
    refine WL.vv rfl rfl (r_loadS rfl rfl Tryz.underlying39 rfl L.b2 is_c) (by decide) ?_
    refine WL.c rfl rfl (r_call (args := #[PQ g, .int .i64 ((k : Nat) : Int), callV x]) ca_th rfl rfl rfl) (by decide) (IH _ _ _ _ _ _ HS.pb HX (by omega)) ?_
    rintro _ v5 ⟨rfl, hp5, hf5⟩
    refine ⟨_, rfl, ?_⟩
    refine WL.vv rfl rfl (r_alloc rfl iz_r) (by decide) ?_
    refine WL.st rfl rfl rfl rfl rfl (show RBlk (v5.alloc (.cells zReply 34)) v5.heap.size 34 zReply from RBlk.new v5 _ _) rfl (rep_one _) is_r fun w5 R5 O5 => ?_
    have B5 : Below v5.heap.size v5 w5 := below_alloc_one O5
    have AX := (HS.call hp5 hf5)
    have LX := (L.call hf5)
    have hz5 : w.heap.size + 4 ≤ v5.heap.size := by have := LX.b3.lt; omega
    have hk5 : ¬ Gr K wc v5 v5.heap.size := fun hk => by have := (AX.pb.kb _ hk).2; omega
    have A5 := AX.below B5
    have L5 := LX.below B5
    clear AX LX B5 O5 hp5 hf5 l0 l1 y0 y1 y2 y3
    generalize v5.heap.size = b5 at *
    refine WL.nil (NX.next ?_)
    have hlen : k < (thrD k p x).1.layers.length := by rw [thr_len]; exact hkl
    obtain ⟨a0, a1, hfz, hKb6, hbg6, hct⟩ := A5.pb.lay (k := k) (by first | exact hkl | assumption)
    refine CW.seq (CW.region ?_)
    refine WL.vv rfl rfl (r_move rfl rfl) (by decide) ?_
    refine WL.vv rfl rfl (r_move rfl rfl) (by decide) ?_
    refine WL.vv rfl rfl (r_nil rfl rfl) (by decide) ?_
    refine WL.vv rfl rfl (r_field rfl rfl fo_l1) (by decide) ?_
    refine WL.vv rfl rfl (r_load rfl rfl Tryz.underlying3 rfl a1) (by decide) ?_
    refine WL.c rfl rfl (r_call (args := #[.int .i64 (nth (thrD k p x).1.layers k).count]) ca_up rfl rfl rfl) (by decide) (w_countUp A5.pb (nth (thrD k p x).1.layers k).count hct) ?_
    rintro _ w6 ⟨rfl, hb6, hr6⟩
    refine ⟨_, rfl, ?_⟩
    have A6 := A5.below hb6
    have L6 := L5.below hb6
    have R6 := R5.below hb6 R5.lt
    clear a0 a1 hfz
    obtain ⟨a0, a1, hfz, -, -, -⟩ := A6.pb.lay (k := k) (by first | exact hkl | assumption)
    refine WL.vv rfl rfl (r_nil rfl rfl) (by decide) ?_
    refine WL.vv rfl rfl (r_field rfl rfl fo_l1) (by decide) ?_
    refine WL.s rfl rfl (r_store rfl rfl rfl is_i rfl a1 (hfz _)) ?_
    have A7 := A6.put (a := ⟨b, o + k * 2 + 1, none⟩) hKb6 (A6.pb.putLayer (i := k) (by first | exact hkl | assumption) hr6)
    have L7 := L6.mine (a := ⟨b, o + k * 2 + 1, none⟩) (.int .i64 (up3 (nth (thrD k p x).1.layers k).count)) hKb6
    have hbb : b5 ≠ b := fun e => hk5 (by rw [e]; exact hKb6)
    have R7 := R6.far (p := ⟨b, o + k * 2 + 1, none⟩) hbb (.int .i64 (up3 (nth (thrD k p x).1.layers k).count))
    refine WL.nil (NX.next ?_)
    refine CW.seq (CW.region ?_)
    refine WL.vv rfl rfl (r_loadS rfl rfl Tryz.underlying34 rfl R7 is_r) (by decide) ?_
    refine WL.st rfl rfl rfl rfl rfl L7.b3 rfl (rep_one _) is_r fun w8 R8 O8 => ?_
    have e : thrD (k + 1) p x = (bump (thrD k p x).1 k, (thrD k p x).2) := by rw [thrD, if_neg N0, if_pos C]
    refine WL.nil (NX.next (CW.ret ?_))
    exact NX.retB (NX.ret (NX.body1 rfl rfl R8 Tryz.underlying34 rfl is_r (by rw [e]; exact (A7.one O8 L7.n3 (by omega)).done H.out)))
  have hq : (decide ((nth p.layers k).name = counts) && isKeep x) = false := by
    simp only [Bool.and_eq_false_iff, decide_eq_false_iff_not]
    by_cases h1 : (nth p.layers k).name = counts
    · right; simpa [h1] using C
    · left; exact h1
  have N1 := C
  clear C
  rw [hq]
  clear hq
  refine CW.no rfl ?_
  refine CW.seq (CW.region (test_keep rfl rfl rfl rfl rfl rfl rfl rfl rfl rfl rfl rfl rfl rfl rfl rfl rfl rfl rfl rfl rfl rfl rfl rfl rfl rfl rfl (by decide) (fun _ _ _ _ _ _ => rfl) (by decide) rfl fo_l0 Tryz.underlying9 rfl a0 ?_))
  intro E1 hE1 hb1
  refine NX.next (CW.sub (E' := (75, .bool (decide ((nth p.layers k).name = lazyN) && isKeep x)) :: thrE w b o k x) ⟨hb1.trans (by rw [cmpS_eql]; rfl), (hE1 3 (by decide)).trans rfl, (hE1 4 (by decide)).trans rfl, (hE1 5 (by decide)).trans rfl, (hE1 6 (by decide)).trans rfl, (hE1 7 (by decide)).trans rfl, (hE1 8 (by decide)).trans rfl, (hE1 9 (by decide)).trans rfl, trivial⟩ ?_)
  clear hE1 hb1
  by_cases C : (nth p.layers k).name = lazyN ∧ isKeep x = true
  · have hq : (decide ((nth p.layers k).name = lazyN) && isKeep x) = true := by simp [C.1, C.2]
    rw [hq]
    clear hq
    refine CW.yes rfl ?_
    obtain ⟨l0, l1, y0, y1, y2, y3⟩ := L.cells
    refine CW.seq (CW.region ?_)
    refine WL.vv rfl rfl (r_load rfl rfl Tryz.underlying89 rfl l0) (by decide) ?_
    refine WL.vv rfl rfl (r_load rfl rfl Tryz.underlying3 rfl l1) (by decide) ?_
    refine WL.vv rfl rfl (r_arB rfl rfl rfl rfl hw) (by decide) ?_
    refine WL.vv rfl rfl (r_loadS rfl rfl Tryz.underlying39 rfl L.b2 is_c) (by decide) ?_
    refine WL.c rfl rfl (r_call (args := #[PQ g, .int .i64 ((k : Nat) : Int), callV x]) ca_th rfl rfl rfl) (by decide) (IH _ _ _ _ _ _ HS.pb HX (by omega)) ?_
    rintro _ v5 ⟨rfl, hp5, hf5⟩
    refine ⟨_, rfl, ?_⟩
    refine WL.vv rfl rfl (r_alloc rfl iz_r) (by decide) ?_
    refine WL.st rfl rfl rfl rfl rfl (show RBlk (v5.alloc (.cells zReply 34)) v5.heap.size 34 zReply from RBlk.new v5 _ _) rfl (rep_one _) is_r fun w5 R5 O5 => ?_
    have B5 : Below v5.heap.size v5 w5 := below_alloc_one O5
    have AX := (HS.call hp5 hf5)
    have LX := (L.call hf5)
    have hz5 : w.heap.size + 4 ≤ v5.heap.size := by have := LX.b3.lt; omega
    have hk5 : ¬ Gr K wc v5 v5.heap.size := fun hk => by have := (AX.pb.kb _ hk).2; omega
    have A5 := AX.below B5
    have L5 := LX.below B5
    clear AX LX B5 O5 hp5 hf5 l0 l1 y0 y1 y2 y3
    generalize v5.heap.size = b5 at *
    refine WL.nil (NX.next ?_)
    obtain ⟨r0, r1, r2, r3, r4, rf⟩ := R5.rep
    refine CW.seq (CW.seq (CW.region ?_))
    refine WL.vv rfl rfl (r_field rfl rfl fo_r0) (by decide) ?_
    refine WL.vv rfl rfl (r_load rfl rfl Tryz.underlying3 rfl r0) (by decide) ?_
    by_cases h2 : (thrD k p x).2.code = 2
    · refine WL.vv rfl rfl (r_cmpB (b := true) rfl rfl rfl rfl (by simp [cmpI, h2])) (by decide) ?_
      refine WL.nil (NX.next (CW.yes rfl ?_))
      refine CW.seq (CW.region ?_)
      obtain ⟨l0, l1, y0, y1, y2, y3⟩ := L5.cells
      refine WL.vv rfl rfl (r_move rfl rfl) (by decide) ?_
      refine WL.c rfl rfl (r_callv (args := #[.string mStart]) ca_go rfl rfl rfl rfl) (by decide) (t_goOn IH A5.pb (by rw [thr_len]; omega) (m := mStart) (by decide) l0 l1) ?_
      rintro _ w6 ⟨rfl, hp6, hf6⟩
      refine ⟨_, rfl, ?_⟩
      have A6 := A5.call hp6 hf6
      have L6 := L5.call hf6
      clear l0 l1 y0 y1 y2 y3
      have R6 := R5.frk hf6 hk5
      have hk6 : ¬ Gr (Gr K wc v5) w5 w6 b5 := by rintro (q | q); exact hk5 q; have := R5.lt; omega
      clear hp6 hf6
      refine WL.nil (NX.next ?_)
      obtain ⟨l0, l1, y0, y1, y2, y3⟩ := L6.cells
      refine CW.region ?_
      refine WL.vv rfl rfl (r_load rfl rfl Tryz.underlying89 rfl l0) (by decide) ?_
      refine WL.vv rfl rfl (r_load rfl rfl Tryz.underlying3 rfl l1) (by decide) ?_
      refine WL.vv rfl rfl (r_arB rfl rfl rfl rfl hw) (by decide) ?_
      refine WL.vv rfl rfl (r_loadS rfl rfl Tryz.underlying39 rfl L6.b2 is_c) (by decide) ?_
      refine WL.c rfl rfl (r_call (args := #[PQ g, .int .i64 ((k : Nat) : Int), callV x]) ca_th rfl rfl rfl) (by decide) (IH _ _ _ _ _ _ A6.pb HX (by rw [thr_len, thr_len]; omega)) ?_
      rintro _ w7 ⟨rfl, hp7, hf7⟩
      refine ⟨_, rfl, ?_⟩
      have A7 := A6.call hp7 hf7
      have L7 := L6.call hf7
      have R7 := R6.frk hf7 hk6
      have hk7 : ¬ Gr (Gr (Gr K wc v5) w5 w6) w6 w7 b5 := by rintro (q | q); exact hk6 q; have := R6.lt; omega
      clear hp7 hf7
      refine WL.st rfl rfl rfl rfl rfl R7 rfl (rep_one _) is_r fun w8 R8 O8 => ?_
      have A8 := A7.one O8 hk7 (by omega)
      have L8 := L7.one O8 hz5
      refine WL.nil (NX.next ?_)
      refine CW.seq (CW.region ?_)
      refine WL.vv rfl rfl (r_loadS rfl rfl Tryz.underlying34 rfl R8 is_r) (by decide) ?_
      refine WL.st rfl rfl rfl rfl rfl L8.b3 rfl (rep_one _) is_r fun w9 R9 O9 => ?_
      have e : thrD (k + 1) p x = ((thrD k (thrD k (thrD k p x).1 (plainCall mStart)).1 x).1, (thrD k (thrD k (thrD k p x).1 (plainCall mStart)).1 x).2) := by rw [thrD, if_neg N0, if_neg N1, if_pos C, if_pos h2]
      refine WL.nil (NX.next (CW.ret ?_))
      exact NX.retB (NX.ret (NX.body1 rfl rfl R9 Tryz.underlying34 rfl is_r (by rw [e]; exact (A8.one O9 L8.n3 (by omega)).done H.out)))
    · refine WL.vv rfl rfl (r_cmpB (b := false) rfl rfl rfl rfl (by simp [cmpI, h2])) (by decide) ?_
      refine WL.nil (NX.next (CW.no rfl (CW.skip (NX.next ?_))))
      refine CW.seq (CW.region ?_)
      refine WL.vv rfl rfl (r_loadS rfl rfl Tryz.underlying34 rfl R5 is_r) (by decide) ?_
      refine WL.st rfl rfl rfl rfl rfl L5.b3 rfl (rep_one _) is_r fun w9 R9 O9 => ?_
      have e : thrD (k + 1) p x = ((thrD k p x).1, (thrD k p x).2) := by rw [thrD, if_neg N0, if_neg N1, if_pos C, if_neg h2]
      refine WL.nil (NX.next (CW.ret ?_))
      exact NX.retB (NX.ret (NX.body1 rfl rfl R9 Tryz.underlying34 rfl is_r (by rw [e]; exact (A5.one O9 L5.n3 (by omega)).done H.out)))
  have hq : (decide ((nth p.layers k).name = lazyN) && isKeep x) = false := by
    simp only [Bool.and_eq_false_iff, decide_eq_false_iff_not]
    by_cases h1 : (nth p.layers k).name = lazyN
    · right; simpa [h1] using C
    · left; exact h1
  have N2 := C
  clear C
  rw [hq]
  clear hq
  refine CW.no rfl ?_
  refine CW.seq (CW.region (test_and rfl rfl rfl rfl rfl rfl rfl rfl rfl rfl rfl rfl rfl rfl rfl rfl rfl rfl rfl rfl rfl rfl rfl rfl rfl rfl rfl rfl rfl rfl rfl rfl rfl (by decide) (fun _ _ _ _ _ _ => rfl) (by decide) rfl fo_l0 Tryz.underlying9 rfl a0 fo_c0 y0 ?_))
  intro E1 hE1 hb1
  refine NX.next (CW.sub (E' := (100, .bool (decide ((nth p.layers k).name = readsN) && decide (x.method = mPut))) :: thrE w b o k x) ⟨hb1.trans (by rw [cmpS_eql, cmpS_eql]; rfl), (hE1 3 (by decide)).trans rfl, (hE1 4 (by decide)).trans rfl, (hE1 5 (by decide)).trans rfl, (hE1 6 (by decide)).trans rfl, (hE1 7 (by decide)).trans rfl, (hE1 8 (by decide)).trans rfl, (hE1 9 (by decide)).trans rfl, trivial⟩ ?_)
  clear hE1 hb1
  by_cases C : (nth p.layers k).name = readsN ∧ x.method = mPut
  · have hq : (decide ((nth p.layers k).name = readsN) && decide (x.method = mPut)) = true := by simp [C.1, C.2]
    rw [hq]
    clear hq
    refine CW.yes rfl ?_
    refine CW.seq (CW.region ?_)
    refine WL.vv rfl rfl (r_build (vs := [(0, .int .i64 6)]) rfl rfl (bl_0 _)) (by decide) ?_
    refine WL.st rfl rfl rfl rfl rfl L.b3 rfl (rep_one _) is_r fun w7 R7 O7 => ?_
    have e : thrD (k + 1) p x = (p, rep 6 0 0 0) := by rw [thrD, if_neg N0, if_neg N1, if_neg N2, if_pos C]
    refine WL.nil (NX.next (CW.ret ?_))
    exact NX.retB (NX.ret (NX.body1 rfl rfl R7 Tryz.underlying34 rfl is_r (by rw [e]; exact (HS.one O7 L.n3 (by omega)).done H.out)))
  have hq : (decide ((nth p.layers k).name = readsN) && decide (x.method = mPut)) = false := by
    simp only [Bool.and_eq_false_iff, decide_eq_false_iff_not]
    by_cases h1 : (nth p.layers k).name = readsN
    · right; exact fun h2 => C ⟨h1, h2⟩
    · left; exact h1
  have N3 := C
  clear C
  rw [hq]
  clear hq
  refine CW.no rfl ?_
  refine CW.seq (CW.region (test_and rfl rfl rfl rfl rfl rfl rfl rfl rfl rfl rfl rfl rfl rfl rfl rfl rfl rfl rfl rfl rfl rfl rfl rfl rfl rfl rfl rfl rfl rfl rfl rfl rfl (by decide) (fun _ _ _ _ _ _ => rfl) (by decide) rfl fo_l0 Tryz.underlying9 rfl a0 fo_c0 y0 ?_))
  intro E1 hE1 hb1
  refine NX.next (CW.sub (E' := (112, .bool (decide ((nth p.layers k).name = hears) && decide (x.method = mHear))) :: thrE w b o k x) ⟨hb1.trans (by rw [cmpS_eql, cmpS_eql]; rfl), (hE1 3 (by decide)).trans rfl, (hE1 4 (by decide)).trans rfl, (hE1 5 (by decide)).trans rfl, (hE1 6 (by decide)).trans rfl, (hE1 7 (by decide)).trans rfl, (hE1 8 (by decide)).trans rfl, (hE1 9 (by decide)).trans rfl, trivial⟩ ?_)
  clear hE1 hb1
  by_cases C : (nth p.layers k).name = hears ∧ x.method = mHear
  · have hq : (decide ((nth p.layers k).name = hears) && decide (x.method = mHear)) = true := by simp [C.1, C.2]
    rw [hq]
    clear hq
    refine CW.yes rfl ?_
    obtain ⟨a0, a1, hfz, hKb6, hbg6, hct⟩ := HS.pb.lay (k := k) (by first | exact hkl | assumption)
    refine CW.seq (CW.region ?_)
    refine WL.vv rfl rfl (r_move rfl rfl) (by decide) ?_
    refine WL.vv rfl rfl (r_move rfl rfl) (by decide) ?_
    refine WL.vv rfl rfl (r_nil rfl rfl) (by decide) ?_
    refine WL.vv rfl rfl (r_field rfl rfl fo_l1) (by decide) ?_
    refine WL.vv rfl rfl (r_load rfl rfl Tryz.underlying3 rfl a1) (by decide) ?_
    refine WL.c rfl rfl (r_call (args := #[.int .i64 (nth p.layers k).count]) ca_up rfl rfl rfl) (by decide) (w_countUp HS.pb (nth p.layers k).count hct) ?_
    rintro _ w6 ⟨rfl, hb6, hr6⟩
    refine ⟨_, rfl, ?_⟩
    have A6 := HS.below hb6
    have L6 := L.below hb6
    clear a0 a1 hfz
    obtain ⟨a0, a1, hfz, -, -, -⟩ := A6.pb.lay (k := k) (by first | exact hkl | assumption)
    refine WL.vv rfl rfl (r_nil rfl rfl) (by decide) ?_
    refine WL.vv rfl rfl (r_field rfl rfl fo_l1) (by decide) ?_
    refine WL.s rfl rfl (r_store rfl rfl rfl is_i rfl a1 (hfz _)) ?_
    have A7 := A6.put (a := ⟨b, o + k * 2 + 1, none⟩) hKb6 (A6.pb.putLayer (i := k) (by first | exact hkl | assumption) hr6)
    have L7 := L6.mine (a := ⟨b, o + k * 2 + 1, none⟩) (.int .i64 (up3 (nth p.layers k).count)) hKb6
    refine WL.nil (NX.next ?_)
    clear l0 l1 y0 y1 y2 y3
    obtain ⟨l0, l1, y0, y1, y2, y3⟩ := L7.cells
    refine CW.seq (CW.seq (CW.region ?_))
    refine WL.vv rfl rfl (r_field rfl rfl fo_c2) (by decide) ?_
    refine WL.vv rfl rfl (r_load rfl rfl Tryz.underlying3 rfl y2) (by decide) ?_
    refine WL.nil (NX.next (CW.block ?_))
    refine CW.seq (CW.region ?_)
    by_cases h0 : x.val = 0
    · refine WL.vv rfl rfl (r_cmpB (b := true) rfl rfl rfl rfl (by simp [cmpI, h0])) (by decide) ?_
      refine WL.vv rfl rfl (r_assign rfl rfl) (by decide) ?_
      refine WL.nil (NX.next (CW.yes rfl ?_))
      refine CW.seq (CW.region ?_)
      obtain ⟨l0, l1, y0, y1, y2, y3⟩ := L7.cells
      refine WL.vv rfl rfl (r_move rfl rfl) (by decide) ?_
      refine WL.c rfl rfl (r_callv (args := #[.string mStop]) ca_go rfl rfl rfl rfl) (by decide) (t_goOn IH A7.pb (by rw [List.length_set]; omega) (m := mStop) (by decide) l0 l1) ?_
      rintro _ w8 ⟨rfl, hp8, hf8⟩
      refine ⟨_, rfl, ?_⟩
      have A8 := A7.call hp8 hf8
      have L8 := L7.call hf8
      clear l0 l1 y0 y1 y2 y3
      clear hp8 hf8
      refine WL.st rfl rfl rfl rfl rfl L8.b3 rfl (rep_one _) is_r fun w9 R9 O9 => ?_
      have e : thrD (k + 1) p x = ((thrD k (bump p k) (plainCall mStop)).1, (thrD k (bump p k) (plainCall mStop)).2) := by rw [thrD, if_neg N0, if_neg N1, if_neg N2, if_neg N3, if_pos C, if_pos h0]
      refine WL.nil (NX.next (CW.ret ?_))
      exact NX.retB (NX.ret (NX.retB (NX.ret (NX.body1 rfl rfl R9 Tryz.underlying34 rfl is_r (by rw [e]; exact (A8.one O9 L8.n3 (by omega)).done H.out)))))
    refine WL.vv rfl rfl (r_cmpB (b := false) rfl rfl rfl rfl (by simp [cmpI, h0])) (by decide) ?_
    refine WL.vv rfl rfl (r_assign rfl rfl) (by decide) ?_
    refine WL.nil (NX.next (CW.no rfl ?_))
    refine CW.seq (CW.region ?_)
    by_cases h1 : x.val = 1
    · refine WL.vv rfl rfl (r_cmpB (b := true) rfl rfl rfl rfl (by simp [cmpI, h1])) (by decide) ?_
      refine WL.vv rfl rfl (r_assign rfl rfl) (by decide) ?_
      refine WL.nil (NX.next (CW.yes rfl ?_))
      refine CW.seq (CW.region ?_)
      obtain ⟨l0, l1, y0, y1, y2, y3⟩ := L7.cells
      refine WL.vv rfl rfl (r_move rfl rfl) (by decide) ?_
      refine WL.c rfl rfl (r_callv (args := #[.string mStart]) ca_go rfl rfl rfl rfl) (by decide) (t_goOn IH A7.pb (by rw [List.length_set]; omega) (m := mStart) (by decide) l0 l1) ?_
      rintro _ w8 ⟨rfl, hp8, hf8⟩
      refine ⟨_, rfl, ?_⟩
      have A8 := A7.call hp8 hf8
      have L8 := L7.call hf8
      clear l0 l1 y0 y1 y2 y3
      clear hp8 hf8
      refine WL.st rfl rfl rfl rfl rfl L8.b3 rfl (rep_one _) is_r fun w9 R9 O9 => ?_
      have e : thrD (k + 1) p x = ((thrD k (bump p k) (plainCall mStart)).1, (thrD k (bump p k) (plainCall mStart)).2) := by rw [thrD, if_neg N0, if_neg N1, if_neg N2, if_neg N3, if_pos C, if_neg h0, if_pos h1]
      refine WL.nil (NX.next (CW.ret ?_))
      exact NX.retB (NX.ret (NX.retB (NX.ret (NX.body1 rfl rfl R9 Tryz.underlying34 rfl is_r (by rw [e]; exact (A8.one O9 L8.n3 (by omega)).done H.out)))))
    refine WL.vv rfl rfl (r_cmpB (b := false) rfl rfl rfl rfl (by simp [cmpI, h1])) (by decide) ?_
    refine WL.vv rfl rfl (r_assign rfl rfl) (by decide) ?_
    refine WL.nil (NX.next (CW.no rfl (CW.skip (NX.norB (NX.next ?_)))))
    clear a0 a1 hfz
    have hbn : nth (bump p k).layers k = ⟨(nth p.layers k).name, up3 (nth p.layers k).count⟩ := by rw [bump_nth hkl, if_pos rfl]
    obtain ⟨a0, a1, hfz, -, -, -⟩ := A7.pb.lay (k := k) (by rw [List.length_set]; exact hkl)
    change World.cell? _ _ = some (.int .i64 (nth (bump p k).layers k).count) at a1
    rw [hbn] at a1
    refine CW.seq (CW.region ?_)
    refine WL.vv rfl rfl (r_move rfl rfl) (by decide) ?_
    refine WL.vv rfl rfl (r_nil rfl rfl) (by decide) ?_
    refine WL.vv rfl rfl (r_field rfl rfl fo_l1) (by decide) ?_
    refine WL.vv rfl rfl (r_load rfl rfl Tryz.underlying3 rfl a1) (by decide) ?_
    refine WL.vv rfl rfl (r_build (vs := [(1, .int .i64 (up3 (nth p.layers k).count))]) rfl rfl (bl_1 _)) (by decide) ?_
    refine WL.st rfl rfl rfl rfl rfl L7.b3 rfl (rep_one _) is_r fun w9 R9 O9 => ?_
    have e : thrD (k + 1) p x = (bump p k, rep 0 (up3 (nth p.layers k).count) 0 0) := by rw [thrD, if_neg N0, if_neg N1, if_neg N2, if_neg N3, if_pos C, if_neg h0, if_neg h1, hbn]
    refine WL.nil (NX.next (CW.ret ?_))
    exact NX.retB (NX.ret (NX.body1 rfl rfl R9 Tryz.underlying34 rfl is_r (by rw [e]; exact (A7.one O9 L7.n3 (by omega)).done H.out)))
  have hq : (decide ((nth p.layers k).name = hears) && decide (x.method = mHear)) = false := by
    simp only [Bool.and_eq_false_iff, decide_eq_false_iff_not]
    by_cases h1 : (nth p.layers k).name = hears
    · right; exact fun h2 => C ⟨h1, h2⟩
    · left; exact h1
  have N4 := C
  clear C
  rw [hq]
  clear hq
  refine CW.no rfl ?_
  refine CW.seq (CW.region (test_and rfl rfl rfl rfl rfl rfl rfl rfl rfl rfl rfl rfl rfl rfl rfl rfl rfl rfl rfl rfl rfl rfl rfl rfl rfl rfl rfl rfl rfl rfl rfl rfl rfl (by decide) (fun _ _ _ _ _ _ => rfl) (by decide) rfl fo_l0 Tryz.underlying9 rfl a0 fo_c0 y0 ?_))
  intro E1 hE1 hb1
  refine NX.next (CW.sub (E' := (146, .bool (decide ((nth p.layers k).name = healsN) && decide (x.method = mHeal))) :: thrE w b o k x) ⟨hb1.trans (by rw [cmpS_eql, cmpS_eql]; rfl), (hE1 3 (by decide)).trans rfl, (hE1 4 (by decide)).trans rfl, (hE1 5 (by decide)).trans rfl, (hE1 6 (by decide)).trans rfl, (hE1 7 (by decide)).trans rfl, (hE1 8 (by decide)).trans rfl, (hE1 9 (by decide)).trans rfl, trivial⟩ ?_)
  clear hE1 hb1
  by_cases C : (nth p.layers k).name = healsN ∧ x.method = mHeal
  · have hq : (decide ((nth p.layers k).name = healsN) && decide (x.method = mHeal)) = true := by simp [C.1, C.2]
    rw [hq]
    clear hq
    refine CW.yes rfl ?_
    refine CW.seq (CW.region ?_)
    obtain ⟨l0, l1, y0, y1, y2, y3⟩ := L.cells
    refine WL.vv rfl rfl (r_move rfl rfl) (by decide) ?_
    refine WL.c rfl rfl (r_callv (args := #[.string mStop]) ca_go rfl rfl rfl rfl) (by decide) (t_goOn IH HS.pb (by omega) (m := mStop) (by decide) l0 l1) ?_
    rintro _ w5 ⟨rfl, hp5, hf5⟩
    refine ⟨_, rfl, ?_⟩
    have A5 := HS.call hp5 hf5
    have L5 := L.call hf5
    clear l0 l1 y0 y1 y2 y3
    clear hp5 hf5
    refine WL.nil (NX.next ?_)
    refine CW.seq (CW.region ?_)
    obtain ⟨l0, l1, y0, y1, y2, y3⟩ := L5.cells
    refine WL.vv rfl rfl (r_move rfl rfl) (by decide) ?_
    refine WL.c rfl rfl (r_callv (args := #[.string mStart]) ca_go rfl rfl rfl rfl) (by decide) (t_goOn IH A5.pb (by rw [thr_len]; omega) (m := mStart) (by decide) l0 l1) ?_
    rintro _ w6 ⟨rfl, hp6, hf6⟩
    refine ⟨_, rfl, ?_⟩
    have A6 := A5.call hp6 hf6
    have L6 := L5.call hf6
    clear l0 l1 y0 y1 y2 y3
    clear hp6 hf6
    refine WL.st rfl rfl rfl rfl rfl L6.b3 rfl (rep_one _) is_r fun w9 R9 O9 => ?_
    have e : thrD (k + 1) p x = ((thrD k (thrD k p (plainCall mStop)).1 (plainCall mStart)).1, (thrD k (thrD k p (plainCall mStop)).1 (plainCall mStart)).2) := by rw [thrD, if_neg N0, if_neg N1, if_neg N2, if_neg N3, if_neg N4, if_pos C]
    refine WL.nil (NX.next (CW.ret ?_))
    exact NX.retB (NX.ret (NX.body1 rfl rfl R9 Tryz.underlying34 rfl is_r (by rw [e]; exact (A6.one O9 L6.n3 (by omega)).done H.out)))
  have hq : (decide ((nth p.layers k).name = healsN) && decide (x.method = mHeal)) = false := by
    simp only [Bool.and_eq_false_iff, decide_eq_false_iff_not]
    by_cases h1 : (nth p.layers k).name = healsN
    · right; exact fun h2 => C ⟨h1, h2⟩
    · left; exact h1
  have N5 := C
  clear C
  rw [hq]
  clear hq
  refine CW.no rfl ?_
  refine CW.seq (CW.region ?_)
  refine WL.vv rfl rfl (r_move rfl rfl) (by decide) ?_
  refine WL.vv rfl rfl (r_nil rfl rfl) (by decide) ?_
  refine WL.vv rfl rfl (r_field rfl rfl fo_l0) (by decide) ?_
  refine WL.vv rfl rfl (r_load rfl rfl Tryz.underlying9 rfl a0) (by decide) ?_
  refine WL.vv rfl rfl (r_eqSB rfl rfl rfl (show _ = decide ((nth p.layers k).name = twiceN) from cmpS_eql _ _)) (by decide) ?_
  refine WL.vv rfl rfl (r_assign rfl rfl) (by decide) ?_
  refine WL.nil (NX.next (CW.sub (E' := (161, .bool (decide ((nth p.layers k).name = twiceN))) :: thrE w b o k x) ⟨rfl, rfl, rfl, rfl, rfl, rfl, rfl, rfl, trivial⟩ ?_))
  by_cases C : (nth p.layers k).name = twiceN
  · have hq : (decide ((nth p.layers k).name = twiceN)) = true := by simp [C]
    rw [hq]
    clear hq
    refine CW.yes rfl ?_
    obtain ⟨l0, l1, y0, y1, y2, y3⟩ := L.cells
    refine CW.seq (CW.region ?_)
    refine WL.vv rfl rfl (r_load rfl rfl Tryz.underlying89 rfl l0) (by decide) ?_
    refine WL.vv rfl rfl (r_load rfl rfl Tryz.underlying3 rfl l1) (by decide) ?_
    refine WL.vv rfl rfl (r_arB rfl rfl rfl rfl hw) (by decide) ?_
    refine WL.vv rfl rfl (r_loadS rfl rfl Tryz.underlying39 rfl L.b2 is_c) (by decide) ?_
    refine WL.c rfl rfl (r_call (args := #[PQ g, .int .i64 ((k : Nat) : Int), callV x]) ca_th rfl rfl rfl) (by decide) (IH _ _ _ _ _ _ HS.pb HX (by omega)) ?_
    rintro _ v5 ⟨rfl, hp5, hf5⟩
    refine ⟨_, rfl, ?_⟩
    refine WL.vv rfl rfl (r_alloc rfl iz_r) (by decide) ?_
    refine WL.st rfl rfl rfl rfl rfl (show RBlk (v5.alloc (.cells zReply 34)) v5.heap.size 34 zReply from RBlk.new v5 _ _) rfl (rep_one _) is_r fun w5 R5 O5 => ?_
    have B5 : Below v5.heap.size v5 w5 := below_alloc_one O5
    have AX := (HS.call hp5 hf5)
    have LX := (L.call hf5)
    have hz5 : w.heap.size + 4 ≤ v5.heap.size := by have := LX.b3.lt; omega
    have hk5 : ¬ Gr K wc v5 v5.heap.size := fun hk => by have := (AX.pb.kb _ hk).2; omega
    have A5 := AX.below B5
    have L5 := LX.below B5
    clear AX LX B5 O5 hp5 hf5 l0 l1 y0 y1 y2 y3
    generalize v5.heap.size = b5 at *
    refine WL.nil (NX.next ?_)
    obtain ⟨r0, r1, r2, r3, r4, rf⟩ := R5.rep
    refine CW.seq (CW.seq (CW.region ?_))
    refine WL.vv rfl rfl (r_field rfl rfl fo_r0) (by decide) ?_
    refine WL.vv rfl rfl (r_load rfl rfl Tryz.underlying3 rfl r0) (by decide) ?_
    by_cases h2 : (thrD k p x).2.code = 0
    · refine WL.vv rfl rfl (r_cmpB (b := true) rfl rfl rfl rfl (by simp [cmpI, h2])) (by decide) ?_
      refine WL.nil (NX.next (CW.yes rfl ?_))
      refine CW.region ?_
      refine WL.vv rfl rfl (r_field rfl rfl fo_r1) (by decide) ?_
      refine WL.vv rfl rfl (r_load rfl rfl Tryz.underlying3 rfl r1) (by decide) ?_
      refine WL.vv rfl rfl (r_ar rfl rfl rfl rfl) (by decide) ?_
      refine WL.vv rfl rfl (r_min rfl rfl rfl rfl rfl) (by decide) ?_
      refine WL.vv rfl rfl (r_field rfl rfl fo_r1) (by decide) ?_
      refine WL.s rfl rfl (r_store rfl rfl rfl is_i rfl r1 (rf _)) ?_
      have A6 := A5.far (a := ⟨b5, 1, none⟩) (.int .i64 (min (arI .mul .i64 2 (thrD k p x).2.val) 999)) hk5 (show w.heap.size ≤ b5 by omega)
      have L6 := L5.far (a := ⟨b5, 1, none⟩) (.int .i64 (min (arI .mul .i64 2 (thrD k p x).2.val) 999)) (.inr hz5)
      have R6 := R5.set_ 1 (.int .i64 (min (arI .mul .i64 2 (thrD k p x).2.val) 999))
      refine WL.nil (NX.next ?_)
      refine CW.seq (CW.region ?_)
      refine WL.vv rfl rfl (r_loadS rfl rfl Tryz.underlying34 rfl R6 is_r) (by decide) ?_
      refine WL.st rfl rfl rfl rfl (cs := repA ⟨(thrD k p x).2.code, min (arI .mul .i64 2 (thrD k p x).2.val) 999, (thrD k p x).2.text, (thrD k p x).2.want, (thrD k p x).2.had⟩) rfl L6.b3 rfl (rep_one _) is_r fun w9 R9 O9 => ?_
      have e : thrD (k + 1) p x = ((thrD k p x).1, ⟨(thrD k p x).2.code, min (arI .mul .i64 2 (thrD k p x).2.val) 999, (thrD k p x).2.text, (thrD k p x).2.want, (thrD k p x).2.had⟩) := by rw [thrD, if_neg N0, if_neg N1, if_neg N2, if_neg N3, if_neg N4, if_neg N5, if_pos C, twoR, if_pos h2]; rfl
      refine WL.nil (NX.next (CW.ret ?_))
      exact NX.retB (NX.ret (NX.body1 rfl rfl R9 Tryz.underlying34 rfl is_r (by rw [e]; exact (A6.one O9 L6.n3 (by omega)).done H.out)))
    · refine WL.vv rfl rfl (r_cmpB (b := false) rfl rfl rfl rfl (by simp [cmpI, h2])) (by decide) ?_
      refine WL.nil (NX.next (CW.no rfl (CW.skip (NX.next ?_))))
      refine CW.seq (CW.region ?_)
      refine WL.vv rfl rfl (r_loadS rfl rfl Tryz.underlying34 rfl R5 is_r) (by decide) ?_
      refine WL.st rfl rfl rfl rfl rfl L5.b3 rfl (rep_one _) is_r fun w9 R9 O9 => ?_
      have e : thrD (k + 1) p x = ((thrD k p x).1, (thrD k p x).2) := by rw [thrD, if_neg N0, if_neg N1, if_neg N2, if_neg N3, if_neg N4, if_neg N5, if_pos C, twoR, if_neg h2]
      refine WL.nil (NX.next (CW.ret ?_))
      exact NX.retB (NX.ret (NX.body1 rfl rfl R9 Tryz.underlying34 rfl is_r (by rw [e]; exact (A5.one O9 L5.n3 (by omega)).done H.out)))
  have hq : (decide ((nth p.layers k).name = twiceN)) = false := by
    simp only [Bool.and_eq_false_iff, decide_eq_false_iff_not]
    exact C
  have N6 := C
  clear C
  rw [hq]
  clear hq
  refine CW.no rfl ?_
  refine CW.skip (NX.norB (NX.next ?_))
  refine CW.seq (CW.region ?_)
  refine WL.vv rfl rfl (r_load rfl rfl Tryz.underlying89 rfl l0) (by decide) ?_
  refine WL.vv rfl rfl (r_load rfl rfl Tryz.underlying3 rfl l1) (by decide) ?_
  refine WL.vv rfl rfl (r_arB rfl rfl rfl rfl hw) (by decide) ?_
  refine WL.vv rfl rfl (r_loadS rfl rfl Tryz.underlying39 rfl L.b2 is_c) (by decide) ?_
  refine WL.c rfl rfl (r_call (args := #[PQ g, .int .i64 ((k : Nat) : Int), callV x]) ca_th rfl rfl rfl) (by decide) (IH _ _ _ _ _ _ HS.pb HX (by omega)) ?_
  rintro _ w5 ⟨rfl, hp5, hf5⟩
  refine ⟨_, rfl, ?_⟩
  have A5 := HS.call hp5 hf5
  have L5 := L.call hf5
  refine WL.st rfl rfl rfl rfl rfl L5.b3 rfl (rep_one _) is_r fun w9 R9 O9 => ?_
  have e : thrD (k + 1) p x = ((thrD k p x).1, (thrD k p x).2) := by rw [thrD, if_neg N0, if_neg N1, if_neg N2, if_neg N3, if_neg N4, if_neg N5, if_neg N6]
  refine WL.nil (NX.next (CW.ret ?_))
  exact (NX.body1 rfl rfl R9 Tryz.underlying34 rfl is_r (by rw [e]; exact (A5.one O9 L5.n3 (by omega)).done H.out))
set_option maxHeartbeats 4000000 in
theorem t_zero (hDO : DoesOk) : IHt 0 := by
  intro K w g S2 p x h hx hk
  have HW := show Below w.heap.size w ((((w.alloc (.cells #[PQ g] 89)).alloc (.cells #[.int .i64 ((0 : Nat) : Int)] 3)).alloc (.cells #[.string x.method, .string x.key, .int .i64 x.val, .string x.text] 39)).alloc (.cells zReply 34)) by go_grown
  have hnk : ∀ i, ¬ K (w.heap.size + i) := fun i hk => by have := (h.kb _ hk).2; omega
  have b0 := show RBlk ((((w.alloc (.cells #[PQ g] 89)).alloc (.cells #[.int .i64 ((0 : Nat) : Int)] 3)).alloc (.cells #[.string x.method, .string x.key, .int .i64 x.val, .string x.text] 39)).alloc (.cells zReply 34)) w.heap.size 89 #[PQ g] from (((RBlk.new w _ _).alloc _).alloc _).alloc _
  have b1 := show RBlk ((((w.alloc (.cells #[PQ g] 89)).alloc (.cells #[.int .i64 ((0 : Nat) : Int)] 3)).alloc (.cells #[.string x.method, .string x.key, .int .i64 x.val, .string x.text] 39)).alloc (.cells zReply 34)) (w.heap.size + 1) 3 #[.int .i64 ((0 : Nat) : Int)] by
    have := (RBlk.new (w.alloc (.cells #[PQ g] 89)) 3 #[.int .i64 ((0 : Nat) : Int)]); simp only [World.size_alloc] at this; exact (this.alloc _).alloc _
  have b2 := show RBlk ((((w.alloc (.cells #[PQ g] 89)).alloc (.cells #[.int .i64 ((0 : Nat) : Int)] 3)).alloc (.cells #[.string x.method, .string x.key, .int .i64 x.val, .string x.text] 39)).alloc (.cells zReply 34)) (w.heap.size + 1 + 1) 39 #[.string x.method, .string x.key, .int .i64 x.val, .string x.text] by
    have := (RBlk.new ((w.alloc (.cells #[PQ g] 89)).alloc (.cells #[.int .i64 ((0 : Nat) : Int)] 3)) 39 #[.string x.method, .string x.key, .int .i64 x.val, .string x.text]); simp only [World.size_alloc] at this; exact this.alloc _
  have b3 := show RBlk ((((w.alloc (.cells #[PQ g] 89)).alloc (.cells #[.int .i64 ((0 : Nat) : Int)] 3)).alloc (.cells #[.string x.method, .string x.key, .int .i64 x.val, .string x.text] 39)).alloc (.cells zReply 34)) (w.heap.size + 1 + 1 + 1) 34 zReply by
    have := (RBlk.new (((w.alloc (.cells #[PQ g] 89)).alloc (.cells #[.int .i64 ((0 : Nat) : Int)] 3)).alloc (.cells #[.string x.method, .string x.key, .int .i64 x.val, .string x.text] 39)) 34 zReply); simp only [World.size_alloc] at this; exact this
  have HS := (St.start h).below HW
  have hn3 : ¬ K (w.heap.size + 1 + 1 + 1) := hnk 3
  refine calls_CW (E := [(0, PQ g), (1, .int .i64 ((0 : Nat) : Int)), (2, callV x)]) Tryz.func57 rfl Tryz.ntmps57 (by simp) (by simp) ?_
  refine CW.seq (CW.region ?_)
  refine WL.vv rfl rfl (r_box rfl rfl) (by decide) ?_
  refine WL.vv rfl rfl (r_box rfl rfl) (by decide) ?_
  refine WL.vv rfl rfl (r_box rfl rfl) (by decide) ?_
  refine WL.vv rfl rfl (r_alloc rfl iz_r) (by decide) ?_
  refine WL.nil (NX.next ?_)
  show CW _ Tryz.prog _ _ _ ((((w.alloc (.cells #[PQ g] 89)).alloc (.cells #[.int .i64 ((0 : Nat) : Int)] 3)).alloc (.cells #[.string x.method, .string x.key, .int .i64 x.val, .string x.text] 39)).alloc (.cells zReply 34))
  refine CW.sub (E' := [(3, PQ (w.heap.size)), (4, PQ (w.heap.size + 1)), (5, PQ (w.heap.size + 1 + 1)), (6, PQ (w.heap.size + 1 + 1 + 1))]) ⟨rfl, by simp only [World.size_alloc]; rfl, by simp only [World.size_alloc]; rfl, by simp only [World.size_alloc]; rfl, trivial⟩ ?_
  generalize ((((w.alloc (.cells #[PQ g] 89)).alloc (.cells #[.int .i64 ((0 : Nat) : Int)] 3)).alloc (.cells #[.string x.method, .string x.key, .int .i64 x.val, .string x.text] 39)).alloc (.cells zReply 34)) = wa at HW b0 b1 b2 b3 HS ⊢
  clear HW hnk
  refine CW.seq (CW.seq (CW.region ?_))
  refine WL.vv rfl rfl (r_load rfl rfl Tryz.underlying3 rfl (b1.cell 0)) (by decide) ?_
  refine WL.vv rfl rfl (r_cmpB (b := true) rfl rfl rfl rfl rfl) (by decide) ?_
  refine WL.nil (NX.next (CW.yes rfl ?_))
  refine CW.seq (CW.tail 4 mo (by kernel_rfl) fun wc hwd hBd => ?_)
  replace b0 := b0.below hBd b0.lt
  replace b2 := b2.below hBd b2.lt
  replace b3 := b3.below hBd b3.lt
  replace HS := HS.below hBd
  refine WS.vv rfl rfl (r_load rfl rfl Tryz.underlying89 rfl (b0.cell 0)) (by decide) ?_
  refine WS.vv rfl rfl (r_nil rfl rfl) (by decide) ?_
  refine WS.vv rfl rfl (r_field rfl rfl fo_p0) (by decide) ?_
  refine WS.vv rfl rfl (r_loadS rfl rfl Tryz.underlying39 rfl b2 is_c) (by decide) ?_
  refine WS.go ?_
  refine WL.c rfl rfl (r_call (args := #[PQ g, callV x]) ca_do rfl rfl rfl) (by decide) (hDO _ _ _ _ _ _ HS.pb hx) ?_
  rintro _ w5 ⟨rfl, hp5, hf5⟩
  refine ⟨_, rfl, ?_⟩
  have A5 := HS.call hp5 hf5
  have R5 := b3.frk hf5 hn3
  have n5 : ¬ Gr K wc w5 (w.heap.size + 1 + 1 + 1) := fun q => by rcases q with q | q; exact hn3 q; have := b3.lt; omega
  refine WL.st rfl rfl rfl rfl rfl R5 rfl (rep_one _) is_r fun w9 R9 O9 => ?_
  refine WL.nil (NX.next (CW.ret ?_))
  exact NX.ret (NX.body1 rfl rfl R9 Tryz.underlying34 rfl is_r ((A5.one O9 n5 (by omega)).done h))
theorem t_through (hDO : DoesOk) : ∀ k, IHt k
  | 0 => t_zero hDO
  | k + 1 => t_step (t_through hDO k)
end Go.Proofs.YtbgcaneflfdddaaGreatDoor
/- Contract: a call of a part (impl.CallPart), all its walks together. -/
namespace Go.Proofs.YtbgcaneflfdddaaGreatDoor
open Go.RowKit Go
variable [GC]
theorem does_all [HasPow] [HasMax] [HasErr] : DoesOk := fun K w g S2 p x h hx => t_does (fun K w g S2 p x h hx => t_keepCall h hx) h hx
theorem c_impl_CallPart [HasPow] [HasMax] [HasErr] (p : Part) (x : Call) (hc : p.core.cells.length ≤ 4294967296) (hl : p.layers.length ≤ 4294967296) (hx : x.text.size < 4294967281) : FunR Tryz.prog 17 none [enc p, enc x] (.tup [enc (callD p x).1, enc (callD p x).2]) [] [(3, 2), (5, 2)] :=
 t_CallPart (t_through does_all) p x hc hl hx
end Go.Proofs.YtbgcaneflfdddaaGreatDoor
/- Equality of hosts: what the program and the reference compute. -/
namespace Go.Proofs.YtbgcaneflfdddaaGreatDoor
open Go.RowKit Go
variable [GC]
theorem c_impl_SameCore (a b : Core) : Fun Tryz.prog 68 none [enc a, enc b] (.bool (decide (a = b))) [] := by
 refine Fun.ofV vc_impl_SameCore_ok ty_impl_SameCore_ok rfl ?_ (fun hfit => ?_)
 ·exact ⟨ty_Core a, ty_Core b, trivial⟩
 have hl : a.cells.length ≤ 9223372036854775807 := by
  have hf := hfit.1
  simp only [enc, Fits, cells_Core, FitsL] at hf
  exact fits_encS hf.2.2.2.1
 unfold vc_impl_SameCore
 refine den_ite (fun h => ?_) (fun h => ?_)
 ·simp only [E.den, dEq, iEq, sEq, cells_Core] at h
  have : a ≠ b := fun e => by subst e; simp at h
  exact den_ret (by simp [E.den, this])
 simp only [E.den, dEq, iEq, sEq, cells_Core] at h
 simp at h
 obtain ⟨⟨⟨⟨h1, h2⟩, h3⟩, h4⟩, h5⟩ := h
 have h5 : a.cells.length = b.cells.length := by omega
 refine den_for a.cells.length (fun k => [.int .i64 k]) (fun k => ∀ i, i < k → nth a.cells i = nth b.cells i) rfl (by omega) ?_
 intro k hk hI _
 simp only [cA]
 refine den_ite (fun g2 => ?_) (fun g2 => ?_)
 ·simp only [E.den, dEq, iEq, sEq, cells_Core] at g2
  have g2 : k < a.cells.length := by simp at g2; exact g2
  (refine den_cond (fun hg => ?_) ?_; (focus (simp only [gsH, gE, E.den, dEq, iEq, sEq, cells_Core] at hg ⊢; (try simp only [D.bool.injEq] at hg); (try simp only [D.bool.injEq]); grind)))
  (refine den_cond (fun hg => ?_) ?_; (focus (simp only [gsH, gE, E.den, dEq, iEq, sEq, cells_Core] at hg ⊢; (try simp only [D.bool.injEq] at hg); (try simp only [D.bool.injEq]); grind)))
  refine den_ite (fun g3 => ?_) (fun g3 => ?_)
  ·simp only [E.den, dEq, iEq, sEq, cells_Core, row_Cell, eqv_Cell] at g3
   have g3 : nth a.cells k ≠ nth b.cells k := by simpa using g3
   have : a ≠ b := fun e => g3 (by rw [e])
   exact den_ret (by simp [E.den, this])
  ·simp only [E.den, dEq, iEq, sEq, cells_Core, row_Cell, eqv_Cell] at g3
   have g3 : nth a.cells k = nth b.cells k := by simpa using g3
   refine den_next g2 ?_ fun i hi => ?_
   ·simp only [E.den, dEq, iEq, sEq]
    rw [ar_add (by omega) (by omega)]; rfl
   ·rcases Nat.lt_or_ge i k with h' | h'
    ·exact hI i h'
    ·obtain rfl : i = k := by omega
     exact g3
 ·simp only [E.den, dEq, iEq, sEq, cells_Core] at g2
  obtain rfl : k = a.cells.length := by simp at g2; omega
  have : a = b := by rw [eq_Core]; exact ⟨h1, h2, h3, ext_nth h5 hI, h4⟩
  exact den_ret (by simp [E.den, this])
theorem c_impl_SamePart (a b : Part) : Fun Tryz.prog 22 none [enc a, enc b] (.bool (decide (a = b))) [] := by
 refine Fun.ofV vc_impl_SamePart_ok ty_impl_SamePart_ok rfl ?_ (fun hfit => ?_)
 ·exact ⟨ty_Part a, ty_Part b, trivial⟩
 have hl : a.layers.length ≤ 9223372036854775807 := by
  have hf := hfit.1
  simp only [enc, Fits, cells_Part, FitsL] at hf
  exact fits_encS hf.2.2.2.2.2.1
 unfold vc_impl_SamePart
 ((first | refine den_call ?_ (c_impl_SameCore a.core b.core) (trivial) ?_ | refine den_callR ?_ (c_impl_SameCore a.core b.core) (trivial) ?_ | refine den_call ?_ (.ofR (c_impl_SameCore a.core b.core)) (trivial) ?_); (focus (simp only [VC.den, E.den, dEq, gsH_nil, and_true, cells_Part]; try exact rfl)); (simp only [cA]))
 refine den_ite (fun h => ?_) (fun h => ?_)
 ·simp only [E.den, dEq, iEq, sEq, cells_Part] at h
  have : a ≠ b := fun e => by subst e; simp at h
  exact den_ret (by simp [E.den, this])
 simp only [E.den, dEq, iEq, sEq, cells_Part] at h
 simp at h
 obtain ⟨h1, h5⟩ := h
 have h5 : a.layers.length = b.layers.length := by omega
 refine den_for a.layers.length (fun k => [.int .i64 k]) (fun k => ∀ i, i < k → nth a.layers i = nth b.layers i) rfl (by omega) ?_
 intro k hk hI _
 simp only [cA]
 refine den_ite (fun g2 => ?_) (fun g2 => ?_)
 ·simp only [E.den, dEq, iEq, sEq, cells_Part] at g2
  have g2 : k < a.layers.length := by simp at g2; exact g2
  (refine den_cond (fun hg => ?_) ?_; (focus (simp only [gsH, gE, E.den, dEq, iEq, sEq, cells_Part] at hg ⊢; (try simp only [D.bool.injEq] at hg); (try simp only [D.bool.injEq]); grind)))
  (refine den_cond (fun hg => ?_) ?_; (focus (simp only [gsH, gE, E.den, dEq, iEq, sEq, cells_Part] at hg ⊢; (try simp only [D.bool.injEq] at hg); (try simp only [D.bool.injEq]); grind)))
  refine den_ite (fun g3 => ?_) (fun g3 => ?_)
  ·simp only [E.den, dEq, iEq, sEq, cells_Part, row_Layer, eqv_Layer] at g3
   have g3 : nth a.layers k ≠ nth b.layers k := by simpa using g3
   have : a ≠ b := fun e => g3 (by rw [e])
   exact den_ret (by simp [E.den, this])
  ·simp only [E.den, dEq, iEq, sEq, cells_Part, row_Layer, eqv_Layer] at g3
   have g3 : nth a.layers k = nth b.layers k := by simpa using g3
   refine den_next g2 ?_ fun i hi => ?_
   ·simp only [E.den, dEq, iEq, sEq]
    rw [ar_add (by omega) (by omega)]; rfl
   ·rcases Nat.lt_or_ge i k with h' | h'
    ·exact hI i h'
    ·obtain rfl : i = k := by omega
     exact g3
 ·simp only [E.den, dEq, iEq, sEq, cells_Part] at g2
  obtain rfl : k = a.layers.length := by simp at g2; omega
  have : a = b := by rw [eq_Part]; exact ⟨h1, ext_nth h5 hI⟩
  exact den_ret (by simp [E.den, this])
end Go.Proofs.YtbgcaneflfdddaaGreatDoor
/- Contracts that the laws of parts share: unwrapping, calls in a row, recipes, drawn parts with calls. -/
namespace Go.Proofs.YtbgcaneflfdddaaGreatDoor
open Go.RowKit Go
section
variable [GC]
theorem c_impl_Unwrap (p : Part) (h1 : p.core.cells.length ≤ 4294967296) (h2 : p.layers.length ≤ 4294967296) : FunR Tryz.prog 26 none [enc p] (.tup [enc (unwrapP p).1, .bool (unwrapP p).2]) [] [(3, 2)] := by
 refine FunR.ofV vc_impl_Unwrap_ok ty_impl_Unwrap_ok rt_impl_Unwrap_ok rfl ?_ (fun hfit => ?_)
 ·exact ⟨ty_Part p, trivial⟩
 unfold vc_impl_Unwrap
 ((first | refine den_call ?_ (c_impl_copyPart p h1 h2) (ty_Part _) ?_ | refine den_callR ?_ (c_impl_copyPart p h1 h2) (ty_Part _) ?_ | refine den_call ?_ (.ofR (c_impl_copyPart p h1 h2)) (ty_Part _) ?_); (focus (simp only [VC.den, E.den, dEq, gsH_nil, and_true]; try exact rfl)); (simp only [cA]))
 ((first | refine den_call ?_ (c_impl_IsPart p) (trivial) ?_ | refine den_callR ?_ (c_impl_IsPart p) (trivial) ?_ | refine den_call ?_ (.ofR (c_impl_IsPart p)) (trivial) ?_); (focus (simp only [VC.den, E.den, dEq, gsH_nil, and_true]; try exact rfl)); (simp only [cA]))
 refine den_ite (fun h => ?_) (fun h => ?_)
 ·simp only [E.den, dEq, iEq, sEq, cells_Part] at h
  refine den_ret ?_
  unfold unwrapP
  rw [if_pos (by grind)]
  rfl
 simp only [E.den, dEq, iEq, sEq, cells_Part] at h
 have hn : ¬ (partB p = false ∨ p.layers.length = 0) := by grind
 have hp : partB p = true := by grind
 have hp3 := (partB_small hp).2
 have e1 : arI .sub .i64 (p.layers.length : Int) 1 = ((p.layers.length - 1 : Nat) : Int) := by rw [ar_sub (by omega) (by omega)]; omega
 refine den_cond (fun _ => ?_) (den_ret ?_)
 ·simp only [E.den, dEq, iEq, sEq, cells_Part]
  rw [e1]; simp
 ·unfold unwrapP
  rw [if_neg hn]
  simp only [E.den, dEq, iEq, sEq, cells_Part]
  rw [e1]
  simp [cutD, enc, encS, cells_Part, cells_Core, List.dropLast_eq_take, List.map_take]
def isPL (r : D) : Prop := ∃ (p : Part) (l : List Call), r = .tup [enc p, encS l] ∧ partB p = true ∧ l.length ≤ 6 ∧ ∀ x ∈ l, callB x = true ∧ x.text.size ≤ 100
theorem isPL.ty {r : D} (h : isPL r) : HasVT tbl.tab (.tup [.agg [.str, .bool, .bool, .sl 125, .int .i64, .sl 52], .c (.sl 39)]) r := by
 obtain ⟨p, l, rfl, _⟩ := h
 exact ⟨ty_Part p, ty_CallS l, trivial⟩
structure PlSt where
 l : List Call
 n : Int
 rows : List (List D)
 i : Int
 h : Int
def PlSt.lay (s : PlSt) : List D := [encS s.l, .int .i64 s.n, .sl s.rows, .int .i64 s.i, .int .i64 s.h]
theorem robot_part : partB ⟨⟨robotN, false, false, [], 0⟩, []⟩ = true := by decide +kernel
theorem d_DrawPart {rows : List (List D)} (hr : RowsTy tbl.tab [.int .u8] rows) : ∃ r, isPL r ∧ FunR Tryz.prog 15 none [.sl rows] r [] [(6, 4)] := by
 refine FunR.exV vc_spec_DrawPart_ok rt_spec_DrawPart_ok rfl ty_spec_DrawPart_ok ⟨by show RowsTy _ (tbl.tab _) _; rw [tab_u8]; exact hr, trivial⟩ (.tup [enc (⟨⟨robotN, false, false, [], 0⟩, []⟩ : Part), encS ([] : List Call)]) ⟨_, _, rfl, robot_part, by simp, (fun x hx => by cases hx)⟩ fun hfit => ?_; unfold vc_spec_DrawPart
 refine den_newc rfl hr fun sd => ?_
 have hi : (0 : Int) ≤ 0 := Int.le_refl _
 ((first | apply den_draw | apply den_drawR); (iterate 2 (focus (simp only [VC.den, E.den, dEq, gsH_nil, and_true]; try exact rfl))); (focus (exact ⟨_, _, _, rfl, by assumption, by assumption⟩)); (focus (first | exact d_l4Draw | exact Dr.ofR (d_l4Draw))); (focus (exact fun _ h => isPa.ty h)); rintro _ rows i sd ⟨p, rfl, hp⟩ hr hi; (simp only [cA]))
 ((first | apply den_draw | apply den_drawR); (iterate 2 (focus (simp only [VC.den, E.den, dEq, gsH_nil, and_true]; try exact rfl))); (focus (exact ⟨_, _, _, rfl, by assumption, by assumption⟩)); (focus (first | exact d_l1Below _ | exact Dr.ofR (d_l1Below _))); (focus (exact fun _ h => isBel.ty h)); rintro _ rows i sd ⟨n, rfl, hn⟩ hr hi; (simp only [cA]))
 have hn2 := hn.2 (by omega)
 refine den_loop PlSt PlSt.lay (fun s => RowsTy tbl.tab [.int .u8] s.rows ∧ 0 ≤ s.i ∧ 0 ≤ s.n ∧ (s.l.length : Int) + s.n ≤ 6 ∧ ∀ x ∈ s.l, callB x = true ∧ x.text.size ≤ 100) (fun s => s.n.toNat) ⟨[], n, _, _, _⟩ (fun s s' h => by simp [PlSt.lay] at h; rw [h.2.1]) rfl ⟨hr, hi, hn.1, by simp; omega, (fun x hx => by cases hx)⟩ ?_
 rintro ⟨l, m, rows, i, sd⟩ ⟨hr, hi, hm, hml, hl⟩ -
 simp only at hr hi hm hml hl
 simp only [PlSt.lay, List.cons_append, List.nil_append]
 refine den_ite (fun h => ?_) (fun h => ?_)
 ·simp [E.den, cmpI] at h
  have hms : arI .sub .i64 m 1 = m - 1 := ar_sub (by omega) (by omega)
  ((first | apply den_draw | apply den_drawR); (iterate 2 (focus (simp only [VC.den, E.den, dEq, gsH_nil, and_true]; try exact rfl))); (focus (exact ⟨_, _, _, rfl, by assumption, by assumption⟩)); (focus (first | exact d_l4Call p | exact Dr.ofR (d_l4Call p))); (focus (exact fun _ h => isCl.ty h)); rintro _ rows i sd ⟨x, rfl, hx⟩ hr hi; (simp only [cA]))
  ((first | refine den_call ?_ (c_spec_IsCall x) (trivial) ?_ | refine den_callR ?_ (c_spec_IsCall x) (trivial) ?_ | refine den_call ?_ (.ofR (c_spec_IsCall x)) (trivial) ?_); (focus (simp only [VC.den, E.den, dEq, gsH_nil, and_true]; try exact rfl)); (simp only [cA]))
  refine den_ite (fun h2 => ?_) (fun h2 => ?_)
  ·simp only [E.den, dEq, iEq, sEq] at h2
   refine den_cond (fun _ => ?_) ?_
   ·simp only [E.den, dEq, iEq, sEq]; simp; omega
   refine ⟨⟨l ++ [x], m - 1, rows, i, sd⟩, ?_, ⟨hr, hi, by simp only; omega, by simp; omega, fun y hy => ?_⟩, by simp only; omega⟩
   ·simp [E.den, PlSt.lay, hms, encS, enc]
   ·rcases List.mem_append.1 hy with hy | hy
    ·exact hl y hy
    ·simp at hy; subst hy; exact ⟨h2, hx⟩
  ·refine ⟨⟨l, m - 1, rows, i, sd⟩, ?_, ⟨hr, hi, by simp only; omega, by simp only; omega, hl⟩, by simp only; omega⟩
   simp [E.den, PlSt.lay, hms]
 ·exact ⟨⟨p, l, rfl, hp, by omega, hl⟩, rfl⟩
end
section
variable [GC] [HasPow] [HasMax] [HasErr]
theorem c_CallPart (p : Part) (x : Call) (hp : partB p = true) (hx : x.text.size ≤ 100) : FunR Tryz.prog 17 none [enc p, enc x] (.tup [enc (callD p x).1, enc (callD p x).2]) [] [(3, 2), (5, 2)] :=
 c_impl_CallPart p x (by have := (partB_small hp).1; omega) (by have := (partB_small hp).2; omega) (by omega)
end
end Go.Proofs.YtbgcaneflfdddaaGreatDoor
/- What a law is handed, opened: a value that reads as data of the statement's kind reads as abstract data. No program in sight. -/
namespace Go.Proofs.YtbgcaneflfdddaaGreatDoor
open Go.RowKit Go.ChangeShapes Go.WideShapes Go.ChangeAt
variable [GC]
def opn (tb : TB) : Nat → Nat → Bool
 | 0, _ => false
 | d + 1, T => match tb.get T with
  | none => false
  | some ti => match ti.vt with
   | .one (.c (.sl e)) => opn tb d e && Nat.blt 0 (tb.tab e).length
   | .one (.c _) => true
   | .one (.agg ts) => contig tb 0 ts ti.fs && ti.fs.all (fun x => opn tb d x.2)
   | .tup _ => false
theorem opn_one {tb : TB} {d T : Nat} (h : opn tb d T = true) : ∃ ti v, tb.get T = some ti ∧ ti.vt = .one v ∧ tb.tab T = v.cells := by
 cases d with
 | zero => simp [opn] at h
 | succ d =>
  simp only [opn] at h
  split at h
  ·simp at h
  ·rename_i ti hti
   cases hv : ti.vt with
   | tup _ => rw [hv] at h; simp at h
   | one v => exact ⟨ti, v, hti, hv, by simp [TB.tab, hti, TI.cells, hv]⟩
def vtOf (tb : TB) (T : Nat) : VT := match tb.get T with | some ti => ti.vt | none => .tup []
def M0 : Addr → Prop := fun _ => False
section
variable {H : Type} {enc : TypeId × Value → H} {P : Program} {w : World} {base : Nat} {spare : Nat → Bool} {held : Bool} {tb : TB}
theorem rs_rw {M : Addr → Prop} {ds : List D} {cs : List Value} {b o : Nat} (h : Rs w M ds cs) (hc : ∀ j u, cs[j]? = some u → w.cell? ⟨b, o + j, none⟩ = some u) (hM : ∀ p, ¬ M p) : Rw w M ds b o :=
 Rw.of fun i d hd => by
  obtain ⟨v, h1, h2⟩ := h.get hd
  exact ⟨v, hc i v h1, hM _, h2⟩
theorem cellsOf_tab (hcx : tbOk P tb tb = true) {d T : Nat} (h : opn tb d T = true) : P.cellsOf T = (tb.tab T).length := by
 obtain ⟨ti, v, h1, h2, h3⟩ := opn_one h
 obtain ⟨i, hi, hs, _⟩ := ty_one hcx h1 h2
 simp [Program.cellsOf, hi, hs, h3]
theorem open_fields {cs : List Value} : ∀ (fl : List (Nat × Nat)) (o : Nat) (ts : List CT), contig tb o ts fl = true →
  (∀ p ∈ fl, ∃ ds, RowTy tb.tab (tb.tab p.2) ds ∧ Rs w M0 ds ((cs.drop p.1).take (tb.tab p.2).length)) → cs.length = o + ts.length → ∃ ds, RowTy tb.tab ts ds ∧ Rs w M0 ds (cs.drop o)
 | [], o, ts, h, _, hl => by
  simp only [contig, List.isEmpty_iff] at h
  subst h
  refine ⟨[], trivial, ?_⟩
  rw [List.drop_eq_nil_of_le (by simp at hl; omega)]; rfl
 | (o', t) :: r, o, ts, h, hf, hl => by
  simp only [contig, Bool.and_eq_true] at h
  obtain ⟨h1, h2⟩ := h
  have h1 := Nat.eq_of_beq_eq_true h1
  subst h1
  cases ht : tb.get t with
  | none => rw [ht] at h2; simp at h2
  | some i =>
   rw [ht] at h2
   simp only [Bool.and_eq_true, decide_eq_true_eq] at h2
   obtain ⟨h2, h3⟩ := h2
   have htab : tb.tab t = i.cells := by simp [TB.tab, ht]
   obtain ⟨ds, q1, q2⟩ := hf (o, t) (by simp)
   simp only [htab] at q1 q2
   have hle : i.cells.length ≤ ts.length := by
    have := congrArg List.length h2
    rw [List.length_take] at this; omega
   obtain ⟨ds', q3, q4⟩ := open_fields r (o + i.cells.length) (ts.drop i.cells.length) h3 (fun p hp => hf p (by simp [hp])) (by rw [List.length_drop]; omega)
   refine ⟨ds ++ ds', ?_, ?_⟩
   ·have : ts = i.cells ++ ts.drop i.cells.length := (List.take_append_drop i.cells.length ts).symm.trans (by rw [h2])
    rw [this]; exact q1.append q3
   ·have : cs.drop o = (cs.drop o).take i.cells.length ++ cs.drop (o + i.cells.length) := by
     rw [← List.drop_drop, List.take_append_drop]
    rw [this]; exact q2.append q4
theorem open_ty (hcx : tbOk P tb tb = true) : ∀ (d T : Nat), opn tb d T = true → ∀ (fuel : Nat) (cs : List Value) (x : DataW H × List MemPlace), DataW.trod enc P w base spare held fuel T cs = some x → ∃ ds, RowTy tb.tab (tb.tab T) ds ∧ Rs w M0 ds cs
 | 0, _, h, _, _, _, _ => by simp [opn] at h
 | d + 1, T, h, fuel, cs, x, hx => by
  simp only [opn] at h
  split at h
  ·simp at h
  ·rename_i ti hti
   have htab : tb.tab T = ti.cells := by simp [TB.tab, hti]
   rw [htab]
   cases hv : ti.vt with
   | tup _ => rw [hv] at h; simp at h
   | one v =>
    rw [hv] at h
    simp only [TI.cells, hv]
    cases v with
    | c t =>
     obtain ⟨i, ds, _, _, _, _, hu, hd⟩ := ty_c hcx hti hv
     cases t with
     | mem => exact hd.elim
     | fn => exact hd.elim
     | bool =>
      simp only [DescC] at hd; subst hd
      obtain ⟨b, rfl, _⟩ := DataW.trod_bool hu hx
      exact ⟨[.bool b], ⟨trivial, trivial⟩, Rs.one rfl⟩
     | int k =>
      simp only [DescC] at hd; subst hd
      obtain ⟨n, rfl, _, hw⟩ := DataW.trod_int hu hx
      exact ⟨[.int k n], ⟨rfl, trivial⟩, Rs.one ⟨rfl, by simpa [Lit.wf] using hw⟩⟩
     | str =>
      simp only [DescC] at hd; subst hd
      obtain ⟨s, rfl, _, hw⟩ := DataW.trod_string hu hx
      exact ⟨[.str s], ⟨trivial, trivial⟩, Rs.one ⟨rfl, hw⟩⟩
     | sl e =>
      simp only [DescC] at hd; subst hd
      simp only [Bool.and_eq_true] at h
      obtain ⟨he, hpos⟩ := h
      have hpos : 0 < (tb.tab e).length := Nat.le_of_ble_eq_true hpos
      have hn := cellsOf_tab hcx he
      rcases Go.Deep.open_slice hu hx with ⟨h0, _⟩ | ⟨a, len, cap, m, n, Dd, Pl, hcs, _, hl, hm, hmm, _, hi⟩
      ·exact ⟨[.sl []], ⟨trivial, trivial⟩, by rw [h0]; exact Rs.one ⟨none, 0, 0, rfl, rfl, Nat.le_refl _, Nat.zero_le _, fun _ => rfl, fun b o s hh => by cases hh⟩⟩
      ·have hlm : len ≤ m := by rw [hmm]; split <;> omega
       have hex : ∀ i, i < len → ∃ q : List Value × List D, w.cells? base (a.add (i * P.cellsOf e)) (P.cellsOf e) = some q.1 ∧ RowTy tb.tab (tb.tab e) q.2 ∧ Rs w M0 q.2 q.1 := fun i hil => by
        obtain ⟨cs', hc, ht'⟩ := hi i (by omega)
        obtain ⟨y, hy1, hy2⟩ := open_ty hcx d e he _ _ _ ht'
        exact ⟨(cs', y), hc, hy1, hy2⟩
       have hch : ∃ f : Nat → List Value × List D, ∀ i, i < len → w.cells? base (a.add (i * P.cellsOf e)) (P.cellsOf e) = some (f i).1 ∧ RowTy tb.tab (tb.tab e) (f i).2 ∧ Rs w M0 (f i).2 (f i).1 := by
        refine ⟨fun i => if hi : i < len then (hex i hi).choose else ([], []), fun i hi => ?_⟩
        simp only [hi, dif_pos]
        exact (hex i hi).choose_spec
       obtain ⟨f, hf⟩ := hch
       have hcell : ∀ i, i < len → ∀ j u, (f i).1[j]? = some u → w.cell? ((a.add (i * P.cellsOf e)).add j) = some u := fun i hil j u hu => by
        obtain ⟨_, hcl, hat⟩ := World.cells?_some (hf i hil).1
        have hj : j < P.cellsOf e := by rw [← hcl]; exact (List.getElem?_eq_some_iff.1 hu).1
        rw [hat j hj, hu]
       have hspot : 0 < len → a.spot = none := fun h0 => by
        have hlen0 : 0 < (f 0).1.length := by rw [(hf 0 h0).2.2.length, (hf 0 h0).2.1.length]; exact hpos
        have hx := hcell 0 h0 0 _ (List.getElem?_eq_getElem hlen0)
        rw [Nat.zero_mul] at hx
        exact World.cell?_spot (a := a) (by simpa [Addr.add] using hx)
       refine ⟨[.sl ((List.range len).map fun i => (f i).2)], ⟨?_, trivial⟩, ?_⟩
       ·refine RowsTy.of fun r hr => ?_
        obtain ⟨i, hi, rfl⟩ := List.mem_map.1 hr
        exact (hf i (by simpa using hi)).2.1
       ·rw [hcs]
        refine Rs.one ⟨some a, len, cap, rfl, by simp, hl, hm, (fun h => by cases h), fun b o s hh => ⟨fun h0 => ?_, ?_⟩⟩
        ·have := hspot h0
         simp only [Option.some.injEq] at hh; subst hh; exact this
        ·simp only [Option.some.injEq] at hh; subst hh
         refine Rws.of (n := (tb.tab e).length) (fun r hr => ?_) fun i r hr => ?_
         ·obtain ⟨i, hi, rfl⟩ := List.mem_map.1 hr
          exact (hf i (by simpa using hi)).2.1.length
         ·have hil : i < len := by
           have := (List.getElem?_eq_some_iff.1 hr).1
           simpa using this
          have hr' : r = (f i).2 := by simp [hil] at hr; exact hr.symm
          subst hr'
          refine rs_rw (hf i hil).2.2 (fun j u hu => ?_) (fun _ h => h)
          have h1 := hcell i hil j u hu
          have hs := hspot (by omega)
          simp only at hs
          subst hs
          rw [hn] at h1
          rwa [addr_add, addr_add] at h1
    | agg ts =>
     simp only [Bool.and_eq_true] at h
     obtain ⟨hc, hall⟩ := h
     obtain ⟨i, fields, zs, hi, hs, _, _, _, hu, hfo⟩ := ty_agg hcx hti hv
     obtain ⟨xs, m, _, _, hl, hxs, hf⟩ := DataW.trod_struct hu hx
     have hlen : cs.length = ts.length := by rw [hl]; simp [Program.cellsOf, hi, hs]
     have key : ∀ p ∈ ti.fs, ∃ ds, RowTy tb.tab (tb.tab p.2) ds ∧ Rs w M0 ds ((cs.drop p.1).take (tb.tab p.2).length) := by
      intro p hp
      have hop := List.all_eq_true.1 hall p hp
      obtain ⟨k, hk⟩ := List.getElem?_of_mem hp
      have hfk : ∃ fd, fields.toList[k]? = some fd ∧ fd.offset = p.1 ∧ fd.type = p.2 := fieldsOk_get hfo hk
      obtain ⟨fd, hfd, e1, e2⟩ := hfk
      have hfd' : fields[k]? = some fd := by simpa using hfd
      have hlt : k < xs.length := by rw [hxs]; exact (Array.getElem?_eq_some_iff.1 hfd').1
      have ht := (hf k fd hfd').trans (List.getElem?_eq_getElem hlt)
      rw [e1, e2, cellsOf_tab hcx hop] at ht
      exact open_ty hcx d p.2 hop _ _ _ ht
     have := open_fields (w := w) ti.fs 0 ts hc key (by omega)
     simpa [V1.cells] using this
theorem open_arg (hcx : tbOk P tb tb = true) {r : Reach} {b0 T : Nat} {v : Value} {dd : DataW H} {p : List MemPlace} (ht : opn tb 12 T = true) (hv : Value.okWide P w r b0 T v) (h : DataW.Trod enc P w base spare held T v dd p) :
  ∃ x, HasVT tb.tab (vtOf tb T) x ∧ R w M0 x v := by
 obtain ⟨fuel, hf⟩ := h
 obtain ⟨ds, h1, h2⟩ := open_ty hcx 12 T ht fuel _ _ hf
 obtain ⟨ti, v1, hti, hv1, htab⟩ := opn_one ht
 rw [htab] at h1
 unfold vtOf
 rw [hti]
 simp only [hv1]
 cases v1 with
 | c t =>
  obtain ⟨_, d, _, _, _, _, hu, hd⟩ := ty_c hcx hti hv1
  have hc : v.cells.toList = [v] := by
   cases t <;> simp only [DescC] at hd <;> subst hd
   ·obtain ⟨_, rfl⟩ := okWide_bool hu hv; rfl
   ·obtain ⟨_, rfl⟩ := okWide_int hu hv; rfl
   ·obtain ⟨_, rfl⟩ := okWide_string hu hv; rfl
   ·obtain ⟨_, _, _, rfl⟩ := okWide_slice hu hv; rfl
  rw [hc] at h2
  match ds, h1 with
  | [x], h1 =>
   obtain ⟨v', q, e, h3, h4⟩ := h2
   simp only [List.cons.injEq] at e
   obtain ⟨rfl, rfl⟩ := e
   exact ⟨x, h1.1, h3⟩
 | agg ts =>
  obtain ⟨_, fields, _, _, _, _, _, _, hu, _⟩ := ty_agg hcx hti hv1
  obtain ⟨cs, rfl, _⟩ := okWide_struct hu hv
  exact ⟨.agg ds, h1, cs, rfl, h2⟩
end
theorem law_run {P : Program} {f : FuncId} {ds : List D} {vs : List Value} {w : World} (h : Fun P f none ds (.bool true) []) (hG : Rdy w M0) (hr : Rs w M0 ds vs) : Calls P f vs.toArray w fun e w' => e = .returned (.bool true) ∧ Below w.heap.size w w' := by
 refine (h.2 w M0 0 vs hG hr (fun cs hcs => by cases hcs)).mono ?_
 rintro e w' ⟨v, rfl, h1, h2, _⟩
 simp only [R] at h1
 subst h1
 exact ⟨rfl, h2.to_below⟩
end Go.Proofs.YtbgcaneflfdddaaGreatDoor
/- Rows that list variables of packages: the builder, and what the list says of the variables' blocks. No program in sight. -/
namespace Go.Proofs.YtbgcaneflfdddaaGreatDoor
open Go.RowKit Go Go.ChangeShapes
theorem handed_laid_shaped {H : Type} {enc : TypeId × Value → H} {a : Assume} {C : Checked} {os : Os} {f : FuncId} {fn : Func} {s : ChangeSpec} {conds : List PathCond} {apart fresh handsOn again : Bool} {X : World → Array Value → Prop}
  (hX : ∀ (w w' : World) (args : Array Value), w.heap = w'.heap → X w args → X w' args)
  (own : ownKnob C.prog.godebug = none) (started : os.Started) (noInit : C.prog.inits.idxOf? f = none) (hfn : C.prog.funcs[f]? = some fn)
  (witness : ∃ (w : World) (tape : Tape) (i : Input), w.os = os ∧ (w.forCall tape i).Shaped C.prog ∧ i.vars = [] ∧ Input.okWide C.prog (w.forCall tape i) .any w.heap.size f i ∧
   ((s.pre enc C.prog fn conds apart (w.forCall tape i).memory i.args ∧ X (w.forCall tape i).memory i.args) ∧ sizedMet enc C.prog fn (OpenSpec.ofChange s) apart (w.forCall tape i).memory i.args) ∧ a.holds C.prog (lone (Frame.enter C.prog f i.args .normal) [] (w.forCall tape i)))
  (contract : ∀ (W : World) (base : Nat) (args : Array Value) (ds gs : List (DataW H)) (before : List MemPlace),
   (∀ (j : Nat) t v, fn.params[j]? = some t → args[j]? = some v → Value.okWide C.prog W .any base t v) →
   DataW.Whole enc C.prog fn.params.toList s.vars apart W args.toList ds gs before →
   conds.all (PathCond.test C.prog ⟨fn.params.toList, ds, s.plain.varTypes C.prog, gs⟩) = true →
   (DataW.weightsEach C.prog (fn.params.toList ++ s.plain.varTypes C.prog) (ds ++ gs)).all (· ≤ reachBytes) = true → W.ShapedOpen C.prog → X W args →
   a.holds C.prog (lone (Frame.enter C.prog f args .normal) [] W) →
   Calls C.prog f args W fun e W' => ∃ v, e = .returned v ∧ s.post enc C.prog fn apart fresh handsOn again W args v W') :
  ReturnsInHanded a C os f .any (fun w args => (s.pre enc C.prog fn conds apart w args ∧ X w args) ∧ sizedMet enc C.prog fn (OpenSpec.ofChange s) apart w args) (s.post enc C.prog fn apart fresh handsOn again) := by
 refine returnsInHanded_of_calls own started noInit witness fun w tape i _ hshape _ hok hpre hh => ?_
 obtain ⟨_, _, _, fn', hfn', _, _, _, _, hval⟩ := hok
 cases Option.some.inj (hfn'.symm.trans hfn)
 obtain ⟨⟨⟨ds, gs, before, q1, q2⟩, q3⟩, q4⟩ := hpre
 refine (contract (w.forCall tape i) w.heap.size i.args ds gs before hval (DataW.Whole.of_heap (w' := w.forCall tape i) (by rfl) q1) q2 (q4.weights q1) hshape (hX _ _ _ (by rfl) q3) hh).mono fun e W' ⟨v, he, hp⟩ => ?_
 cases he
 exact ChangeSpec.post_blind hp
theorem stand_in {P : Program} {ps : Array TypeId} (h : ps.all (fun t => !P.wantsStandIn t) = true) : ∀ (j : Nat) t, ps[j]? = some t → P.wantsStandIn t = false := fun j t ht => by
 rw [Array.all_eq_true_iff_forall_mem] at h
 have := h t (Array.mem_of_getElem? ht)
 simpa using this
theorem ghas_of_var {P : Program} {w : World} {n : String} {g : Nat} {cs : Array Value} {p : Array Value → Prop} (hg : P.globalNamed n = some g) (h : w.var? P n = some cs) (hp : p cs) : GHas w g p := by
 simp only [World.var?, hg, Option.bind_some] at h
 split at h
 ·rename_i c t f hh
  simp at h; subst h
  exact ⟨_, t, f, hh, hp⟩
 ·simp at h
theorem ghas_of_cell {w : World} {g : Nat} {v : Value} (h : w.cell? ⟨g, 0, none⟩ = some v) : GHas w g fun cs => cs[0]? = some v := by
 unfold World.cell? at h
 cases hb : w.heap[g]? with
 | none => simp [hb] at h
 | some o =>
  simp only [hb] at h
  cases o with
  | cells cs t f => exact ⟨cs, t, f, hb, by simpa using h⟩
  | _ => simp at h
theorem seat_err {W : World} {r : List (String × DataW Unit)} {n : String} (hn : Tryz.prog.globalNamed n = some 1) (h : laidMet Tryz.prog ((n, Rows.laid_strconv_ErrSyntax) :: r) W) : GHas W 1 fun cs => ∃ tp p, cs = #[.iface tp p] := by
 obtain ⟨a, s, hv, _⟩ := laid_sentinel (tp := 211) h hn (by kernel_rfl) Tryz.underlying162
  (fun u hu => typeName_ptr_named (nm := "errors.errorString") (by kernel_rfl) (by kernel_rfl) (by decide) u (hu.trans (by decide)))
  Tryz.underlying211 Tryz.underlying213 rfl rfl Tryz.underlying9 (by kernel_rfl) (by kernel_rfl)
 exact ghas_of_var hn hv ⟨_, _, rfl⟩
theorem seat_pow {W : World} {r : List (String × DataW Unit)} {n : String} (hn : Tryz.prog.globalNamed n = some 3) (h : laidMet Tryz.prog ((n, Rows.laid_internal_strconv_uint64pow10) :: r) W) : GHas W 3 fun cs => cs = (Lib.pow10Tab.map fun z => Value.int .u64 z).toArray := by
 have e : (Rows.laid_internal_strconv_uint64pow10 : DataW Unit) = Lib.tabData .u64 Lib.pow10Tab := by kernel_rfl
 rw [e] at h
 have := Lib.tabIs_of_head (t := 203) hn (by kernel_rfl) Tryz.underlying203 Tryz.underlying185 (by kernel_rfl) (by kernel_rfl) h
 exact ghas_of_var hn this rfl
theorem seat_max {W : World} (h : W.ShapedOpen Tryz.prog) : GHas W 0 fun cs => ∃ m, cs[0]? = some (Value.int .i64 m) := by
 obtain ⟨m, hm⟩ := cell_of_shapedOpen_int (g := 0) (t := 3) (zero := #[.int .i64 0]) (k := .i64) h (of_decide_eq_true (by kernel_rfl)) (by kernel_rfl) rfl (by kernel_rfl) (by kernel_rfl) Tryz.underlying3
 obtain ⟨cs, t, f, h1, h2⟩ := ghas_of_cell hm
 exact ⟨cs, t, f, h1, m, h2⟩
theorem ghas_lt {w : World} {g : Nat} {p : Array Value → Prop} (h : GHas w g p) : g + 1 ≤ w.heap.size := by
 obtain ⟨cs, t, f, h1, _⟩ := h
 rcases Nat.lt_or_ge g w.heap.size with h | h
 ·exact h
 ·rw [Array.getElem?_eq_none h] at h1; cases h1
end Go.Proofs.YtbgcaneflfdddaaGreatDoor
/- What the rows ask of the seat's program as a whole, decided once. -/
namespace Go.Proofs.YtbgcaneflfdddaaGreatDoor
open Go
theorem jfOwn : ownKnob Tryz.prog.godebug = none := by kernel_rfl
theorem jfLaid : laidOutB Tryz.prog = true := by kernel_rfl
theorem jfRowed : mapsRowed Tryz.prog = true := by kernel_rfl
theorem jfStops : (Tryz.prog.stops == []) = true := by kernel_rfl
theorem jfKnobs : (Tryz.prog.stopKnobs == []) = true := by kernel_rfl
theorem jfKeys : (Rows.fnCountsRow.plainKeys == Tryz.prog.plainKeys) = true := by kernel_rfl
theorem jfHeard : Tryz.prog.stopsHeard = true := by kernel_rfl
theorem jfEnter : Tryz.prog.mayEnter = true := by kernel_rfl
theorem jfLifted : (Rows.fnCountsRow.lifted == Tryz.prog.liftsFinal) = true := by kernel_rfl
theorem jfMake : (Tryz.prog.make == some Rows.fnCountsRow.make) = true := by kernel_rfl
theorem and_tt {a b : Bool} (ha : a = true) (hb : b = true) : (a && b) = true := by rw [ha, hb]; rfl
end Go.Proofs.YtbgcaneflfdddaaGreatDoor
