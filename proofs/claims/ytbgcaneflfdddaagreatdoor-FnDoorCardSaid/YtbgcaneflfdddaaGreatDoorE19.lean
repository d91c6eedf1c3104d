/- Walk: a call within the layers of a part in a box (through), over an environment. -/
import Derived.Test.YtbgcaneflfdddaaGreatDoorE14
import Derived.Test.YtbgcaneflfdddaaGreatDoorE17
import Derived.Test.YtbgcaneflfdddaaGreatDoorE18
import Derived.Test.YtbgcaneflfdddaaGreatDoorE10
import Derived.Test.YtbgcaneflfdddaaGreatDoorE16
import Derived.ArgAppend
set_option linter.unusedVariables false
set_option linter.unusedSimpArgs false
set_option linter.unusedSectionVars false
set_option maxRecDepth 100000
namespace Go.Proofs.YtbgcaneflfdddaaGreatDoor
open Go.RowKit Go
variable [GC]
set_option maxHeartbeats 4000000 in
theorem t_step {k : Nat} (IH : IHt k) : IHt (k + 1) := by
  intro K w g S2 p x h hx hk
  have hkl : k < p.layers.length := by omega
  obtain ⟨b, o, cap, hS2, -, -, -, -, -, -, -⟩ := h.ly.at (i := k) (by rw [prL_len]; exact hkl)
  rw [prL_len] at hS2
  subst hS2
  have hgl := h.glt
  have H := Lib.hid h
  have HX := hx
  have hw : arI .sub .i64 ((k + 1 : Nat) : Int) 1 = (k : Int) := by
    obtain ⟨a, cap, _, h1, h2⟩ := h.ly.lenS
    rw [prL_len] at h1
    unfold maxLen at h2
    rw [ar_sub (by omega) (by omega)]; omega
  have HW := show Below w.heap.size w ((((w.alloc (.cells #[PQ g] 89)).alloc (.cells #[.int .i64 ((k + 1 : Nat) : Int)] 3)).alloc (.cells #[.string x.method, .string x.key, .int .i64 x.val, .string x.text] 39)).alloc (.cells zReply 34)) by go_grown
  have hnk : ∀ i, ¬ K (w.heap.size + i) := fun i hk => by have := (H.out.kb _ hk).2; omega
  have L := show Loc w g k x K ((((w.alloc (.cells #[PQ g] 89)).alloc (.cells #[.int .i64 ((k + 1 : Nat) : Int)] 3)).alloc (.cells #[.string x.method, .string x.key, .int .i64 x.val, .string x.text] 39)).alloc (.cells zReply 34)) from
    ⟨(((RBlk.new w _ _).alloc _).alloc _).alloc _,
     by have := (RBlk.new (w.alloc (.cells #[PQ g] 89)) 3 #[.int .i64 ((k + 1 : Nat) : Int)]); simp only [World.size_alloc] at this; exact (this.alloc _).alloc _,
     by have := (RBlk.new ((w.alloc (.cells #[PQ g] 89)).alloc (.cells #[.int .i64 ((k + 1 : Nat) : Int)] 3)) 39 #[.string x.method, .string x.key, .int .i64 x.val, .string x.text]); simp only [World.size_alloc] at this; exact this.alloc _,
     by have := (RBlk.new (((w.alloc (.cells #[PQ g] 89)).alloc (.cells #[.int .i64 ((k + 1 : Nat) : Int)] 3)).alloc (.cells #[.string x.method, .string x.key, .int .i64 x.val, .string x.text] 39)) 34 zReply); simp only [World.size_alloc] at this; exact this,
     hnk 0, hnk 1, hnk 2, hnk 3⟩
  have HS := (St.start H.out).below HW
  refine calls_CW (E := [(0, PQ g), (1, .int .i64 ((k + 1 : Nat) : Int)), (2, callV x)]) Tryz.func57 rfl Tryz.ntmps57 (by simp) (by simp) ?_
  refine CW.seq (CW.region ?_)
  refine WL.vv rfl rfl (r_box rfl rfl) (by decide) ?_
  refine WL.vv rfl rfl (r_box rfl rfl) (by decide) ?_
  refine WL.vv rfl rfl (r_box rfl rfl) (by decide) ?_
  refine WL.vv rfl rfl (r_alloc rfl iz_r) (by decide) ?_
  refine WL.nil (NX.next ?_)
  show CW _ Tryz.prog _ _ _ ((((w.alloc (.cells #[PQ g] 89)).alloc (.cells #[.int .i64 ((k + 1 : Nat) : Int)] 3)).alloc (.cells #[.string x.method, .string x.key, .int .i64 x.val, .string x.text] 39)).alloc (.cells zReply 34))
  refine CW.sub (E' := [(3, PQ (w.heap.size)), (4, PQ (w.heap.size + 1)), (5, PQ (w.heap.size + 1 + 1)), (6, PQ (w.heap.size + 1 + 1 + 1))]) ⟨rfl, by simp only [World.size_alloc]; rfl, by simp only [World.size_alloc]; rfl, by simp only [World.size_alloc]; rfl, trivial⟩ ?_
  generalize ((((w.alloc (.cells #[PQ g] 89)).alloc (.cells #[.int .i64 ((k + 1 : Nat) : Int)] 3)).alloc (.cells #[.string x.method, .string x.key, .int .i64 x.val, .string x.text] 39)).alloc (.cells zReply 34)) = wa at HW L HS ⊢
  clear HW hnk
  obtain ⟨l0, l1, y0, y1, y2, y3⟩ := L.cells
  obtain ⟨S1, a, n1, cp1, -, -, -, -, -, -, -, -, -, c5, -, -, -⟩ := HS.pb.cells
  refine CW.seq (CW.seq (CW.region ?_))
  refine WL.vv rfl rfl (r_load rfl rfl Tryz.underlying3 rfl l1) (by decide) ?_
  refine WL.vv rfl rfl (r_cmpB (b := false) rfl rfl rfl rfl (by simp [cmpI]; omega)) (by decide) ?_
  refine WL.nil (NX.next (CW.no rfl (CW.skip (NX.next ?_))))
  refine CW.seq (CW.still mo (by kernel_rfl) fun wc hwd hBd => ?_)
  replace l0 := cell_keep hBd l0
  replace l1 := cell_keep hBd l1
  replace c5 := cell_keep hBd c5
  replace L := L.below hBd
  replace HS := HS.below hBd
  clear hwd hBd
  refine WS.vv rfl rfl (r_load rfl rfl Tryz.underlying89 rfl l0) (by decide) ?_
  refine WS.vv rfl rfl (r_nil rfl rfl) (by decide) ?_
  refine WS.vv rfl rfl (r_field rfl rfl fo_p1) (by decide) ?_
  refine WS.vv rfl rfl (r_load rfl rfl Tryz.underlying27 rfl c5) (by decide) ?_
  refine WS.vv rfl rfl (r_load rfl rfl Tryz.underlying3 rfl l1) (by decide) ?_
  refine WS.vv rfl rfl (r_arB rfl rfl rfl rfl hw) (by decide) ?_
  refine WS.vv rfl rfl (r_index rfl rfl rfl (by omega) (by omega) es_l) (by decide) ?_
  refine WS.vv rfl rfl (r_assign rfl rfl) (by decide) ?_
  refine WS.fin (NX.next ?_)
  refine CW.sub (E' := [(3, PQ (w.heap.size)), (4, PQ (w.heap.size + 1)), (5, PQ (w.heap.size + 1 + 1)), (6, PQ (w.heap.size + 1 + 1 + 1)), (7, .pointer (some ⟨b, o + k * 2, none⟩))]) ⟨rfl, rfl, rfl, rfl, rfl, trivial⟩ ?_
  clear l0 l1 y0 y1 y2 y3 c5
  obtain ⟨l0, l1, y0, y1, y2, y3⟩ := L.cells
  obtain ⟨a0, a1, hfz, hKb, hbg, hct⟩ := HS.pb.lay hkl
  refine CW.seq (CW.region ?_)
  refine WL.vv rfl rfl (r_mkfn (ps := #[PQ (w.heap.size), PQ (w.heap.size + 1)]) rfl rfl) (by decide) ?_
  refine WL.vv rfl rfl (r_assign rfl rfl) (by decide) ?_
  refine WL.nil (NX.next ?_)
  refine CW.seq (CW.region (test_or rfl rfl rfl rfl rfl rfl rfl rfl rfl rfl rfl rfl rfl rfl rfl rfl rfl rfl rfl rfl rfl rfl rfl rfl rfl rfl rfl (by decide) rfl (fun _ _ _ _ => rfl) (by decide) Tryz.underlying9 rfl fo_c0 y0 ?_))
  intro E1 hE1 hb1
  refine NX.next (CW.sub (E' := thrE w b o k x) ⟨(hE1 3 (by decide)).trans rfl, (hE1 4 (by decide)).trans rfl, (hE1 5 (by decide)).trans rfl, (hE1 6 (by decide)).trans rfl, (hE1 7 (by decide)).trans rfl, (hE1 8 (by decide)).trans rfl, hb1.trans (by rw [cmpS_eql, cmpS_eql]; rfl), trivial⟩ ?_)
  clear hE1 hb1
  refine CW.seq (CW.block ?_)
  refine CW.seq (CW.region (test_and rfl rfl rfl rfl rfl rfl rfl rfl rfl rfl rfl rfl rfl rfl rfl rfl rfl rfl rfl rfl rfl rfl rfl rfl rfl rfl rfl rfl rfl rfl rfl rfl rfl (by decide) (fun _ _ _ _ _ _ => rfl) (by decide) rfl fo_l0 Tryz.underlying9 rfl a0 fo_c0 y0 ?_))
  intro E1 hE1 hb1
  refine NX.next (CW.sub (E' := (36, .bool (decide ((nth p.layers k).name = counts) && decide (x.method = mTell))) :: thrE w b o k x) ⟨hb1.trans (by rw [cmpS_eql, cmpS_eql]; rfl), (hE1 3 (by decide)).trans rfl, (hE1 4 (by decide)).trans rfl, (hE1 5 (by decide)).trans rfl, (hE1 6 (by decide)).trans rfl, (hE1 7 (by decide)).trans rfl, (hE1 8 (by decide)).trans rfl, (hE1 9 (by decide)).trans rfl, trivial⟩ ?_)
  clear hE1 hb1
  by_cases C : (nth p.layers k).name = counts ∧ x.method = mTell
  · have hq : (decide ((nth p.layers k).name = counts) && decide (x.method = mTell)) = true := by simp [C.1, C.2]
    rw [hq]
    clear hq
    refine CW.yes rfl ?_
    refine CW.seq (CW.region ?_)
    refine WL.vv rfl rfl (r_move rfl rfl) (by decide) ?_
    refine WL.vv rfl rfl (r_nil rfl rfl) (by decide) ?_
    refine WL.vv rfl rfl (r_field rfl rfl fo_l1) (by decide) ?_
    refine WL.vv rfl rfl (r_load rfl rfl Tryz.underlying3 rfl a1) (by decide) ?_
    refine WL.vv rfl rfl (r_build (vs := [(1, .int .i64 (nth p.layers k).count)]) rfl rfl (bl_1 _)) (by decide) ?_
    refine WL.st rfl rfl rfl rfl rfl L.b3 rfl (rep_one _) is_r fun w7 R7 O7 => ?_
    have e : thrD (k + 1) p x = (p, rep 0 (nth p.layers k).count 0 0) := by rw [thrD, if_pos C]
    refine WL.nil (NX.next (CW.ret ?_))
    exact NX.retB (NX.ret (NX.body1 rfl rfl R7 Tryz.underlying34 rfl is_r (by rw [e]; exact (HS.one O7 L.n3 (by omega)).done H.out)))
  have hq : (decide ((nth p.layers k).name = counts) && decide (x.method = mTell)) = false := by
    simp only [Bool.and_eq_false_iff, decide_eq_false_iff_not]
    by_cases h1 : (nth p.layers k).name = counts
    · right; exact fun h2 => C ⟨h1, h2⟩
    · left; exact h1
  have N0 := C
  clear C
  rw [hq]
  clear hq
  refine CW.no rfl ?_
  refine CW.seq (CW.region (test_keep rfl rfl rfl rfl rfl rfl rfl rfl rfl rfl rfl rfl rfl rfl rfl rfl rfl rfl rfl rfl rfl rfl rfl rfl rfl rfl rfl (by decide) (fun _ _ _ _ _ _ => rfl) (by decide) rfl fo_l0 Tryz.underlying9 rfl a0 ?_))
  intro E1 hE1 hb1
  refine NX.next (CW.sub (E' := (52, .bool (decide ((nth p.layers k).name = counts) && isKeep x)) :: thrE w b o k x) ⟨hb1.trans (by rw [cmpS_eql]; rfl), (hE1 3 (by decide)).trans rfl, (hE1 4 (by decide)).trans rfl, (hE1 5 (by decide)).trans rfl, (hE1 6 (by decide)).trans rfl, (hE1 7 (by decide)).trans rfl, (hE1 8 (by decide)).trans rfl, (hE1 9 (by decide)).trans rfl, trivial⟩ ?_)
  clear hE1 hb1
  by_cases C : (nth p.layers k).name = counts ∧ isKeep x = true
  · have hq : (decide ((nth p.layers k).name = counts) && isKeep x) = true := by simp [C.1, C.2]
    rw [hq]
    clear hq
    refine CW.yes rfl ?_
    obtain ⟨l0, l1, y0, y1, y2, y3⟩ := L.cells
    refine CW.seq (CW.region ?_)
    refine WL.vv rfl rfl (r_load rfl rfl Tryz.underlying89 rfl l0) (by decide) ?_
    refine WL.vv rfl rfl (r_load rfl rfl Tryz.underlying3 rfl l1) (by decide) ?_
    refine WL.vv rfl rfl (r_arB rfl rfl rfl rfl hw) (by decide) ?_
    refine WL.vv rfl rfl (r_loadS rfl rfl Tryz.underlying39 rfl L.b2 is_c) (by decide) ?_
    refine WL.c rfl rfl (r_call (args := #[PQ g, .int .i64 ((k : Nat) : Int), callV x]) ca_th rfl rfl rfl) (by decide) (IH _ _ _ _ _ _ HS.pb HX (by omega)) ?_
    rintro _ v5 ⟨rfl, hp5, hf5⟩
    refine ⟨_, rfl, ?_⟩
    refine WL.vv rfl rfl (r_alloc rfl iz_r) (by decide) ?_
    refine WL.st rfl rfl rfl rfl rfl (show RBlk (v5.alloc (.cells zReply 34)) v5.heap.size 34 zReply from RBlk.new v5 _ _) rfl (rep_one _) is_r fun w5 R5 O5 => ?_
    have B5 : Below v5.heap.size v5 w5 := below_alloc_one O5
    have AX := (HS.call hp5 hf5)
    have LX := (L.call hf5)
    have hz5 : w.heap.size + 4 ≤ v5.heap.size := by have := LX.b3.lt; omega
    have hk5 : ¬ Gr K wc v5 v5.heap.size := fun hk => by have := (AX.pb.kb _ hk).2; omega
    have A5 := AX.below B5
    have L5 := LX.below B5
    clear AX LX B5 O5 hp5 hf5 l0 l1 y0 y1 y2 y3
    generalize v5.heap.size = b5 at *
    refine WL.nil (NX.next ?_)
    have hlen : k < (thrD k p x).1.layers.length := by rw [thr_len]; exact hkl
    obtain ⟨a0, a1, hfz, hKb6, hbg6, hct⟩ := A5.pb.lay (k := k) (by first | exact hkl | assumption)
    refine CW.seq (CW.region ?_)
    refine WL.vv rfl rfl (r_move rfl rfl) (by decide) ?_
    refine WL.vv rfl rfl (r_move rfl rfl) (by decide) ?_
    refine WL.vv rfl rfl (r_nil rfl rfl) (by decide) ?_
    refine WL.vv rfl rfl (r_field rfl rfl fo_l1) (by decide) ?_
    refine WL.vv rfl rfl (r_load rfl rfl Tryz.underlying3 rfl a1) (by decide) ?_
    refine WL.c rfl rfl (r_call (args := #[.int .i64 (nth (thrD k p x).1.layers k).count]) ca_up rfl rfl rfl) (by decide) (w_countUp A5.pb (nth (thrD k p x).1.layers k).count hct) ?_
    rintro _ w6 ⟨rfl, hb6, hr6⟩
    refine ⟨_, rfl, ?_⟩
    have A6 := A5.below hb6
    have L6 := L5.below hb6
    have R6 := R5.below hb6 R5.lt
    clear a0 a1 hfz
    obtain ⟨a0, a1, hfz, -, -, -⟩ := A6.pb.lay (k := k) (by first | exact hkl | assumption)
    refine WL.vv rfl rfl (r_nil rfl rfl) (by decide) ?_
    refine WL.vv rfl rfl (r_field rfl rfl fo_l1) (by decide) ?_
    refine WL.s rfl rfl (r_store rfl rfl rfl is_i rfl a1 (hfz _)) ?_
    have A7 := A6.put (a := ⟨b, o + k * 2 + 1, none⟩) hKb6 (A6.pb.putLayer (i := k) (by first | exact hkl | assumption) hr6)
    have L7 := L6.mine (a := ⟨b, o + k * 2 + 1, none⟩) (.int .i64 (up3 (nth (thrD k p x).1.layers k).count)) hKb6
    have hbb : b5 ≠ b := fun e => hk5 (by rw [e]; exact hKb6)
    have R7 := R6.far (p := ⟨b, o + k * 2 + 1, none⟩) hbb (.int .i64 (up3 (nth (thrD k p x).1.layers k).count))
    refine WL.nil (NX.next ?_)
    refine CW.seq (CW.region ?_)
    refine WL.vv rfl rfl (r_loadS rfl rfl Tryz.underlying34 rfl R7 is_r) (by decide) ?_
    refine WL.st rfl rfl rfl rfl rfl L7.b3 rfl (rep_one _) is_r fun w8 R8 O8 => ?_
    have e : thrD (k + 1) p x = (bump (thrD k p x).1 k, (thrD k p x).2) := by rw [thrD, if_neg N0, if_pos C]
    refine WL.nil (NX.next (CW.ret ?_))
    exact NX.retB (NX.ret (NX.body1 rfl rfl R8 Tryz.underlying34 rfl is_r (by rw [e]; exact (A7.one O8 L7.n3 (by omega)).done H.out)))
  have hq : (decide ((nth p.layers k).name = counts) && isKeep x) = false := by
    simp only [Bool.and_eq_false_iff, decide_eq_false_iff_not]
    by_cases h1 : (nth p.layers k).name = counts
    · right; simpa [h1] using C
    · left; exact h1
  have N1 := C
  clear C
  rw [hq]
  clear hq
  refine CW.no rfl ?_
  refine CW.seq (CW.region (test_keep rfl rfl rfl rfl rfl rfl rfl rfl rfl rfl rfl rfl rfl rfl rfl rfl rfl rfl rfl rfl rfl rfl rfl rfl rfl rfl rfl (by decide) (fun _ _ _ _ _ _ => rfl) (by decide) rfl fo_l0 Tryz.underlying9 rfl a0 ?_))
  intro E1 hE1 hb1
  refine NX.next (CW.sub (E' := (75, .bool (decide ((nth p.layers k).name = lazyN) && isKeep x)) :: thrE w b o k x) ⟨hb1.trans (by rw [cmpS_eql]; rfl), (hE1 3 (by decide)).trans rfl, (hE1 4 (by decide)).trans rfl, (hE1 5 (by decide)).trans rfl, (hE1 6 (by decide)).trans rfl, (hE1 7 (by decide)).trans rfl, (hE1 8 (by decide)).trans rfl, (hE1 9 (by decide)).trans rfl, trivial⟩ ?_)
  clear hE1 hb1
  by_cases C : (nth p.layers k).name = lazyN ∧ isKeep x = true
  · have hq : (decide ((nth p.layers k).name = lazyN) && isKeep x) = true := by simp [C.1, C.2]
    rw [hq]
    clear hq
    refine CW.yes rfl ?_
    obtain ⟨l0, l1, y0, y1, y2, y3⟩ := L.cells
    refine CW.seq (CW.region ?_)
    refine WL.vv rfl rfl (r_load rfl rfl Tryz.underlying89 rfl l0) (by decide) ?_
    refine WL.vv rfl rfl (r_load rfl rfl Tryz.underlying3 rfl l1) (by decide) ?_
    refine WL.vv rfl rfl (r_arB rfl rfl rfl rfl hw) (by decide) ?_
    refine WL.vv rfl rfl (r_loadS rfl rfl Tryz.underlying39 rfl L.b2 is_c) (by decide) ?_
    refine WL.c rfl rfl (r_call (args := #[PQ g, .int .i64 ((k : Nat) : Int), callV x]) ca_th rfl rfl rfl) (by decide) (IH _ _ _ _ _ _ HS.pb HX (by omega)) ?_
    rintro _ v5 ⟨rfl, hp5, hf5⟩
    refine ⟨_, rfl, ?_⟩
    refine WL.vv rfl rfl (r_alloc rfl iz_r) (by decide) ?_
    refine WL.st rfl rfl rfl rfl rfl (show RBlk (v5.alloc (.cells zReply 34)) v5.heap.size 34 zReply from RBlk.new v5 _ _) rfl (rep_one _) is_r fun w5 R5 O5 => ?_
    have B5 : Below v5.heap.size v5 w5 := below_alloc_one O5
    have AX := (HS.call hp5 hf5)
    have LX := (L.call hf5)
    have hz5 : w.heap.size + 4 ≤ v5.heap.size := by have := LX.b3.lt; omega
    have hk5 : ¬ Gr K wc v5 v5.heap.size := fun hk => by have := (AX.pb.kb _ hk).2; omega
    have A5 := AX.below B5
    have L5 := LX.below B5
    clear AX LX B5 O5 hp5 hf5 l0 l1 y0 y1 y2 y3
    generalize v5.heap.size = b5 at *
    refine WL.nil (NX.next ?_)
    obtain ⟨r0, r1, r2, r3, r4, rf⟩ := R5.rep
    refine CW.seq (CW.seq (CW.region ?_))
    refine WL.vv rfl rfl (r_field rfl rfl fo_r0) (by decide) ?_
    refine WL.vv rfl rfl (r_load rfl rfl Tryz.underlying3 rfl r0) (by decide) ?_
    by_cases h2 : (thrD k p x).2.code = 2
    · refine WL.vv rfl rfl (r_cmpB (b := true) rfl rfl rfl rfl (by simp [cmpI, h2])) (by decide) ?_
      refine WL.nil (NX.next (CW.yes rfl ?_))
      refine CW.seq (CW.region ?_)
      obtain ⟨l0, l1, y0, y1, y2, y3⟩ := L5.cells
      refine WL.vv rfl rfl (r_move rfl rfl) (by decide) ?_
      refine WL.c rfl rfl (r_callv (args := #[.string mStart]) ca_go rfl rfl rfl rfl) (by decide) (t_goOn IH A5.pb (by rw [thr_len]; omega) (m := mStart) (by decide) l0 l1) ?_
      rintro _ w6 ⟨rfl, hp6, hf6⟩
      refine ⟨_, rfl, ?_⟩
      have A6 := A5.call hp6 hf6
      have L6 := L5.call hf6
      clear l0 l1 y0 y1 y2 y3
      have R6 := R5.frk hf6 hk5
      have hk6 : ¬ Gr (Gr K wc v5) w5 w6 b5 := by rintro (q | q); exact hk5 q; have := R5.lt; omega
      clear hp6 hf6
      refine WL.nil (NX.next ?_)
      obtain ⟨l0, l1, y0, y1, y2, y3⟩ := L6.cells
      refine CW.region ?_
      refine WL.vv rfl rfl (r_load rfl rfl Tryz.underlying89 rfl l0) (by decide) ?_
      refine WL.vv rfl rfl (r_load rfl rfl Tryz.underlying3 rfl l1) (by decide) ?_
      refine WL.vv rfl rfl (r_arB rfl rfl rfl rfl hw) (by decide) ?_
      refine WL.vv rfl rfl (r_loadS rfl rfl Tryz.underlying39 rfl L6.b2 is_c) (by decide) ?_
      refine WL.c rfl rfl (r_call (args := #[PQ g, .int .i64 ((k : Nat) : Int), callV x]) ca_th rfl rfl rfl) (by decide) (IH _ _ _ _ _ _ A6.pb HX (by rw [thr_len, thr_len]; omega)) ?_
      rintro _ w7 ⟨rfl, hp7, hf7⟩
      refine ⟨_, rfl, ?_⟩
      have A7 := A6.call hp7 hf7
      have L7 := L6.call hf7
      have R7 := R6.frk hf7 hk6
      have hk7 : ¬ Gr (Gr (Gr K wc v5) w5 w6) w6 w7 b5 := by rintro (q | q); exact hk6 q; have := R6.lt; omega
      clear hp7 hf7
      refine WL.st rfl rfl rfl rfl rfl R7 rfl (rep_one _) is_r fun w8 R8 O8 => ?_
      have A8 := A7.one O8 hk7 (by omega)
      have L8 := L7.one O8 hz5
      refine WL.nil (NX.next ?_)
      refine CW.seq (CW.region ?_)
      refine WL.vv rfl rfl (r_loadS rfl rfl Tryz.underlying34 rfl R8 is_r) (by decide) ?_
      refine WL.st rfl rfl rfl rfl rfl L8.b3 rfl (rep_one _) is_r fun w9 R9 O9 => ?_
      have e : thrD (k + 1) p x = ((thrD k (thrD k (thrD k p x).1 (plainCall mStart)).1 x).1, (thrD k (thrD k (thrD k p x).1 (plainCall mStart)).1 x).2) := by rw [thrD, if_neg N0, if_neg N1, if_pos C, if_pos h2]
      refine WL.nil (NX.next (CW.ret ?_))
      exact NX.retB (NX.ret (NX.body1 rfl rfl R9 Tryz.underlying34 rfl is_r (by rw [e]; exact (A8.one O9 L8.n3 (by omega)).done H.out)))
    · refine WL.vv rfl rfl (r_cmpB (b := false) rfl rfl rfl rfl (by simp [cmpI, h2])) (by decide) ?_
      refine WL.nil (NX.next (CW.no rfl (CW.skip (NX.next ?_))))
      refine CW.seq (CW.region ?_)
      refine WL.vv rfl rfl (r_loadS rfl rfl Tryz.underlying34 rfl R5 is_r) (by decide) ?_
      refine WL.st rfl rfl rfl rfl rfl L5.b3 rfl (rep_one _) is_r fun w9 R9 O9 => ?_
      have e : thrD (k + 1) p x = ((thrD k p x).1, (thrD k p x).2) := by rw [thrD, if_neg N0, if_neg N1, if_pos C, if_neg h2]
      refine WL.nil (NX.next (CW.ret ?_))
      exact NX.retB (NX.ret (NX.body1 rfl rfl R9 Tryz.underlying34 rfl is_r (by rw [e]; exact (A5.one O9 L5.n3 (by omega)).done H.out)))
  have hq : (decide ((nth p.layers k).name = lazyN) && isKeep x) = false := by
    simp only [Bool.and_eq_false_iff, decide_eq_false_iff_not]
    by_cases h1 : (nth p.layers k).name = lazyN
    · right; simpa [h1] using C
    · left; exact h1
  have N2 := C
  clear C
  rw [hq]
  clear hq
  refine CW.no rfl ?_
  refine CW.seq (CW.region (test_and rfl rfl rfl rfl rfl rfl rfl rfl rfl rfl rfl rfl rfl rfl rfl rfl rfl rfl rfl rfl rfl rfl rfl rfl rfl rfl rfl rfl rfl rfl rfl rfl rfl (by decide) (fun _ _ _ _ _ _ => rfl) (by decide) rfl fo_l0 Tryz.underlying9 rfl a0 fo_c0 y0 ?_))
  intro E1 hE1 hb1
  refine NX.next (CW.sub (E' := (100, .bool (decide ((nth p.layers k).name = readsN) && decide (x.method = mPut))) :: thrE w b o k x) ⟨hb1.trans (by rw [cmpS_eql, cmpS_eql]; rfl), (hE1 3 (by decide)).trans rfl, (hE1 4 (by decide)).trans rfl, (hE1 5 (by decide)).trans rfl, (hE1 6 (by decide)).trans rfl, (hE1 7 (by decide)).trans rfl, (hE1 8 (by decide)).trans rfl, (hE1 9 (by decide)).trans rfl, trivial⟩ ?_)
  clear hE1 hb1
  by_cases C : (nth p.layers k).name = readsN ∧ x.method = mPut
  · have hq : (decide ((nth p.layers k).name = readsN) && decide (x.method = mPut)) = true := by simp [C.1, C.2]
    rw [hq]
    clear hq
    refine CW.yes rfl ?_
    refine CW.seq (CW.region ?_)
    refine WL.vv rfl rfl (r_build (vs := [(0, .int .i64 6)]) rfl rfl (bl_0 _)) (by decide) ?_
    refine WL.st rfl rfl rfl rfl rfl L.b3 rfl (rep_one _) is_r fun w7 R7 O7 => ?_
    have e : thrD (k + 1) p x = (p, rep 6 0 0 0) := by rw [thrD, if_neg N0, if_neg N1, if_neg N2, if_pos C]
    refine WL.nil (NX.next (CW.ret ?_))
    exact NX.retB (NX.ret (NX.body1 rfl rfl R7 Tryz.underlying34 rfl is_r (by rw [e]; exact (HS.one O7 L.n3 (by omega)).done H.out)))
  have hq : (decide ((nth p.layers k).name = readsN) && decide (x.method = mPut)) = false := by
    simp only [Bool.and_eq_false_iff, decide_eq_false_iff_not]
    by_cases h1 : (nth p.layers k).name = readsN
    · right; exact fun h2 => C ⟨h1, h2⟩
    · left; exact h1
  have N3 := C
  clear C
  rw [hq]
  clear hq
  refine CW.no rfl ?_
  refine CW.seq (CW.region (test_and rfl rfl rfl rfl rfl rfl rfl rfl rfl rfl rfl rfl rfl rfl rfl rfl rfl rfl rfl rfl rfl rfl rfl rfl rfl rfl rfl rfl rfl rfl rfl rfl rfl (by decide) (fun _ _ _ _ _ _ => rfl) (by decide) rfl fo_l0 Tryz.underlying9 rfl a0 fo_c0 y0 ?_))
  intro E1 hE1 hb1
  refine NX.next (CW.sub (E' := (112, .bool (decide ((nth p.layers k).name = hears) && decide (x.method = mHear))) :: thrE w b o k x) ⟨hb1.trans (by rw [cmpS_eql, cmpS_eql]; rfl), (hE1 3 (by decide)).trans rfl, (hE1 4 (by decide)).trans rfl, (hE1 5 (by decide)).trans rfl, (hE1 6 (by decide)).trans rfl, (hE1 7 (by decide)).trans rfl, (hE1 8 (by decide)).trans rfl, (hE1 9 (by decide)).trans rfl, trivial⟩ ?_)
  clear hE1 hb1
  by_cases C : (nth p.layers k).name = hears ∧ x.method = mHear
  · have hq : (decide ((nth p.layers k).name = hears) && decide (x.method = mHear)) = true := by simp [C.1, C.2]
    rw [hq]
    clear hq
    refine CW.yes rfl ?_
    obtain ⟨a0, a1, hfz, hKb6, hbg6, hct⟩ := HS.pb.lay (k := k) (by first | exact hkl | assumption)
    refine CW.seq (CW.region ?_)
    refine WL.vv rfl rfl (r_move rfl rfl) (by decide) ?_
    refine WL.vv rfl rfl (r_move rfl rfl) (by decide) ?_
    refine WL.vv rfl rfl (r_nil rfl rfl) (by decide) ?_
    refine WL.vv rfl rfl (r_field rfl rfl fo_l1) (by decide) ?_
    refine WL.vv rfl rfl (r_load rfl rfl Tryz.underlying3 rfl a1) (by decide) ?_
    refine WL.c rfl rfl (r_call (args := #[.int .i64 (nth p.layers k).count]) ca_up rfl rfl rfl) (by decide) (w_countUp HS.pb (nth p.layers k).count hct) ?_
    rintro _ w6 ⟨rfl, hb6, hr6⟩
    refine ⟨_, rfl, ?_⟩
    have A6 := HS.below hb6
    have L6 := L.below hb6
    clear a0 a1 hfz
    obtain ⟨a0, a1, hfz, -, -, -⟩ := A6.pb.lay (k := k) (by first | exact hkl | assumption)
    refine WL.vv rfl rfl (r_nil rfl rfl) (by decide) ?_
    refine WL.vv rfl rfl (r_field rfl rfl fo_l1) (by decide) ?_
    refine WL.s rfl rfl (r_store rfl rfl rfl is_i rfl a1 (hfz _)) ?_
    have A7 := A6.put (a := ⟨b, o + k * 2 + 1, none⟩) hKb6 (A6.pb.putLayer (i := k) (by first | exact hkl | assumption) hr6)
    have L7 := L6.mine (a := ⟨b, o + k * 2 + 1, none⟩) (.int .i64 (up3 (nth p.layers k).count)) hKb6
    refine WL.nil (NX.next ?_)
    clear l0 l1 y0 y1 y2 y3
    obtain ⟨l0, l1, y0, y1, y2, y3⟩ := L7.cells
    refine CW.seq (CW.seq (CW.region ?_))
    refine WL.vv rfl rfl (r_field rfl rfl fo_c2) (by decide) ?_
    refine WL.vv rfl rfl (r_load rfl rfl Tryz.underlying3 rfl y2) (by decide) ?_
    refine WL.nil (NX.next (CW.block ?_))
    refine CW.seq (CW.region ?_)
    by_cases h0 : x.val = 0
    · refine WL.vv rfl rfl (r_cmpB (b := true) rfl rfl rfl rfl (by simp [cmpI, h0])) (by decide) ?_
      refine WL.vv rfl rfl (r_assign rfl rfl) (by decide) ?_
      refine WL.nil (NX.next (CW.yes rfl ?_))
      refine CW.seq (CW.region ?_)
      obtain ⟨l0, l1, y0, y1, y2, y3⟩ := L7.cells
      refine WL.vv rfl rfl (r_move rfl rfl) (by decide) ?_
      refine WL.c rfl rfl (r_callv (args := #[.string mStop]) ca_go rfl rfl rfl rfl) (by decide) (t_goOn IH A7.pb (by rw [List.length_set]; omega) (m := mStop) (by decide) l0 l1) ?_
      rintro _ w8 ⟨rfl, hp8, hf8⟩
      refine ⟨_, rfl, ?_⟩
      have A8 := A7.call hp8 hf8
      have L8 := L7.call hf8
      clear l0 l1 y0 y1 y2 y3
      clear hp8 hf8
      refine WL.st rfl rfl rfl rfl rfl L8.b3 rfl (rep_one _) is_r fun w9 R9 O9 => ?_
      have e : thrD (k + 1) p x = ((thrD k (bump p k) (plainCall mStop)).1, (thrD k (bump p k) (plainCall mStop)).2) := by rw [thrD, if_neg N0, if_neg N1, if_neg N2, if_neg N3, if_pos C, if_pos h0]
      refine WL.nil (NX.next (CW.ret ?_))
      exact NX.retB (NX.ret (NX.retB (NX.ret (NX.body1 rfl rfl R9 Tryz.underlying34 rfl is_r (by rw [e]; exact (A8.one O9 L8.n3 (by omega)).done H.out)))))
    refine WL.vv rfl rfl (r_cmpB (b := false) rfl rfl rfl rfl (by simp [cmpI, h0])) (by decide) ?_
    refine WL.vv rfl rfl (r_assign rfl rfl) (by decide) ?_
    refine WL.nil (NX.next (CW.no rfl ?_))
    refine CW.seq (CW.region ?_)
    by_cases h1 : x.val = 1
    · refine WL.vv rfl rfl (r_cmpB (b := true) rfl rfl rfl rfl (by simp [cmpI, h1])) (by decide) ?_
      refine WL.vv rfl rfl (r_assign rfl rfl) (by decide) ?_
      refine WL.nil (NX.next (CW.yes rfl ?_))
      refine CW.seq (CW.region ?_)
      obtain ⟨l0, l1, y0, y1, y2, y3⟩ := L7.cells
      refine WL.vv rfl rfl (r_move rfl rfl) (by decide) ?_
      refine WL.c rfl rfl (r_callv (args := #[.string mStart]) ca_go rfl rfl rfl rfl) (by decide) (t_goOn IH A7.pb (by rw [List.length_set]; omega) (m := mStart) (by decide) l0 l1) ?_
      rintro _ w8 ⟨rfl, hp8, hf8⟩
      refine ⟨_, rfl, ?_⟩
      have A8 := A7.call hp8 hf8
      have L8 := L7.call hf8
      clear l0 l1 y0 y1 y2 y3
      clear hp8 hf8
      refine WL.st rfl rfl rfl rfl rfl L8.b3 rfl (rep_one _) is_r fun w9 R9 O9 => ?_
      have e : thrD (k + 1) p x = ((thrD k (bump p k) (plainCall mStart)).1, (thrD k (bump p k) (plainCall mStart)).2) := by rw [thrD, if_neg N0, if_neg N1, if_neg N2, if_neg N3, if_pos C, if_neg h0, if_pos h1]
      refine WL.nil (NX.next (CW.ret ?_))
      exact NX.retB (NX.ret (NX.retB (NX.ret (NX.body1 rfl rfl R9 Tryz.underlying34 rfl is_r (by rw [e]; exact (A8.one O9 L8.n3 (by omega)).done H.out)))))
    refine WL.vv rfl rfl (r_cmpB (b := false) rfl rfl rfl rfl (by simp [cmpI, h1])) (by decide) ?_
    refine WL.vv rfl rfl (r_assign rfl rfl) (by decide) ?_
    refine WL.nil (NX.next (CW.no rfl (CW.skip (NX.norB (NX.next ?_)))))
    clear a0 a1 hfz
    have hbn : nth (bump p k).layers k = ⟨(nth p.layers k).name, up3 (nth p.layers k).count⟩ := by rw [bump_nth hkl, if_pos rfl]
    obtain ⟨a0, a1, hfz, -, -, -⟩ := A7.pb.lay (k := k) (by rw [List.length_set]; exact hkl)
    change World.cell? _ _ = some (.int .i64 (nth (bump p k).layers k).count) at a1
    rw [hbn] at a1
    refine CW.seq (CW.region ?_)
    refine WL.vv rfl rfl (r_move rfl rfl) (by decide) ?_
    refine WL.vv rfl rfl (r_nil rfl rfl) (by decide) ?_
    refine WL.vv rfl rfl (r_field rfl rfl fo_l1) (by decide) ?_
    refine WL.vv rfl rfl (r_load rfl rfl Tryz.underlying3 rfl a1) (by decide) ?_
    refine WL.vv rfl rfl (r_build (vs := [(1, .int .i64 (up3 (nth p.layers k).count))]) rfl rfl (bl_1 _)) (by decide) ?_
    refine WL.st rfl rfl rfl rfl rfl L7.b3 rfl (rep_one _) is_r fun w9 R9 O9 => ?_
    have e : thrD (k + 1) p x = (bump p k, rep 0 (up3 (nth p.layers k).count) 0 0) := by rw [thrD, if_neg N0, if_neg N1, if_neg N2, if_neg N3, if_pos C, if_neg h0, if_neg h1, hbn]
    refine WL.nil (NX.next (CW.ret ?_))
    exact NX.retB (NX.ret (NX.body1 rfl rfl R9 Tryz.underlying34 rfl is_r (by rw [e]; exact (A7.one O9 L7.n3 (by omega)).done H.out)))
  have hq : (decide ((nth p.layers k).name = hears) && decide (x.method = mHear)) = false := by
    simp only [Bool.and_eq_false_iff, decide_eq_false_iff_not]
    by_cases h1 : (nth p.layers k).name = hears
    · right; exact fun h2 => C ⟨h1, h2⟩
    · left; exact h1
  have N4 := C
  clear C
  rw [hq]
  clear hq
  refine CW.no rfl ?_
  refine CW.seq (CW.region (test_and rfl rfl rfl rfl rfl rfl rfl rfl rfl rfl rfl rfl rfl rfl rfl rfl rfl rfl rfl rfl rfl rfl rfl rfl rfl rfl rfl rfl rfl rfl rfl rfl rfl (by decide) (fun _ _ _ _ _ _ => rfl) (by decide) rfl fo_l0 Tryz.underlying9 rfl a0 fo_c0 y0 ?_))
  intro E1 hE1 hb1
  refine NX.next (CW.sub (E' := (146, .bool (decide ((nth p.layers k).name = healsN) && decide (x.method = mHeal))) :: thrE w b o k x) ⟨hb1.trans (by rw [cmpS_eql, cmpS_eql]; rfl), (hE1 3 (by decide)).trans rfl, (hE1 4 (by decide)).trans rfl, (hE1 5 (by decide)).trans rfl, (hE1 6 (by decide)).trans rfl, (hE1 7 (by decide)).trans rfl, (hE1 8 (by decide)).trans rfl, (hE1 9 (by decide)).trans rfl, trivial⟩ ?_)
  clear hE1 hb1
  by_cases C : (nth p.layers k).name = healsN ∧ x.method = mHeal
  · have hq : (decide ((nth p.layers k).name = healsN) && decide (x.method = mHeal)) = true := by simp [C.1, C.2]
    rw [hq]
    clear hq
    refine CW.yes rfl ?_
    refine CW.seq (CW.region ?_)
    obtain ⟨l0, l1, y0, y1, y2, y3⟩ := L.cells
    refine WL.vv rfl rfl (r_move rfl rfl) (by decide) ?_
    refine WL.c rfl rfl (r_callv (args := #[.string mStop]) ca_go rfl rfl rfl rfl) (by decide) (t_goOn IH HS.pb (by omega) (m := mStop) (by decide) l0 l1) ?_
    rintro _ w5 ⟨rfl, hp5, hf5⟩
    refine ⟨_, rfl, ?_⟩
    have A5 := HS.call hp5 hf5
    have L5 := L.call hf5
    clear l0 l1 y0 y1 y2 y3
    clear hp5 hf5
    refine WL.nil (NX.next ?_)
    refine CW.seq (CW.region ?_)
    obtain ⟨l0, l1, y0, y1, y2, y3⟩ := L5.cells
    refine WL.vv rfl rfl (r_move rfl rfl) (by decide) ?_
    refine WL.c rfl rfl (r_callv (args := #[.string mStart]) ca_go rfl rfl rfl rfl) (by decide) (t_goOn IH A5.pb (by rw [thr_len]; omega) (m := mStart) (by decide) l0 l1) ?_
    rintro _ w6 ⟨rfl, hp6, hf6⟩
    refine ⟨_, rfl, ?_⟩
    have A6 := A5.call hp6 hf6
    have L6 := L5.call hf6
    clear l0 l1 y0 y1 y2 y3
    clear hp6 hf6
    refine WL.st rfl rfl rfl rfl rfl L6.b3 rfl (rep_one _) is_r fun w9 R9 O9 => ?_
    have e : thrD (k + 1) p x = ((thrD k (thrD k p (plainCall mStop)).1 (plainCall mStart)).1, (thrD k (thrD k p (plainCall mStop)).1 (plainCall mStart)).2) := by rw [thrD, if_neg N0, if_neg N1, if_neg N2, if_neg N3, if_neg N4, if_pos C]
    refine WL.nil (NX.next (CW.ret ?_))
    exact NX.retB (NX.ret (NX.body1 rfl rfl R9 Tryz.underlying34 rfl is_r (by rw [e]; exact (A6.one O9 L6.n3 (by omega)).done H.out)))
  have hq : (decide ((nth p.layers k).name = healsN) && decide (x.method = mHeal)) = false := by
    simp only [Bool.and_eq_false_iff, decide_eq_false_iff_not]
    by_cases h1 : (nth p.layers k).name = healsN
    · right; exact fun h2 => C ⟨h1, h2⟩
    · left; exact h1
  have N5 := C
  clear C
  rw [hq]
  clear hq
  refine CW.no rfl ?_
  refine CW.seq (CW.region ?_)
  refine WL.vv rfl rfl (r_move rfl rfl) (by decide) ?_
  refine WL.vv rfl rfl (r_nil rfl rfl) (by decide) ?_
  refine WL.vv rfl rfl (r_field rfl rfl fo_l0) (by decide) ?_
  refine WL.vv rfl rfl (r_load rfl rfl Tryz.underlying9 rfl a0) (by decide) ?_
  refine WL.vv rfl rfl (r_eqSB rfl rfl rfl (show _ = decide ((nth p.layers k).name = twiceN) from cmpS_eql _ _)) (by decide) ?_
  refine WL.vv rfl rfl (r_assign rfl rfl) (by decide) ?_
  refine WL.nil (NX.next (CW.sub (E' := (161, .bool (decide ((nth p.layers k).name = twiceN))) :: thrE w b o k x) ⟨rfl, rfl, rfl, rfl, rfl, rfl, rfl, rfl, trivial⟩ ?_))
  by_cases C : (nth p.layers k).name = twiceN
  · have hq : (decide ((nth p.layers k).name = twiceN)) = true := by simp [C]
    rw [hq]
    clear hq
    refine CW.yes rfl ?_
    obtain ⟨l0, l1, y0, y1, y2, y3⟩ := L.cells
    refine CW.seq (CW.region ?_)
    refine WL.vv rfl rfl (r_load rfl rfl Tryz.underlying89 rfl l0) (by decide) ?_
    refine WL.vv rfl rfl (r_load rfl rfl Tryz.underlying3 rfl l1) (by decide) ?_
    refine WL.vv rfl rfl (r_arB rfl rfl rfl rfl hw) (by decide) ?_
    refine WL.vv rfl rfl (r_loadS rfl rfl Tryz.underlying39 rfl L.b2 is_c) (by decide) ?_
    refine WL.c rfl rfl (r_call (args := #[PQ g, .int .i64 ((k : Nat) : Int), callV x]) ca_th rfl rfl rfl) (by decide) (IH _ _ _ _ _ _ HS.pb HX (by omega)) ?_
    rintro _ v5 ⟨rfl, hp5, hf5⟩
    refine ⟨_, rfl, ?_⟩
    refine WL.vv rfl rfl (r_alloc rfl iz_r) (by decide) ?_
    refine WL.st rfl rfl rfl rfl rfl (show RBlk (v5.alloc (.cells zReply 34)) v5.heap.size 34 zReply from RBlk.new v5 _ _) rfl (rep_one _) is_r fun w5 R5 O5 => ?_
    have B5 : Below v5.heap.size v5 w5 := below_alloc_one O5
    have AX := (HS.call hp5 hf5)
    have LX := (L.call hf5)
    have hz5 : w.heap.size + 4 ≤ v5.heap.size := by have := LX.b3.lt; omega
    have hk5 : ¬ Gr K wc v5 v5.heap.size := fun hk => by have := (AX.pb.kb _ hk).2; omega
    have A5 := AX.below B5
    have L5 := LX.below B5
    clear AX LX B5 O5 hp5 hf5 l0 l1 y0 y1 y2 y3
    generalize v5.heap.size = b5 at *
    refine WL.nil (NX.next ?_)
    obtain ⟨r0, r1, r2, r3, r4, rf⟩ := R5.rep
    refine CW.seq (CW.seq (CW.region ?_))
    refine WL.vv rfl rfl (r_field rfl rfl fo_r0) (by decide) ?_
    refine WL.vv rfl rfl (r_load rfl rfl Tryz.underlying3 rfl r0) (by decide) ?_
    by_cases h2 : (thrD k p x).2.code = 0
    · refine WL.vv rfl rfl (r_cmpB (b := true) rfl rfl rfl rfl (by simp [cmpI, h2])) (by decide) ?_
      refine WL.nil (NX.next (CW.yes rfl ?_))
      refine CW.region ?_
      refine WL.vv rfl rfl (r_field rfl rfl fo_r1) (by decide) ?_
      refine WL.vv rfl rfl (r_load rfl rfl Tryz.underlying3 rfl r1) (by decide) ?_
      refine WL.vv rfl rfl (r_ar rfl rfl rfl rfl) (by decide) ?_
      refine WL.vv rfl rfl (r_min rfl rfl rfl rfl rfl) (by decide) ?_
      refine WL.vv rfl rfl (r_field rfl rfl fo_r1) (by decide) ?_
      refine WL.s rfl rfl (r_store rfl rfl rfl is_i rfl r1 (rf _)) ?_
      have A6 := A5.far (a := ⟨b5, 1, none⟩) (.int .i64 (min (arI .mul .i64 2 (thrD k p x).2.val) 999)) hk5 (show w.heap.size ≤ b5 by omega)
      have L6 := L5.far (a := ⟨b5, 1, none⟩) (.int .i64 (min (arI .mul .i64 2 (thrD k p x).2.val) 999)) (.inr hz5)
      have R6 := R5.set_ 1 (.int .i64 (min (arI .mul .i64 2 (thrD k p x).2.val) 999))
      refine WL.nil (NX.next ?_)
      refine CW.seq (CW.region ?_)
      refine WL.vv rfl rfl (r_loadS rfl rfl Tryz.underlying34 rfl R6 is_r) (by decide) ?_
      refine WL.st rfl rfl rfl rfl (cs := repA ⟨(thrD k p x).2.code, min (arI .mul .i64 2 (thrD k p x).2.val) 999, (thrD k p x).2.text, (thrD k p x).2.want, (thrD k p x).2.had⟩) rfl L6.b3 rfl (rep_one _) is_r fun w9 R9 O9 => ?_
      have e : thrD (k + 1) p x = ((thrD k p x).1, ⟨(thrD k p x).2.code, min (arI .mul .i64 2 (thrD k p x).2.val) 999, (thrD k p x).2.text, (thrD k p x).2.want, (thrD k p x).2.had⟩) := by rw [thrD, if_neg N0, if_neg N1, if_neg N2, if_neg N3, if_neg N4, if_neg N5, if_pos C, twoR, if_pos h2]; rfl
      refine WL.nil (NX.next (CW.ret ?_))
      exact NX.retB (NX.ret (NX.body1 rfl rfl R9 Tryz.underlying34 rfl is_r (by rw [e]; exact (A6.one O9 L6.n3 (by omega)).done H.out)))
    · refine WL.vv rfl rfl (r_cmpB (b := false) rfl rfl rfl rfl (by simp [cmpI, h2])) (by decide) ?_
      refine WL.nil (NX.next (CW.no rfl (CW.skip (NX.next ?_))))
      refine CW.seq (CW.region ?_)
      refine WL.vv rfl rfl (r_loadS rfl rfl Tryz.underlying34 rfl R5 is_r) (by decide) ?_
      refine WL.st rfl rfl rfl rfl rfl L5.b3 rfl (rep_one _) is_r fun w9 R9 O9 => ?_
      have e : thrD (k + 1) p x = ((thrD k p x).1, (thrD k p x).2) := by rw [thrD, if_neg N0, if_neg N1, if_neg N2, if_neg N3, if_neg N4, if_neg N5, if_pos C, twoR, if_neg h2]
      refine WL.nil (NX.next (CW.ret ?_))
      exact NX.retB (NX.ret (NX.body1 rfl rfl R9 Tryz.underlying34 rfl is_r (by rw [e]; exact (A5.one O9 L5.n3 (by omega)).done H.out)))
  have hq : (decide ((nth p.layers k).name = twiceN)) = false := by
    simp only [Bool.and_eq_false_iff, decide_eq_false_iff_not]
    exact C
  have N6 := C
  clear C
  rw [hq]
  clear hq
  refine CW.no rfl ?_
  refine CW.skip (NX.norB (NX.next ?_))
  refine CW.seq (CW.region ?_)
  refine WL.vv rfl rfl (r_load rfl rfl Tryz.underlying89 rfl l0) (by decide) ?_
  refine WL.vv rfl rfl (r_load rfl rfl Tryz.underlying3 rfl l1) (by decide) ?_
  refine WL.vv rfl rfl (r_arB rfl rfl rfl rfl hw) (by decide) ?_
  refine WL.vv rfl rfl (r_loadS rfl rfl Tryz.underlying39 rfl L.b2 is_c) (by decide) ?_
  refine WL.c rfl rfl (r_call (args := #[PQ g, .int .i64 ((k : Nat) : Int), callV x]) ca_th rfl rfl rfl) (by decide) (IH _ _ _ _ _ _ HS.pb HX (by omega)) ?_
  rintro _ w5 ⟨rfl, hp5, hf5⟩
  refine ⟨_, rfl, ?_⟩
  have A5 := HS.call hp5 hf5
  have L5 := L.call hf5
  refine WL.st rfl rfl rfl rfl rfl L5.b3 rfl (rep_one _) is_r fun w9 R9 O9 => ?_
  have e : thrD (k + 1) p x = ((thrD k p x).1, (thrD k p x).2) := by rw [thrD, if_neg N0, if_neg N1, if_neg N2, if_neg N3, if_neg N4, if_neg N5, if_neg N6]
  refine WL.nil (NX.next (CW.ret ?_))
  exact (NX.body1 rfl rfl R9 Tryz.underlying34 rfl is_r (by rw [e]; exact (A5.one O9 L5.n3 (by omega)).done H.out))
set_option maxHeartbeats 4000000 in
theorem t_zero (hDO : DoesOk) : IHt 0 := by
  intro K w g S2 p x h hx hk
  have HW := show Below w.heap.size w ((((w.alloc (.cells #[PQ g] 89)).alloc (.cells #[.int .i64 ((0 : Nat) : Int)] 3)).alloc (.cells #[.string x.method, .string x.key, .int .i64 x.val, .string x.text] 39)).alloc (.cells zReply 34)) by go_grown
  have hnk : ∀ i, ¬ K (w.heap.size + i) := fun i hk => by have := (h.kb _ hk).2; omega
  have b0 := show RBlk ((((w.alloc (.cells #[PQ g] 89)).alloc (.cells #[.int .i64 ((0 : Nat) : Int)] 3)).alloc (.cells #[.string x.method, .string x.key, .int .i64 x.val, .string x.text] 39)).alloc (.cells zReply 34)) w.heap.size 89 #[PQ g] from (((RBlk.new w _ _).alloc _).alloc _).alloc _
  have b1 := show RBlk ((((w.alloc (.cells #[PQ g] 89)).alloc (.cells #[.int .i64 ((0 : Nat) : Int)] 3)).alloc (.cells #[.string x.method, .string x.key, .int .i64 x.val, .string x.text] 39)).alloc (.cells zReply 34)) (w.heap.size + 1) 3 #[.int .i64 ((0 : Nat) : Int)] by
    have := (RBlk.new (w.alloc (.cells #[PQ g] 89)) 3 #[.int .i64 ((0 : Nat) : Int)]); simp only [World.size_alloc] at this; exact (this.alloc _).alloc _
  have b2 := show RBlk ((((w.alloc (.cells #[PQ g] 89)).alloc (.cells #[.int .i64 ((0 : Nat) : Int)] 3)).alloc (.cells #[.string x.method, .string x.key, .int .i64 x.val, .string x.text] 39)).alloc (.cells zReply 34)) (w.heap.size + 1 + 1) 39 #[.string x.method, .string x.key, .int .i64 x.val, .string x.text] by
    have := (RBlk.new ((w.alloc (.cells #[PQ g] 89)).alloc (.cells #[.int .i64 ((0 : Nat) : Int)] 3)) 39 #[.string x.method, .string x.key, .int .i64 x.val, .string x.text]); simp only [World.size_alloc] at this; exact this.alloc _
  have b3 := show RBlk ((((w.alloc (.cells #[PQ g] 89)).alloc (.cells #[.int .i64 ((0 : Nat) : Int)] 3)).alloc (.cells #[.string x.method, .string x.key, .int .i64 x.val, .string x.text] 39)).alloc (.cells zReply 34)) (w.heap.size + 1 + 1 + 1) 34 zReply by
    have := (RBlk.new (((w.alloc (.cells #[PQ g] 89)).alloc (.cells #[.int .i64 ((0 : Nat) : Int)] 3)).alloc (.cells #[.string x.method, .string x.key, .int .i64 x.val, .string x.text] 39)) 34 zReply); simp only [World.size_alloc] at this; exact this
  have HS := (St.start h).below HW
  have hn3 : ¬ K (w.heap.size + 1 + 1 + 1) := hnk 3
  refine calls_CW (E := [(0, PQ g), (1, .int .i64 ((0 : Nat) : Int)), (2, callV x)]) Tryz.func57 rfl Tryz.ntmps57 (by simp) (by simp) ?_
  refine CW.seq (CW.region ?_)
  refine WL.vv rfl rfl (r_box rfl rfl) (by decide) ?_
  refine WL.vv rfl rfl (r_box rfl rfl) (by decide) ?_
  refine WL.vv rfl rfl (r_box rfl rfl) (by decide) ?_
  refine WL.vv rfl rfl (r_alloc rfl iz_r) (by decide) ?_
  refine WL.nil (NX.next ?_)
  show CW _ Tryz.prog _ _ _ ((((w.alloc (.cells #[PQ g] 89)).alloc (.cells #[.int .i64 ((0 : Nat) : Int)] 3)).alloc (.cells #[.string x.method, .string x.key, .int .i64 x.val, .string x.text] 39)).alloc (.cells zReply 34))
  refine CW.sub (E' := [(3, PQ (w.heap.size)), (4, PQ (w.heap.size + 1)), (5, PQ (w.heap.size + 1 + 1)), (6, PQ (w.heap.size + 1 + 1 + 1))]) ⟨rfl, by simp only [World.size_alloc]; rfl, by simp only [World.size_alloc]; rfl, by simp only [World.size_alloc]; rfl, trivial⟩ ?_
  generalize ((((w.alloc (.cells #[PQ g] 89)).alloc (.cells #[.int .i64 ((0 : Nat) : Int)] 3)).alloc (.cells #[.string x.method, .string x.key, .int .i64 x.val, .string x.text] 39)).alloc (.cells zReply 34)) = wa at HW b0 b1 b2 b3 HS ⊢
  clear HW hnk
  refine CW.seq (CW.seq (CW.region ?_))
  refine WL.vv rfl rfl (r_load rfl rfl Tryz.underlying3 rfl (b1.cell 0)) (by decide) ?_
  refine WL.vv rfl rfl (r_cmpB (b := true) rfl rfl rfl rfl rfl) (by decide) ?_
  refine WL.nil (NX.next (CW.yes rfl ?_))
  refine CW.seq (CW.tail 4 mo (by kernel_rfl) fun wc hwd hBd => ?_)
  replace b0 := b0.below hBd b0.lt
  replace b2 := b2.below hBd b2.lt
  replace b3 := b3.below hBd b3.lt
  replace HS := HS.below hBd
  refine WS.vv rfl rfl (r_load rfl rfl Tryz.underlying89 rfl (b0.cell 0)) (by decide) ?_
  refine WS.vv rfl rfl (r_nil rfl rfl) (by decide) ?_
  refine WS.vv rfl rfl (r_field rfl rfl fo_p0) (by decide) ?_
  refine WS.vv rfl rfl (r_loadS rfl rfl Tryz.underlying39 rfl b2 is_c) (by decide) ?_
  refine WS.go ?_
  refine WL.c rfl rfl (r_call (args := #[PQ g, callV x]) ca_do rfl rfl rfl) (by decide) (hDO _ _ _ _ _ _ HS.pb hx) ?_
  rintro _ w5 ⟨rfl, hp5, hf5⟩
  refine ⟨_, rfl, ?_⟩
  have A5 := HS.call hp5 hf5
  have R5 := b3.frk hf5 hn3
  have n5 : ¬ Gr K wc w5 (w.heap.size + 1 + 1 + 1) := fun q => by rcases q with q | q; exact hn3 q; have := b3.lt; omega
  refine WL.st rfl rfl rfl rfl rfl R5 rfl (rep_one _) is_r fun w9 R9 O9 => ?_
  refine WL.nil (NX.next (CW.ret ?_))
  exact NX.ret (NX.body1 rfl rfl R9 Tryz.underlying34 rfl is_r ((A5.one O9 n5 (by omega)).done h))
theorem t_through (hDO : DoesOk) : ∀ k, IHt k
  | 0 => t_zero hDO
  | k + 1 => t_step (t_through hDO k)
end Go.Proofs.YtbgcaneflfdddaaGreatDoor
/- Contract: a call of a part (impl.CallPart), all its walks together. -/
namespace Go.Proofs.YtbgcaneflfdddaaGreatDoor
open Go.RowKit Go
variable [GC]
theorem does_all [HasPow] [HasMax] [HasErr] : DoesOk := fun K w g S2 p x h hx => t_does (fun K w g S2 p x h hx => t_keepCall h hx) h hx
theorem c_impl_CallPart [HasPow] [HasMax] [HasErr] (p : Part) (x : Call) (hc : p.core.cells.length ≤ 4294967296) (hl : p.layers.length ≤ 4294967296) (hx : x.text.size < 4294967281) : FunR Tryz.prog 17 none [enc p, enc x] (.tup [enc (callD p x).1, enc (callD p x).2]) [] [(3, 2), (5, 2)] :=
 t_CallPart (t_through does_all) p x hc hl hx
end Go.Proofs.YtbgcaneflfdddaaGreatDoor
/- Equality of hosts: what the program and the reference compute. -/
namespace Go.Proofs.YtbgcaneflfdddaaGreatDoor
open Go.RowKit Go
variable [GC]
theorem ne_at {α : Type} [Inhabited α] {l l' : List α} {k : Nat} (h : nth l k ≠ nth l' k) : l ≠ l' := fun e => h (by rw [e])
theorem ne_len {α : Type} {l l' : List α} (h : l.length ≠ l'.length) : l ≠ l' := fun e => h (by rw [e])
theorem c_impl_SameCore (a b : Core) : Fun Tryz.prog 68 none [enc a, enc b] (.bool (decide (a = b))) [] := by
 refine Fun.ofV vc_impl_SameCore_ok ty_impl_SameCore_ok rfl ?_ (fun hfit => ?_)
 ·exact ⟨ty_Core a, ty_Core b, trivial⟩
 have hl : a.cells.length ≤ 9223372036854775807 := by
  have hf := hfit.1
  simp only [enc, Fits, cells_Core, FitsL] at hf
  exact fits_encS hf.2.2.2.1
 unfold vc_impl_SameCore
 refine den_ite (fun h => ?_) (fun h => ?_)
 ·simp only [E.den, dEq, iEq, sEq, cells_Core] at h
  have : a ≠ b := fun e => by subst e; simp at h
  exact den_ret (by simp [E.den, this])
 simp only [E.den, dEq, iEq, sEq, cells_Core] at h
 simp at h
 obtain ⟨⟨⟨⟨h1, h2⟩, h3⟩, h4⟩, h5⟩ := h
 have h5 : a.cells.length = b.cells.length := by omega
 refine den_for a.cells.length (fun k => [.int .i64 k]) (fun k => ∀ i, i < k → nth a.cells i = nth b.cells i) rfl (by omega) ?_
 intro k hk hI _
 simp only [cA]
 refine den_ite (fun g2 => ?_) (fun g2 => ?_)
 ·simp only [E.den, dEq, iEq, sEq, cells_Core] at g2
  have g2 : k < a.cells.length := by simp at g2; exact g2
  (refine den_cond (fun hg => ?_) ?_; (focus (simp only [gsH, gE, E.den, dEq, iEq, sEq, cells_Core] at hg ⊢; (try simp only [D.bool.injEq] at hg); (try simp only [D.bool.injEq]); grind)))
  (refine den_cond (fun hg => ?_) ?_; (focus (simp only [gsH, gE, E.den, dEq, iEq, sEq, cells_Core] at hg ⊢; (try simp only [D.bool.injEq] at hg); (try simp only [D.bool.injEq]); grind)))
  refine den_ite (fun g3 => ?_) (fun g3 => ?_)
  ·simp only [E.den, dEq, iEq, sEq, cells_Core, row_Cell, eqv_Cell] at g3
   have g3 : nth a.cells k ≠ nth b.cells k := by simpa using g3
   have : a ≠ b := fun e => g3 (by rw [e])
   exact den_ret (by simp [E.den, this])
  ·simp only [E.den, dEq, iEq, sEq, cells_Core, row_Cell, eqv_Cell] at g3
   have g3 : nth a.cells k = nth b.cells k := by simpa using g3
   refine den_next g2 ?_ fun i hi => ?_
   ·simp only [E.den, dEq, iEq, sEq]
    rw [ar_add (by omega) (by omega)]; rfl
   ·rcases Nat.lt_or_ge i k with h' | h'
    ·exact hI i h'
    ·obtain rfl : i = k := by omega
     exact g3
 ·simp only [E.den, dEq, iEq, sEq, cells_Core] at g2
  obtain rfl : k = a.cells.length := by simp at g2; omega
  have : a = b := by rw [eq_Core]; exact ⟨h1, h2, h3, ext_nth h5 hI, h4⟩
  exact den_ret (by simp [E.den, this])
theorem c_impl_SamePart (a b : Part) : Fun Tryz.prog 22 none [enc a, enc b] (.bool (decide (a = b))) [] := by
 refine Fun.ofV vc_impl_SamePart_ok ty_impl_SamePart_ok rfl ?_ (fun hfit => ?_)
 ·exact ⟨ty_Part a, ty_Part b, trivial⟩
 have hl : a.layers.length ≤ 9223372036854775807 := by
  have hf := hfit.1
  simp only [enc, Fits, cells_Part, FitsL] at hf
  exact fits_encS hf.2.2.2.2.2.1
 unfold vc_impl_SamePart
 (refine den_call ?_ (c_impl_SameCore a.core b.core) (trivial) ?_; (focus (simp only [VC.den, E.den, dEq, gsH_nil, and_true, cells_Part]; try exact rfl)); (simp only [cA]))
 refine den_ite (fun h => ?_) (fun h => ?_)
 ·simp only [E.den, dEq, iEq, sEq, cells_Part] at h
  have : a ≠ b := fun e => by subst e; simp at h
  exact den_ret (by simp [E.den, this])
 simp only [E.den, dEq, iEq, sEq, cells_Part] at h
 simp at h
 obtain ⟨h1, h5⟩ := h
 have h5 : a.layers.length = b.layers.length := by omega
 refine den_for a.layers.length (fun k => [.int .i64 k]) (fun k => ∀ i, i < k → nth a.layers i = nth b.layers i) rfl (by omega) ?_
 intro k hk hI _
 simp only [cA]
 refine den_ite (fun g2 => ?_) (fun g2 => ?_)
 ·simp only [E.den, dEq, iEq, sEq, cells_Part] at g2
  have g2 : k < a.layers.length := by simp at g2; exact g2
  (refine den_cond (fun hg => ?_) ?_; (focus (simp only [gsH, gE, E.den, dEq, iEq, sEq, cells_Part] at hg ⊢; (try simp only [D.bool.injEq] at hg); (try simp only [D.bool.injEq]); grind)))
  (refine den_cond (fun hg => ?_) ?_; (focus (simp only [gsH, gE, E.den, dEq, iEq, sEq, cells_Part] at hg ⊢; (try simp only [D.bool.injEq] at hg); (try simp only [D.bool.injEq]); grind)))
  refine den_ite (fun g3 => ?_) (fun g3 => ?_)
  ·simp only [E.den, dEq, iEq, sEq, cells_Part, row_Layer, eqv_Layer] at g3
   have g3 : nth a.layers k ≠ nth b.layers k := by simpa using g3
   have : a ≠ b := fun e => g3 (by rw [e])
   exact den_ret (by simp [E.den, this])
  ·simp only [E.den, dEq, iEq, sEq, cells_Part, row_Layer, eqv_Layer] at g3
   have g3 : nth a.layers k = nth b.layers k := by simpa using g3
   refine den_next g2 ?_ fun i hi => ?_
   ·simp only [E.den, dEq, iEq, sEq]
    rw [ar_add (by omega) (by omega)]; rfl
   ·rcases Nat.lt_or_ge i k with h' | h'
    ·exact hI i h'
    ·obtain rfl : i = k := by omega
     exact g3
 ·simp only [E.den, dEq, iEq, sEq, cells_Part] at g2
  obtain rfl : k = a.layers.length := by simp at g2; omega
  have : a = b := by rw [eq_Part]; exact ⟨h1, ext_nth h5 hI⟩
  exact den_ret (by simp [E.den, this])
end Go.Proofs.YtbgcaneflfdddaaGreatDoor
/- Contracts that the laws of parts share: unwrapping, calls in a row, recipes, drawn parts with calls. -/
namespace Go.Proofs.YtbgcaneflfdddaaGreatDoor
open Go.RowKit Go
section
variable [GC]
structure PlSt where
 l : List Call
 n : Int
 rows : List (List D)
 i : Int
 h : Int
def PlSt.lay (s : PlSt) : List D := [encS s.l, .int .i64 s.n, .sl s.rows, .int .i64 s.i, .int .i64 s.h]
theorem robot_part : partB ⟨⟨robotN, false, false, [], 0⟩, []⟩ = true := by decide +kernel
end
section
variable [GC] [HasPow] [HasMax] [HasErr]
end
end Go.Proofs.YtbgcaneflfdddaaGreatDoor
/- What a walk that draws a part needs beside: a part drawn by a call, partial stores, an append onto a row of one's own. -/
namespace Go.Proofs.YtbgcaneflfdddaaGreatDoor
open Go.RowKit Go
variable [GC]
section
variable {n : Nat} {P : Program} {E : List (Nat × Value)} {w : World} {o : Oper}
theorem r_storeP {T : TypeId} {x y : Operand} {b : Nat} {t : TypeId} {C cs : Array Value} (ho : o.op = .store T x y) (hx : ev E x = some (.pointer (some ⟨b, 0, none⟩))) (hy : ev E y = some (.agg cs)) (hsz : (P.info? T).map (·.size) = some cs.size) (hone : ∀ u ∈ cs.toList, u.oneCell' = true) (hC : cs.size ≤ C.size) (hb : RBlk w b t C) :
  ∃ w', RunS n P E o w w' ∧ RBlk w' b t (setAllA C 0 cs.toList) ∧ OneBlock w w' b := by
 simp only [Option.map_eq_some_iff] at hsz
 obtain ⟨i, hi, hs⟩ := hsz
 obtain ⟨w', h1, h2, h3⟩ := run_storeCells (P := P) b t cs.toList w C 0 0 hb hone (by simp; omega)
 refine ⟨w', fun a hE => ?_, h2, h3⟩
 have h4 : (storeVar T ⟨b, 0, none⟩ (.agg cs)).run P w = .ok () w' := by
  simp only [storeVar, Value.cells, Sem.run_bind, run_sizeOf hi, Result.andThen_ok, hs]
  simp [h1]
 simp [execOp, ho, hE.ev hx, hE.ev hy, Instr.storeAt, Instr.sureAddr, h4]
theorem r_bslice {T e : TypeId} {i : TypeInfo} {x : Operand} {u0 u1 z0 z1 : Value} (ho : o.op = .buildSlice T 1 #[(0, x)]) (hx : ev E x = some (.agg #[u0, u1])) (hT : P.underlying T = some (.slice e)) (hi : P.info? e = some i) (hsz : i.size = 2) (hz : i.zero = some (.agg #[z0, z1])) :
  RunV n P E o w (.slice (some ⟨w.heap.size, 0, none⟩) 1 1) (w.alloc (.cells #[u0, u1] e)) := fun a hE => by
 have hr : Array.range 2 = #[0, 1] := by decide
 simp [execOp, ho, hE.ev hx, Instr.buildSlice, run_underlying hT, run_sizeOf hi, hsz, zeroValue, run_typeInfo hi, hz, Value.cells, Instr.fill, newRow, hr]
end
theorem Row2.room {K : Nat → Prop} {w : World} {g b o cap : Nat} {sp : Option Nat} {l : List (ByteArray × Int)} {s : ByteArray} {v : Int} (h : Row2 K w g (.slice (some ⟨b, o, sp⟩) l.length cap) l) (hr : l.length + 1 ≤ cap) (hp : pOk (s, v)) :
  Row2 K ((w.setCell ⟨b, o + l.length * 2, none⟩ (.string s)).setCell ⟨b, o + l.length * 2 + 1, none⟩ (.int .i64 v)) g (.slice (some ⟨b, o, sp⟩) (l.length + 1) cap) (l ++ [(s, v)]) ∧
  Row2 K ((w.setCell ⟨b, o + l.length * 2, none⟩ (.string s)).setCell ⟨b, o + l.length * 2 + 1, none⟩ (.int .i64 v)) g (.slice (some ⟨b, o, sp⟩) l.length cap) l ∧ sp = none ∧ K b ∧ b ≠ g ∧
  (∀ j, j < 2 → (w.cell? ⟨b, o + l.length * 2 + j, none⟩).isSome = true ∧ w.frozen? ⟨b, o + l.length * 2 + j, none⟩ = false) := by
 obtain ⟨a, cap', e, h1, h2, h3, h4, h5⟩ := h
 cases e
 obtain ⟨q1, q2, q3, cells, T, q4, q5, q6⟩ := h5 b o sp rfl (by omega)
 have hh : ((w.setCell ⟨b, o + l.length * 2, none⟩ (.string s)).setCell ⟨b, o + l.length * 2 + 1, none⟩ (.int .i64 v)).heap[b]? = some (.cells ((cells.setIfInBounds (o + l.length * 2) (.string s)).setIfInBounds (o + l.length * 2 + 1) (.int .i64 v)) T (0, 0)) := by
  unfold World.setCell
  simp [Array.getElem?_modify, q4]
 refine ⟨⟨_, cap, by rw [List.length_append]; rfl, by rw [List.length_append]; exact hr, h2, (fun e => by cases e), fun x hx => ?_, fun b' o' s' e hc => ?_⟩, ⟨_, cap, rfl, h1, h2, (fun e => by cases e), h4, fun b' o' s' e hc => ?_⟩, q1, q2, q3, fun j hj => ?_⟩
 ·rcases List.mem_append.1 hx with hx | hx
  ·exact h4 x hx
  ·simp at hx; subst hx; exact hp
 ·cases e
  refine ⟨q1, q2, q3, _, T, hh, by simpa using q5, fun i hi => ?_⟩
  rw [List.length_append, List.length_singleton] at hi
  rcases Nat.lt_or_ge i l.length with h' | h'
  ·obtain ⟨z1, z2⟩ := q6 i h'
   rw [nthA_l h']
   exact ⟨by rw [Array.getElem?_setIfInBounds_ne (by omega), Array.getElem?_setIfInBounds_ne (by omega), z1], by rw [Array.getElem?_setIfInBounds_ne (by omega), Array.getElem?_setIfInBounds_ne (by omega), z2]⟩
  ·obtain rfl : i = l.length := by omega
   have : nth (l ++ [(s, v)]) l.length = (s, v) := by simp [nth]
   rw [this]
   exact ⟨by rw [Array.getElem?_setIfInBounds_ne (by omega), Array.getElem?_setIfInBounds_self_of_lt (by omega)], by rw [Array.getElem?_setIfInBounds_self_of_lt (by simp; omega)]⟩
 ·cases e
  refine ⟨q1, q2, q3, _, T, hh, by simpa using q5, fun i hi => ?_⟩
  obtain ⟨z1, z2⟩ := q6 i hi
  exact ⟨by rw [Array.getElem?_setIfInBounds_ne (by omega), Array.getElem?_setIfInBounds_ne (by omega), z1], by rw [Array.getElem?_setIfInBounds_ne (by omega), Array.getElem?_setIfInBounds_ne (by omega), z2]⟩
 ·constructor
  ·simp only [World.cell?, q4]
   have : o + l.length * 2 + j < cells.size := by omega
   simp [this]
  ·unfold World.frozen?; rw [q4]; simp
theorem Row2.olds {K : Nat → Prop} {w : World} {g b o cap : Nat} {l : List (ByteArray × Int)} (h : Row2 K w g (.slice (some ⟨b, o, none⟩) l.length cap) l) (hc : 0 < cap) : ∀ j u, (l.flatMap fun x => [Value.string x.1, .int .i64 x.2])[j]? = some u → w.cell? ⟨b, o + j, none⟩ = some u := by
 obtain ⟨a, cap', e, h1, h2, h3, h4, h5⟩ := h
 cases e
 obtain ⟨q1, q2, q3, cells, T, q4, q5, q6⟩ := h5 b o none rfl hc
 have key : ∀ (m : List (ByteArray × Int)) (k : Nat), (∀ i, i < m.length → cells[k + i * 2]? = some (.string (nth m i).1) ∧ cells[k + i * 2 + 1]? = some (.int .i64 (nth m i).2)) → ∀ j u, (m.flatMap fun x => [Value.string x.1, .int .i64 x.2])[j]? = some u → cells[k + j]? = some u := by
  intro m
  induction m with
  | nil => intro k _ j u hj; simp at hj
  | cons x r ih =>
   intro k hk j u hj
   match j, hj with
   | 0, hj => simp at hj; subst hj; have := (hk 0 (by simp)).1; simpa [nth_zero] using this
   | 1, hj => simp at hj; subst hj; have := (hk 0 (by simp)).2; simpa [nth_zero] using this
   | j + 2, hj =>
    have := ih (k + 2) (fun i hi => by
     have := hk (i + 1) (by simpa using hi)
     rw [nth_cons] at this
     have e : k + (i + 1) * 2 = k + 2 + i * 2 := by omega
     rw [e] at this; exact this) j u (by simpa using hj)
    rwa [show k + (j + 2) = k + 2 + j by omega]
 intro j u hj
 have := key l o q6 j u hj
 simp only [World.cell?, q4]
 simpa using this
theorem flat_len2 (l : List (ByteArray × Int)) : (l.flatMap fun x => [Value.string x.1, .int .i64 x.2]).length = l.length * 2 := by
 induction l with
 | nil => rfl
 | cons x r ih => simp only [List.flatMap_cons, List.length_append, ih, List.length_cons, List.length_nil]; omega
theorem app2 {w : World} (ty : TypeId) {K : Nat → Prop} {g : Nat} {S : Value} {l : List (ByteArray × Int)} (H : Row2 K w g S l) {s : ByteArray} {v : Int} {bn : Nat} (x y : Operand) (hp : pOk (s, v)) (hgl : g < w.heap.size) (hn : l.length ≤ 100)
  (c0 : w.cell? ⟨bn, 0, none⟩ = some (.string s)) (c1 : w.cell? ⟨bn, 1, none⟩ = some (.int .i64 v)) :
  (∃ S' w', (∀ (n : Nat) (E : List (Nat × Value)) (o : Oper), o.type = ty → o.op = .call { callee := .builtin .append, args := #[x, y], argTypes := #[27, 27] } → ev E x = some S → ev E y = some (.slice (some ⟨bn, 0, none⟩) 1 1) → RunV n Tryz.prog E o w S' w') ∧ Below w.heap.size w w' ∧ Row2 (fun b => w.heap.size ≤ b) w' g S' (l ++ [(s, v)])) ∨
  (∃ b o' cap, S = .slice (some ⟨b, o', none⟩) l.length cap ∧ l.length + 1 ≤ cap ∧ (∀ (n : Nat) (E : List (Nat × Value)) (o : Oper), o.type = ty → o.op = .call { callee := .builtin .append, args := #[x, y], argTypes := #[27, 27] } → ev E x = some S → ev E y = some (.slice (some ⟨bn, 0, none⟩) 1 1) → RunV n Tryz.prog E o w (.slice (some ⟨b, o', none⟩) (l.length + 1) cap) ((w.setCell ⟨b, o' + l.length * 2, none⟩ (.string s)).setCell ⟨b, o' + l.length * 2 + 1, none⟩ (.int .i64 v)))) := by
 obtain ⟨i, hi, hsz⟩ := inf_l
 obtain ⟨hz, hby⟩ : i.zero = some (.agg #[.string ⟨#[]⟩, .int .i64 0]) ∧ i.bytes = 24 := by
  have h1 := iz_l
  rw [hi] at h1
  refine ⟨by simpa using h1, ?_⟩
  have h2 : (Tryz.prog.info? 52).map (·.bytes) = some 24 := by kernel_rfl
  rw [hi] at h2; simpa using h2
 have hnews : ∀ j u, ([Value.string s, .int .i64 v] : List Value)[j]? = some u → w.cell? ((⟨bn, 0, none⟩ : Addr).add j) = some u := fun j u hj => by
  rw [addr_add, Nat.zero_add]
  match j, hj with
  | 0, hj => simp at hj; subst hj; exact c0
  | 1, hj => simp at hj; subst hj; exact c1
  | j + 2, hj => simp at hj
 have h1c : ∀ u ∈ ([Value.string s, .int .i64 v] : List Value), u.oneCell' = true := fun u hu => by simp at hu; rcases hu with rfl | rfl <;> rfl
 obtain ⟨al, cap, e, hle, hml⟩ := H.lenS
 subst e
 by_cases hr : l.length + 1 ≤ cap
 ·right
  obtain ⟨b, o', sp, rfl⟩ : ∃ b o' sp, al = some ⟨b, o', sp⟩ := by
   obtain ⟨a, cap', e, q1, q2, q3, q4, q5⟩ := H
   cases e
   rcases al with _ | ⟨b, o', sp⟩
   ·have := q3 rfl; omega
   ·exact ⟨b, o', sp, rfl⟩
  obtain ⟨_, _, rfl, _, _, hfr⟩ := H.room hr hp
  refine ⟨b, o', cap, rfl, hr, fun n E o ht ho hx hy a hE => ?_⟩
  subst ht
  have hrun := run_append_room_cells (P := Tryz.prog) w 27 o.type 52 i Tryz.underlying27 hi b o' l.length cap ⟨bn, 0, none⟩ 1 1 [.string s, .int .i64 v] (by rw [hsz]; rfl) hnews h1c hr (fun j hj => by rw [hsz]; exact (hfr j (by simpa using hj)).1) (fun j hj => by rw [hsz]; exact (hfr j (by simpa using hj)).2)
  rw [hsz] at hrun
  simp only [World.setCells] at hrun
  simp [execOp, ho, resolve, invoke, builtin, hE.ev hx, hE.ev hy, hrun]
 ·left
  have hgo : ∀ (ad : Addr), al = some ad → ∃ v' w', (Builtin.append_ #[27, 27] ty #[.slice (some ad) l.length cap, .slice (some ⟨bn, 0, none⟩) 1 1]).run Tryz.prog w = .ok v' w' ∧ w'.ownsRow w.heap.size 52 2 v' (l.length + 1) ((l.flatMap fun x => [Value.string x.1, .int .i64 x.2]) ++ [.string s, .int .i64 v]) ∧ w.grownBy w' none := by
   rintro ⟨b, o', sp⟩ rfl
   refine run_append_arg_grows (P := Tryz.prog) w 27 ty 52 i _ 2 24 Tryz.underlying27 hi hz hsz hby rfl (by decide) ⟨b, o', sp⟩ l.length cap _ (flat_len2 l) (fun j u hj => ?_) ⟨bn, 0, none⟩ 1 1 _ rfl hnews (by omega) (by unfold maxLen; omega) (by omega)
   have hl0 : 0 < cap := by
    have : l ≠ [] := by rintro rfl; simp at hj
    have := List.length_pos_iff.2 this
    omega
   have hsp : sp = none := by
    obtain ⟨a, cap', e, q1, q2, q3, q4, q5⟩ := H
    cases e
    exact (q5 b o' sp rfl hl0).1
   subst hsp
   rw [addr_add]
   exact H.olds hl0 j u hj
  have fin : ∀ (v' : Value) (w' : World), (Builtin.append_ #[27, 27] ty #[.slice al l.length cap, .slice (some ⟨bn, 0, none⟩) 1 1]).run Tryz.prog w = .ok v' w' → w'.ownsRow w.heap.size 52 2 v' (l.length + 1) ((l.flatMap fun x => [Value.string x.1, .int .i64 x.2]) ++ [.string s, .int .i64 v]) → w.grownBy w' none →
    ∃ S' w', (∀ (n : Nat) (E : List (Nat × Value)) (o : Oper), o.type = ty → o.op = .call { callee := .builtin .append, args := #[x, y], argTypes := #[27, 27] } → ev E x = some (.slice al l.length cap) → ev E y = some (.slice (some ⟨bn, 0, none⟩) 1 1) → RunV n Tryz.prog E o w S' w') ∧ Below w.heap.size w w' ∧ Row2 (fun b => w.heap.size ≤ b) w' g S' (l ++ [(s, v)]) := fun v' w' h1 h2 h3 => by
   refine ⟨v', w', fun n E o ht ho hx hy a hE => ?_, ⟨h3.os, h3.tape, h3.output, h3.size, fun k hk => h3.block k hk (by simp)⟩, Row2.owns h2 (by simp) (by simp) (fun x hx => ?_) (fun b z1 z2 => z1) (fun b z1 z2 => by omega)⟩
   ·subst ht
    simp [execOp, ho, resolve, invoke, builtin, hE.ev hx, hE.ev hy, h1]
   ·rcases List.mem_append.1 hx with hx | hx
    ·exact H.ok hx
    ·simp at hx; subst hx; exact hp
  rcases al with _ | ad
  ·obtain rfl : l = [] := by
    obtain ⟨a, cap', e, q1, q2, q3, q4, q5⟩ := H
    cases e
    have := q3 rfl
    exact List.eq_nil_of_length_eq_zero (by omega)
   have hc0 : cap = 0 := by
    obtain ⟨a, cap', e, q1, q2, q3, q4, q5⟩ := H
    cases e
    exact q3 rfl
   subst hc0
   obtain ⟨v', w', h1, h2, h3, _⟩ := run_append_own (P := Tryz.prog) w w.heap.size 27 ty 52 i _ 2 24 Tryz.underlying27 hi hz hsz hby rfl (by decide) (.slice none 0 0) 0 [] (World.ownsRow_nil w _ _ _) ⟨bn, 0, none⟩ 1 1 [.string s, .int .i64 v] rfl hnews h1c (by unfold maxLen; omega) (by omega) (Nat.le_refl _)
   exact fin v' w' h1 h2 h3
  ·obtain ⟨v', w', h1, h2, h3⟩ := hgo ad rfl
   exact fin v' w' h1 h2 h3
theorem LD.drawX {w0 w w' : World} {M : Addr → Prop} {gc g2 g3 : Nat} {Ba Ba' : Addr → Prop} {a : Part × List D} {S1 S2 : Value} (h : LD w0 M gc g2 g3 Ba a S1 S2 w) {cs' : List D} (hcs : Cur cs') (hf : Fr w.heap.size (some gc) w w') (h1 : ∀ q, Ba q → Ba' q) (h3 : ∀ q, Ba' q → q.block < w'.heap.size) (hc : ∃ us T, w'.heap[gc]? = some (.cells us.toArray T (0, 0)) ∧ Rs w' Ba' cs' us) : LD w0 M gc g2 g3 Ba' (a.1, cs') S1 S2 w' := by
 have hne : ∀ b, w0.heap.size ≤ b → some b ≠ some gc := fun b hb e => by have := h.gl; simp at e; omega
 have hng : ∀ b, w0.heap.size ≤ b → b < w.heap.size → w'.heap[b]? = w.heap[b]? := fun b h1 h2 => hf.block b h2 (hne b h1)
 refine ⟨h.fr.trans ⟨hf.os, hf.tape, hf.output, hf.size, fun k hk => hf.block k (Nat.lt_of_lt_of_le hk h.size)⟩, ⟨h3, h.rdy.2.1.keep fun k hk => hf.block k (Nat.lt_of_lt_of_le hk h.rdy.2.2) (fun e => by have := h.ng; simp at e; omega), Nat.le_trans h.rdy.2.2 hf.size⟩, fun q hq => h1 q (h.bM q hq), h.gM, h.ng, h.gl, h.low, hcs, hc, ⟨h.k2.1, fun q hq => h1 q (h.k2.2 q hq)⟩, ⟨h.k3.1, fun q hq => h1 q (h.k3.2 q hq)⟩, fun q hq => h1 q (h.s1 q hq), fun q hq => h1 q (h.s2 q hq), h.ne, ?_, ?_, ?_, ?_, h.ap, h.ks, h.ct⟩
 ·exact (hng _ h.k2.1 h.b2.lt).trans h.b2
 ·exact (hng _ h.k3.1 h.b3.lt).trans h.b3
 ·exact h.r1.keep (fun b ho => by have := h.r1.out ho; exact hng b this.1.1 this.2.2) fun _ h => h
 ·exact h.r2.keep (fun b ho => by have := h.r2.out ho; exact hng b this.1.1 this.2.2) fun _ h => h
theorem LD.room {w0 w : World} {M : Addr → Prop} {gc g2 g3 b o cap : Nat} {Ba : Addr → Prop} {a : Part × List D} {S1 : Value} {s : ByteArray} {v : Int} (h : LD w0 M gc g2 g3 Ba a S1 (.slice (some ⟨b, o, none⟩) a.1.layers.length cap) w) (hr : a.1.layers.length + 1 ≤ cap) (hp : pOk (s, v)) :
  LD w0 M gc g2 g3 Ba a S1 (.slice (some ⟨b, o, none⟩) a.1.layers.length cap) ((w.setCell ⟨b, o + a.1.layers.length * 2, none⟩ (.string s)).setCell ⟨b, o + a.1.layers.length * 2 + 1, none⟩ (.int .i64 v)) ∧
  Row2 (fun b => w0.heap.size ≤ b ∧ b ≠ g2) ((w.setCell ⟨b, o + a.1.layers.length * 2, none⟩ (.string s)).setCell ⟨b, o + a.1.layers.length * 2 + 1, none⟩ (.int .i64 v)) g3 (.slice (some ⟨b, o, none⟩) (a.1.layers.length + 1) cap) (prL (a.1.layers ++ [⟨s, v⟩])) := by
 have hl := prL_len a.1.layers
 have h2 := h.r2
 rw [← hl] at h2
 obtain ⟨q1, q2, -, ⟨q3, q4⟩, q5, -⟩ := h2.room (by rw [hl]; exact hr) hp
 rw [hl] at q1 q2
 have ho : OneBlock w ((w.setCell ⟨b, o + a.1.layers.length * 2, none⟩ (.string s)).setCell ⟨b, o + a.1.layers.length * 2 + 1, none⟩ (.int .i64 v)) b := ((OneBlock.refl w b).set _ _).set _ _
 have hob : OutB (.slice (some ⟨b, o, none⟩) a.1.layers.length cap) b := ⟨o, none, _, cap, rfl, by omega⟩
 obtain ⟨f1, f2⟩ := h.frOne ho q3
 have hgc : gc ≠ b := fun e => by have := h.gl; omega
 obtain ⟨us, T, c1, c2⟩ := h.cur
 have hsp : ∀ j, j < 2 → Ba ⟨b, o + a.1.layers.length * 2 + j, none⟩ := fun j hj => h.s2 _ ⟨b, o, none, _, cap, rfl, rfl, by simp, by simp only; omega⟩
 refine ⟨⟨f1, f2, h.bM, h.gM, h.ng, h.gl, h.low, h.hc, ⟨us, T, (ho.block gc hgc).trans c1, Rs.keep (fun q u hc hm => ⟨?_, hm⟩) _ _ c2⟩, h.k2, h.k3, h.s1, h.s2, h.ne, (ho.block _ (Ne.symm q4)).trans h.b2, (ho.block _ (Ne.symm q5)).trans h.b3, h.r1.keep (fun x hx => ho.block x fun e => h.ap x hx (e ▸ hob)) (fun _ h => h), q2, h.ap, h.ks, h.ct⟩, ?_⟩
 ·rw [cell_far (fun e => hm (by rw [e]; exact hsp 1 (by omega))) rfl, cell_far (fun e => hm (by rw [e]; exact hsp 0 (by omega))) rfl]
  exact hc
 ·have e : prL a.1.layers ++ [(s, v)] = prL (a.1.layers ++ [⟨s, v⟩]) := by simp [prL]
  rw [← e]; exact q1
theorem LD.start2 {w w1 w2 w3 : World} {M : Addr → Prop} {gc : Nat} {p0 : Part} {c0 : List D} {S1 S2 : Value} (hM : Rdy w M) (hgM : ∀ q : Addr, q.block = gc → M q) (hng : NG ≤ gc) (hgl : gc < w.heap.size) (hb1 : Below w.heap.size w w1) (hs1 : w1.heap.size = w.heap.size + 1) (hr2 : RBlk w1 w.heap.size 29 zPart) (hc0 : Cur c0)
  (hf2 : Fr w1.heap.size (some gc) w1 w2) {M' : Addr → Prop} (hv1 : R w2 M' (encS p0.core.cells) S1) (hv2 : R w2 M' (encS p0.layers) S2) (hrt : RtOk w1.heap.size w2 (.agg (partA p0 S1 S2)) [(3, 2), (5, 2)])
  (hcur : ∃ us T, w2.heap[gc]? = some (.cells us.toArray T (0, 0)) ∧ Rs w2 (fun q => (M q ∨ q.block = w.heap.size) ∨ RtM (.agg (partA p0 S1 S2)) [(3, 2), (5, 2)] q) c0 us) (ho : OneBlock (w2.alloc (.cells zPart 29)) w3 w2.heap.size) (hb3 : RBlk w3 w2.heap.size 29 (partA p0 S1 S2))
  (hks : p0.core.kind.size ≤ maxLen) (hct : IntKind.i64.min ≤ p0.core.count ∧ p0.core.count ≤ IntKind.i64.max) :
  LD w M gc w.heap.size w2.heap.size (fun q => M q ∨ q.block = w.heap.size ∨ q.block = w2.heap.size ∨ spareIn S1 2 q ∨ spareIn S2 2 q) (p0, c0) S1 S2 w3 := by
 have hb := below_alloc_one ho
 have l1 : LiveAt w1.heap.size w2 S1 2 := hrt.1 (3, 2) (by simp)
 have l2 : LiveAt w1.heap.size w2 S2 2 := hrt.1 (5, 2) (by simp)
 have hap : Apart S1 S2 := hrt.2 0 1 (3, 2) (5, 2) rfl rfl (by simp)
 have hs2 : w1.heap.size ≤ w2.heap.size := hf2.size
 have hlt : w2.heap.size < w3.heap.size := hb3.lt
 have f1 : R w2 (fun _ => False) (.sl ((prC p0.core.cells).map rowP)) S1 := by rw [prC_row]; exact R.less hv1 fun _ h => h.elim
 have f2 : R w2 (fun _ => False) (.sl ((prL p0.layers).map rowP)) S2 := by rw [prL_row]; exact R.less hv2 fun _ h => h.elim
 have q1 := Row2.of (K := fun b => w.heap.size ≤ b ∧ b ≠ w.heap.size) (g := w2.heap.size) f1 l1 (fun b z1 z2 => ⟨by omega, by omega⟩) (fun b z1 z2 => by omega)
 have q2 := Row2.of (K := fun b => w.heap.size ≤ b ∧ b ≠ w.heap.size) (g := w2.heap.size) f2 l2 (fun b z1 z2 => ⟨by omega, by omega⟩) (fun b z1 z2 => by omega)
 have out : ∀ {S : Value} {z : Addr}, spareIn S 2 z → OutB S z.block := fun {S z} h => by
  obtain ⟨o, s, len, cap, e, hc⟩ := spare_lt h
  exact ⟨o, s, len, cap, e, hc⟩
 have hB : ∀ k, k < w.heap.size → k ≠ gc → w3.heap[k]? = w.heap[k]? := fun k hk hn => ((hb.block k (by omega)).trans (hf2.block k (by omega) (fun e => hn (by simpa using e)))).trans (hb1.block k hk)
 obtain ⟨us, T, c1, c2⟩ := hcur
 refine ⟨⟨hb.os.trans (hf2.os.trans hb1.os), hb.tape.trans (hf2.tape.trans hb1.tape), hb.output.trans (hf2.output.trans hb1.output), by omega, fun k hk hn => hB k hk fun e => hn (by rw [e])⟩, ⟨fun q hq => ?_, hM.2.1.keep fun k hk => hB k (Nat.lt_of_lt_of_le hk hM.2.2) (fun e => by omega), by have := hM.2.2; omega⟩, fun q hq => .inl hq, hgM, hng, hgl, hM.1, hc0, ⟨us, T, (hb.block gc (by omega)).trans c1, Rs.keep (Keeps.below hb fun q hql hq => ?_) _ _ c2⟩, ⟨Nat.le_refl _, fun q hq => .inr (.inl hq)⟩, ⟨by omega, fun q hq => .inr (.inr (.inl hq))⟩, fun q hq => .inr (.inr (.inr (.inl hq))), fun q hq => .inr (.inr (.inr (.inr hq))), by omega, ?_, hb3, q1.keep (fun b hb' => hb.block b (q1.out hb').2.2) (fun _ h => h), q2.keep (fun b hb' => hb.block b (q2.out hb').2.2) (fun _ h => h), fun b ⟨o, s, len, cap, e, hc⟩ ⟨o', s', len', cap', e', hc'⟩ => hap b o s len cap b o' s' len' cap' e hc e' hc' rfl, hks, hct⟩
 ·rcases hq with hq | hq | hq | hq | hq
  ·have := hM.1 q hq; omega
  ·omega
  ·omega
  ·have := (q1.out (out hq)).2.2; omega
  ·have := (q2.out (out hq)).2.2; omega
 ·rcases hq with hq | hq | hq | hq | hq
  ·exact .inl (.inl hq)
  ·exact .inl (.inr hq)
  ·omega
  ·exact .inr ⟨(3, 2), by simp, hq⟩
  ·exact .inr ⟨(5, 2), by simp, hq⟩
 ·have hne : some w.heap.size ≠ some gc := fun e => by simp at e; omega
  exact ((hb.block _ (by omega)).trans (hf2.block _ (by omega) hne)).trans hr2
end Go.Proofs.YtbgcaneflfdddaaGreatDoor
