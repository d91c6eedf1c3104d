/- Walk: a call within the layers of a part in a box (through), over an environment. -/
import Derived.Test.YtimickglpboilaaGreatDoorF14
import Derived.Test.YtimickglpboilaaGreatDoorF21
import Derived.Test.YtimickglpboilaaGreatDoorF22
import Derived.Test.YtimickglpboilaaGreatDoorF15
import Derived.Test.YtimickglpboilaaGreatDoorF17
import Derived.Test.YtimickglpboilaaGreatDoorF20
import Derived.Test.YtimickglpboilaaGreatDoorF13
import Derived.Test.YtimickglpboilaaGreatDoorF10
import Derived.WalkKit
import Derived.ProofKit
import Derived.OpenShut
import Derived.ShutString
import Derived.ChangeOld
import Derived.Below
import Derived.Deep.Slices
import Derived.Test.YtimickglpboilaaGreatDoorTie
import Derived.Test.YtimickglpboilaaGreatDoorCards
import Derived.HandedShaped
import Derived.LaidLaws
import Derived.Lib.LaidTab
import Derived.Stop.LaidErr
import Derived.Shelf.Vars
import Derived.SevenTiedAt
import Derived.Test.YtimickglpboilaaGreatDoorF12
import Derived.ChangeVars
import Derived.Test.YtimickglpboilaaGreatDoorRows
import Derived.JoinedOf
import Derived.KernelRfl
import Derived.Test.YtimickglpboilaaGreatDoorF0
set_option linter.unusedVariables false
set_option linter.unusedSimpArgs false
set_option linter.unusedSectionVars false
set_option maxRecDepth 100000
namespace Go.Proofs.YtimickglpboilaaGreatDoor
section
open Go.RowKit Go
variable [GC]
set_option maxHeartbeats 4000000 in
theorem ado{k:Nat}(IH:xa k):xa (k+1):=by
  intro K w g S2 p x h hx hk
  have hkl:k<p.af.length:=by omega
  obtain ⟨b,o,cap,ye, -, -, -, -, -, -, -⟩:=h.ly.at (i:=k) (by rw [oz];exact hkl)
  rw [oz] at ye
  subst ye
  have hgl:=h.uY
  have H:=Lib.hid h
  have HX:=hx
  have hw:cP .sub .i64 ((k+1:Nat):Int) 1=(k:Int):=by
    obtain ⟨a,cap,_,h1,h2⟩:=h.ly.ou
    rw [oz] at h1
    unfold maxLen at h2
    rw [kA (by omega) (by omega)];omega
  have HW:=show Below w.heap.size w ((((w.alloc (.cells #[PQ g] 73)).alloc (.cells #[.int .i64 ((k+1:Nat):Int)] 3)).alloc (.cells #[.string x.method,.string x.key,.int .i64 x.val,.string x.text] 43)).alloc (.cells aC 39)) by go_grown
  have hnk: ∀i,¬K (w.heap.size+i):=fun i hk=>by have:=(H.out.kb _ hk).2;omega
  have L:=show Loc w g k x K ((((w.alloc (.cells #[PQ g] 73)).alloc (.cells #[.int .i64 ((k+1:Nat):Int)] 3)).alloc (.cells #[.string x.method,.string x.key,.int .i64 x.val,.string x.text] 43)).alloc (.cells aC 39)) from
    ⟨(((ai.new w _ _).alloc _).alloc _).alloc _,
     by have:=(ai.new (w.alloc (.cells #[PQ g] 73)) 3 #[.int .i64 ((k+1:Nat):Int)]);simp only [World.size_alloc] at this;exact (this.alloc _).alloc _,
     by have:=(ai.new ((w.alloc (.cells #[PQ g] 73)).alloc (.cells #[.int .i64 ((k+1:Nat):Int)] 3)) 43 #[.string x.method,.string x.key,.int .i64 x.val,.string x.text]);simp only [World.size_alloc] at this;exact this.alloc _,
     by have:=(ai.new (((w.alloc (.cells #[PQ g] 73)).alloc (.cells #[.int .i64 ((k+1:Nat):Int)] 3)).alloc (.cells #[.string x.method,.string x.key,.int .i64 x.val,.string x.text] 43)) 39 aC);simp only [World.size_alloc] at this;exact this,
     hnk 0,hnk 1,hnk 2,hnk 3⟩
  have HS:=(St.start H.out).below HW
  refine pT (E:=[(0,PQ g),(1,.int .i64 ((k+1:Nat):Int)),(2,cm x)]) Tryz.func41 rfl Tryz.ntmps41 (by simp) (by simp) ?_
  refine CW.seq (CW.region ?_)
  refine WL.vv rfl rfl (ju rfl rfl) (by decide) ?_
  refine WL.vv rfl rfl (ju rfl rfl) (by decide) ?_
  refine WL.vv rfl rfl (ju rfl rfl) (by decide) ?_
  refine WL.vv rfl rfl (bp rfl dr) (by decide) ?_
  refine WL.nil (NX.next ?_)
  show CW _ Tryz.prog _ _ _ ((((w.alloc (.cells #[PQ g] 73)).alloc (.cells #[.int .i64 ((k+1:Nat):Int)] 3)).alloc (.cells #[.string x.method,.string x.key,.int .i64 x.val,.string x.text] 43)).alloc (.cells aC 39))
  refine CW.sub (E':=[(3,PQ (w.heap.size)),(4,PQ (w.heap.size+1)),(5,PQ (w.heap.size+1+1)),(6,PQ (w.heap.size+1+1+1))]) ⟨rfl,by simp only [World.size_alloc];rfl,by simp only [World.size_alloc];rfl,by simp only [World.size_alloc];rfl,trivial⟩ ?_
  generalize ((((w.alloc (.cells #[PQ g] 73)).alloc (.cells #[.int .i64 ((k+1:Nat):Int)] 3)).alloc (.cells #[.string x.method,.string x.key,.int .i64 x.val,.string x.text] 43)).alloc (.cells aC 39))=wa at HW L HS ⊢
  clear HW hnk
  obtain ⟨l0,l1,y0,y1,y2,y3⟩:=L.cells
  obtain ⟨S1,a,n1,Wd, -, -, -, -, -, -, -, -, -,c5, -, -, -⟩:=HS.pb.cells
  refine CW.seq (CW.seq (CW.region ?_))
  refine WL.vv rfl rfl (cz rfl rfl Tryz.underlying3 rfl l1) (by decide) ?_
  refine WL.vv rfl rfl (gQ (b:=false) rfl rfl rfl rfl (by simp [bb];omega)) (by decide) ?_
  refine WL.nil (NX.next (CW.no rfl (CW.skip (NX.next ?_))))
  refine CW.seq (CW.still mo (by kernel_rfl) fun wc hwd cD=> ?_)
  replace l0:=ay cD l0
  replace l1:=ay cD l1
  replace c5:=ay cD c5
  replace L:=L.below cD
  replace HS:=HS.below cD
  clear hwd cD
  refine WS.vv rfl rfl (cz rfl rfl Tryz.underlying73 rfl l0) (by decide) ?_
  refine WS.vv rfl rfl (pd rfl rfl) (by decide) ?_
  refine WS.vv rfl rfl (cY rfl rfl oO) (by decide) ?_
  refine WS.vv rfl rfl (cz rfl rfl Tryz.underlying35 rfl c5) (by decide) ?_
  refine WS.vv rfl rfl (cz rfl rfl Tryz.underlying3 rfl l1) (by decide) ?_
  refine WS.vv rfl rfl (iI rfl rfl rfl rfl hw) (by decide) ?_
  refine WS.vv rfl rfl (oA rfl rfl rfl (by omega) (by omega) tj) (by decide) ?_
  refine WS.vv rfl rfl (cO rfl rfl) (by decide) ?_
  refine WS.fin (NX.next ?_)
  refine CW.sub (E':=[(3,PQ (w.heap.size)),(4,PQ (w.heap.size+1)),(5,PQ (w.heap.size+1+1)),(6,PQ (w.heap.size+1+1+1)),(7,.pointer (some ⟨b,o+k*2,none⟩))]) ⟨rfl,rfl,rfl,rfl,rfl,trivial⟩ ?_
  clear l0 l1 y0 y1 y2 y3 c5
  obtain ⟨l0,l1,y0,y1,y2,y3⟩:=L.cells
  obtain ⟨a0,a1,hfz,hKb,hbg,hct⟩:=HS.pb.lay hkl
  refine CW.seq (CW.region ?_)
  refine WL.vv rfl rfl (abE (ps:= #[PQ (w.heap.size),PQ (w.heap.size+1)]) rfl rfl) (by decide) ?_
  refine WL.vv rfl rfl (cO rfl rfl) (by decide) ?_
  refine WL.nil (NX.next ?_)
  refine CW.seq (CW.region (QB rfl rfl rfl rfl rfl rfl rfl rfl rfl rfl rfl rfl rfl rfl rfl rfl rfl rfl rfl rfl rfl rfl rfl rfl rfl rfl rfl (by decide) rfl (fun _ _ _ _=>rfl) (by decide) Tryz.underlying9 rfl mz y0 ?_))
  intro E1 aR hb1
  refine NX.next (CW.sub (E':=um w b o k x) ⟨(aR 3 (by decide)).trans rfl,(aR 4 (by decide)).trans rfl,(aR 5 (by decide)).trans rfl,(aR 6 (by decide)).trans rfl,(aR 7 (by decide)).trans rfl,(aR 8 (by decide)).trans rfl,hb1.trans (by rw [fR,fR];rfl),trivial⟩ ?_)
  clear aR hb1
  refine CW.seq (CW.block ?_)
  refine CW.seq (CW.region (Ew rfl rfl rfl rfl rfl rfl rfl rfl rfl rfl rfl rfl rfl rfl rfl rfl rfl rfl rfl rfl rfl rfl rfl rfl rfl rfl rfl rfl rfl rfl rfl rfl rfl (by decide) (fun _ _ _ _ _ _=>rfl) (by decide) rfl tD Tryz.underlying9 rfl a0 mz y0 ?_))
  intro E1 aR hb1
  refine NX.next (CW.sub (E':=(36,.bool (decide ((nth p.af k).name=counts)&&decide (x.method=ep)))::um w b o k x) ⟨hb1.trans (by rw [fR,fR];rfl),(aR 3 (by decide)).trans rfl,(aR 4 (by decide)).trans rfl,(aR 5 (by decide)).trans rfl,(aR 6 (by decide)).trans rfl,(aR 7 (by decide)).trans rfl,(aR 8 (by decide)).trans rfl,(aR 9 (by decide)).trans rfl,trivial⟩ ?_)
  clear aR hb1
  by_cases C:(nth p.af k).name=counts/\x.method=ep
  · have hq:(decide ((nth p.af k).name=counts)&&decide (x.method=ep))=true:=by simp [C.1,C.2]
    rw [hq]
    clear hq
    refine CW.yes rfl ?_
    refine CW.seq (CW.region ?_)
    refine WL.vv rfl rfl (bf rfl rfl) (by decide) ?_
    refine WL.vv rfl rfl (pd rfl rfl) (by decide) ?_
    refine WL.vv rfl rfl (cY rfl rfl nU) (by decide) ?_
    refine WL.vv rfl rfl (cz rfl rfl Tryz.underlying3 rfl a1) (by decide) ?_
    refine WL.vv rfl rfl (jv (vs:=[(1,.int .i64 (nth p.af k).count)]) rfl rfl (Co _)) (by decide) ?_
    refine WL.st rfl rfl rfl rfl rfl L.b3 rfl (da _) aZ fun w7 R7 O7=> ?_
    have e:aA (k+1) p x=(p,rep 0 (nth p.af k).count 0 0):=by rw [aA,if_pos C]
    refine WL.nil (NX.next (CW.ret ?_))
    exact NX.fY (NX.ret (NX.mU rfl rfl R7 Tryz.underlying39 rfl aZ (by rw [e];exact (HS.one O7 L.n3 (by omega)).done H.out)))
  have hq:(decide ((nth p.af k).name=counts)&&decide (x.method=ep))=false:=by
    simp only [Bool.and_eq_false_iff,decide_eq_false_iff_not]
    by_cases h1:(nth p.af k).name=counts
    · right;exact fun h2=>C ⟨h1,h2⟩
    · left;exact h1
  have N0:=C
  clear C
  rw [hq]
  clear hq
  refine CW.no rfl ?_
  refine CW.seq (CW.region (QA rfl rfl rfl rfl rfl rfl rfl rfl rfl rfl rfl rfl rfl rfl rfl rfl rfl rfl rfl rfl rfl rfl rfl rfl rfl rfl rfl (by decide) (fun _ _ _ _ _ _=>rfl) (by decide) rfl tD Tryz.underlying9 rfl a0 ?_))
  intro E1 aR hb1
  refine NX.next (CW.sub (E':=(52,.bool (decide ((nth p.af k).name=counts)&&dz x))::um w b o k x) ⟨hb1.trans (by rw [fR];rfl),(aR 3 (by decide)).trans rfl,(aR 4 (by decide)).trans rfl,(aR 5 (by decide)).trans rfl,(aR 6 (by decide)).trans rfl,(aR 7 (by decide)).trans rfl,(aR 8 (by decide)).trans rfl,(aR 9 (by decide)).trans rfl,trivial⟩ ?_)
  clear aR hb1
  by_cases C:(nth p.af k).name=counts/\dz x=true
  · have hq:(decide ((nth p.af k).name=counts)&&dz x)=true:=by simp [C.1,C.2]
    rw [hq]
    clear hq
    refine CW.yes rfl ?_
    obtain ⟨l0,l1,y0,y1,y2,y3⟩:=L.cells
    refine CW.seq (CW.region ?_)
    refine WL.vv rfl rfl (cz rfl rfl Tryz.underlying73 rfl l0) (by decide) ?_
    refine WL.vv rfl rfl (cz rfl rfl Tryz.underlying3 rfl l1) (by decide) ?_
    refine WL.vv rfl rfl (iI rfl rfl rfl rfl hw) (by decide) ?_
    refine WL.vv rfl rfl (bh rfl rfl Tryz.underlying43 rfl L.b2 kG) (by decide) ?_
    refine WL.c rfl rfl (bu (args:= #[PQ g,.int .i64 ((k:Nat):Int),cm x]) xw rfl rfl rfl) (by decide) (IH _ _ _ _ _ _ HS.pb HX (by omega)) ?_
    rintro _ v5 ⟨rfl,ik,eI⟩
    refine ⟨_,rfl,?_⟩
    refine WL.vv rfl rfl (bp rfl dr) (by decide) ?_
    refine WL.st rfl rfl rfl rfl rfl (show ai (v5.alloc (.cells aC 39)) v5.heap.size 39 aC from ai.new v5 _ _) rfl (da _) aZ fun w5 R5 O5=> ?_
    have B5:Below v5.heap.size v5 w5:=uM O5
    have AX:=(HS.call ik eI)
    have LX:=(L.call eI)
    have DP:w.heap.size+4<=v5.heap.size:=by have:=LX.b3.lt;omega
    have lQ: ¬Gr K wc v5 v5.heap.size:=fun hk=>by have:=(AX.pb.kb _ hk).2;omega
    have A5:=AX.below B5
    have L5:=LX.below B5
    clear AX LX B5 O5 ik eI l0 l1 y0 y1 y2 y3
    generalize v5.heap.size=b5 at *
    refine WL.nil (NX.next ?_)
    have hlen:k<(aA k p x).1.af.length:=by rw [zi];exact hkl
    obtain ⟨a0,a1,hfz,xW,XR,hct⟩:=A5.pb.lay (k:=k) (by first|exact hkl|assumption)
    refine CW.seq (CW.region ?_)
    refine WL.vv rfl rfl (bf rfl rfl) (by decide) ?_
    refine WL.vv rfl rfl (bf rfl rfl) (by decide) ?_
    refine WL.vv rfl rfl (pd rfl rfl) (by decide) ?_
    refine WL.vv rfl rfl (cY rfl rfl nU) (by decide) ?_
    refine WL.vv rfl rfl (cz rfl rfl Tryz.underlying3 rfl a1) (by decide) ?_
    refine WL.c rfl rfl (bu (args:= #[.int .i64 (nth (aA k p x).1.af k).count]) Kr rfl rfl rfl) (by decide) (Cb A5.pb (nth (aA k p x).1.af k).count hct) ?_
    rintro _ w6 ⟨rfl,dZ,GV⟩
    refine ⟨_,rfl,?_⟩
    have A6:=A5.below dZ
    have L6:=L5.below dZ
    have R6:=R5.below dZ R5.lt
    clear a0 a1 hfz
    obtain ⟨a0,a1,hfz, -, -, -⟩:=A6.pb.lay (k:=k) (by first|exact hkl|assumption)
    refine WL.vv rfl rfl (pd rfl rfl) (by decide) ?_
    refine WL.vv rfl rfl (cY rfl rfl nU) (by decide) ?_
    refine WL.s rfl rfl (y8 rfl rfl rfl yO rfl a1 (hfz _)) ?_
    have A7:=A6.put (a:=⟨b,o+k*2+1,none⟩) xW (A6.pb.Pj (i:=k) (by first|exact hkl|assumption) GV)
    have L7:=L6.mine (a:=⟨b,o+k*2+1,none⟩) (.int .i64 (bU (nth (aA k p x).1.af k).count)) xW
    have XO:b5≠b:=fun e=>lQ (by rw [e];exact xW)
    have R7:=R6.far (p:=⟨b,o+k*2+1,none⟩) XO (.int .i64 (bU (nth (aA k p x).1.af k).count))
    refine WL.nil (NX.next ?_)
    refine CW.seq (CW.region ?_)
    refine WL.vv rfl rfl (bh rfl rfl Tryz.underlying39 rfl R7 aZ) (by decide) ?_
    refine WL.st rfl rfl rfl rfl rfl L7.b3 rfl (da _) aZ fun w8 R8 O8=> ?_
    have e:aA (k+1) p x=(bump (aA k p x).1 k,(aA k p x).2):=by rw [aA,if_neg N0,if_pos C]
    refine WL.nil (NX.next (CW.ret ?_))
    exact NX.fY (NX.ret (NX.mU rfl rfl R8 Tryz.underlying39 rfl aZ (by rw [e];exact (A7.one O8 L7.n3 (by omega)).done H.out)))
  have hq:(decide ((nth p.af k).name=counts)&&dz x)=false:=by
    simp only [Bool.and_eq_false_iff,decide_eq_false_iff_not]
    by_cases h1:(nth p.af k).name=counts
    · right;simpa [h1] using C
    · left;exact h1
  have N1:=C
  clear C
  rw [hq]
  clear hq
  refine CW.no rfl ?_
  refine CW.seq (CW.region (QA rfl rfl rfl rfl rfl rfl rfl rfl rfl rfl rfl rfl rfl rfl rfl rfl rfl rfl rfl rfl rfl rfl rfl rfl rfl rfl rfl (by decide) (fun _ _ _ _ _ _=>rfl) (by decide) rfl tD Tryz.underlying9 rfl a0 ?_))
  intro E1 aR hb1
  refine NX.next (CW.sub (E':=(75,.bool (decide ((nth p.af k).name=jY)&&dz x))::um w b o k x) ⟨hb1.trans (by rw [fR];rfl),(aR 3 (by decide)).trans rfl,(aR 4 (by decide)).trans rfl,(aR 5 (by decide)).trans rfl,(aR 6 (by decide)).trans rfl,(aR 7 (by decide)).trans rfl,(aR 8 (by decide)).trans rfl,(aR 9 (by decide)).trans rfl,trivial⟩ ?_)
  clear aR hb1
  by_cases C:(nth p.af k).name=jY/\dz x=true
  · have hq:(decide ((nth p.af k).name=jY)&&dz x)=true:=by simp [C.1,C.2]
    rw [hq]
    clear hq
    refine CW.yes rfl ?_
    obtain ⟨l0,l1,y0,y1,y2,y3⟩:=L.cells
    refine CW.seq (CW.region ?_)
    refine WL.vv rfl rfl (cz rfl rfl Tryz.underlying73 rfl l0) (by decide) ?_
    refine WL.vv rfl rfl (cz rfl rfl Tryz.underlying3 rfl l1) (by decide) ?_
    refine WL.vv rfl rfl (iI rfl rfl rfl rfl hw) (by decide) ?_
    refine WL.vv rfl rfl (bh rfl rfl Tryz.underlying43 rfl L.b2 kG) (by decide) ?_
    refine WL.c rfl rfl (bu (args:= #[PQ g,.int .i64 ((k:Nat):Int),cm x]) xw rfl rfl rfl) (by decide) (IH _ _ _ _ _ _ HS.pb HX (by omega)) ?_
    rintro _ v5 ⟨rfl,ik,eI⟩
    refine ⟨_,rfl,?_⟩
    refine WL.vv rfl rfl (bp rfl dr) (by decide) ?_
    refine WL.st rfl rfl rfl rfl rfl (show ai (v5.alloc (.cells aC 39)) v5.heap.size 39 aC from ai.new v5 _ _) rfl (da _) aZ fun w5 R5 O5=> ?_
    have B5:Below v5.heap.size v5 w5:=uM O5
    have AX:=(HS.call ik eI)
    have LX:=(L.call eI)
    have DP:w.heap.size+4<=v5.heap.size:=by have:=LX.b3.lt;omega
    have lQ: ¬Gr K wc v5 v5.heap.size:=fun hk=>by have:=(AX.pb.kb _ hk).2;omega
    have A5:=AX.below B5
    have L5:=LX.below B5
    clear AX LX B5 O5 ik eI l0 l1 y0 y1 y2 y3
    generalize v5.heap.size=b5 at *
    refine WL.nil (NX.next ?_)
    obtain ⟨r0,r1,r2,r3,r4,rf⟩:=R5.rep
    refine CW.seq (CW.seq (CW.region ?_))
    refine WL.vv rfl rfl (cY rfl rfl xO) (by decide) ?_
    refine WL.vv rfl rfl (cz rfl rfl Tryz.underlying3 rfl r0) (by decide) ?_
    by_cases h2:(aA k p x).2.code=2
    · refine WL.vv rfl rfl (gQ (b:=true) rfl rfl rfl rfl (by simp [bb,h2])) (by decide) ?_
      refine WL.nil (NX.next (CW.yes rfl ?_))
      refine CW.seq (CW.region ?_)
      obtain ⟨l0,l1,y0,y1,y2,y3⟩:=L5.cells
      refine WL.vv rfl rfl (bf rfl rfl) (by decide) ?_
      refine WL.c rfl rfl (BB (args:= #[.string mStart]) zQ rfl rfl rfl rfl) (by decide) (BL IH A5.pb (by rw [zi];omega) (m:=mStart) (by decide) l0 l1) ?_
      rintro _ w6 ⟨rfl,AK,tN⟩
      refine ⟨_,rfl,?_⟩
      have A6:=A5.call AK tN
      have L6:=L5.call tN
      clear l0 l1 y0 y1 y2 y3
      have R6:=R5.bY tN lQ
      have MR: ¬Gr (Gr K wc v5) w5 w6 b5:=by rintro (q|q);exact lQ q;have:=R5.lt;omega
      clear AK tN
      refine WL.nil (NX.next ?_)
      obtain ⟨l0,l1,y0,y1,y2,y3⟩:=L6.cells
      refine CW.region ?_
      refine WL.vv rfl rfl (cz rfl rfl Tryz.underlying73 rfl l0) (by decide) ?_
      refine WL.vv rfl rfl (cz rfl rfl Tryz.underlying3 rfl l1) (by decide) ?_
      refine WL.vv rfl rfl (iI rfl rfl rfl rfl hw) (by decide) ?_
      refine WL.vv rfl rfl (bh rfl rfl Tryz.underlying43 rfl L6.b2 kG) (by decide) ?_
      refine WL.c rfl rfl (bu (args:= #[PQ g,.int .i64 ((k:Nat):Int),cm x]) xw rfl rfl rfl) (by decide) (IH _ _ _ _ _ _ A6.pb HX (by rw [zi,zi];omega)) ?_
      rintro _ w7 ⟨rfl,DE,nB⟩
      refine ⟨_,rfl,?_⟩
      have A7:=A6.call DE nB
      have L7:=L6.call nB
      have R7:=R6.bY nB MR
      have Yd: ¬Gr (Gr (Gr K wc v5) w5 w6) w6 w7 b5:=by rintro (q|q);exact MR q;have:=R6.lt;omega
      clear DE nB
      refine WL.st rfl rfl rfl rfl rfl R7 rfl (da _) aZ fun w8 R8 O8=> ?_
      have A8:=A7.one O8 Yd (by omega)
      have L8:=L7.one O8 DP
      refine WL.nil (NX.next ?_)
      refine CW.seq (CW.region ?_)
      refine WL.vv rfl rfl (bh rfl rfl Tryz.underlying39 rfl R8 aZ) (by decide) ?_
      refine WL.st rfl rfl rfl rfl rfl L8.b3 rfl (da _) aZ fun w9 R9 O9=> ?_
      have e:aA (k+1) p x=((aA k (aA k (aA k p x).1 (br mStart)).1 x).1,(aA k (aA k (aA k p x).1 (br mStart)).1 x).2):=by rw [aA,if_neg N0,if_neg N1,if_pos C,if_pos h2]
      refine WL.nil (NX.next (CW.ret ?_))
      exact NX.fY (NX.ret (NX.mU rfl rfl R9 Tryz.underlying39 rfl aZ (by rw [e];exact (A8.one O9 L8.n3 (by omega)).done H.out)))
    · refine WL.vv rfl rfl (gQ (b:=false) rfl rfl rfl rfl (by simp [bb,h2])) (by decide) ?_
      refine WL.nil (NX.next (CW.no rfl (CW.skip (NX.next ?_))))
      refine CW.seq (CW.region ?_)
      refine WL.vv rfl rfl (bh rfl rfl Tryz.underlying39 rfl R5 aZ) (by decide) ?_
      refine WL.st rfl rfl rfl rfl rfl L5.b3 rfl (da _) aZ fun w9 R9 O9=> ?_
      have e:aA (k+1) p x=((aA k p x).1,(aA k p x).2):=by rw [aA,if_neg N0,if_neg N1,if_pos C,if_neg h2]
      refine WL.nil (NX.next (CW.ret ?_))
      exact NX.fY (NX.ret (NX.mU rfl rfl R9 Tryz.underlying39 rfl aZ (by rw [e];exact (A5.one O9 L5.n3 (by omega)).done H.out)))
  have hq:(decide ((nth p.af k).name=jY)&&dz x)=false:=by
    simp only [Bool.and_eq_false_iff,decide_eq_false_iff_not]
    by_cases h1:(nth p.af k).name=jY
    · right;simpa [h1] using C
    · left;exact h1
  have N2:=C
  clear C
  rw [hq]
  clear hq
  refine CW.no rfl ?_
  refine CW.seq (CW.region (Ew rfl rfl rfl rfl rfl rfl rfl rfl rfl rfl rfl rfl rfl rfl rfl rfl rfl rfl rfl rfl rfl rfl rfl rfl rfl rfl rfl rfl rfl rfl rfl rfl rfl (by decide) (fun _ _ _ _ _ _=>rfl) (by decide) rfl tD Tryz.underlying9 rfl a0 mz y0 ?_))
  intro E1 aR hb1
  refine NX.next (CW.sub (E':=(100,.bool (decide ((nth p.af k).name=lC)&&decide (x.method=fw)))::um w b o k x) ⟨hb1.trans (by rw [fR,fR];rfl),(aR 3 (by decide)).trans rfl,(aR 4 (by decide)).trans rfl,(aR 5 (by decide)).trans rfl,(aR 6 (by decide)).trans rfl,(aR 7 (by decide)).trans rfl,(aR 8 (by decide)).trans rfl,(aR 9 (by decide)).trans rfl,trivial⟩ ?_)
  clear aR hb1
  by_cases C:(nth p.af k).name=lC/\x.method=fw
  · have hq:(decide ((nth p.af k).name=lC)&&decide (x.method=fw))=true:=by simp [C.1,C.2]
    rw [hq]
    clear hq
    refine CW.yes rfl ?_
    refine CW.seq (CW.region ?_)
    refine WL.vv rfl rfl (jv (vs:=[(0,.int .i64 6)]) rfl rfl (xu _)) (by decide) ?_
    refine WL.st rfl rfl rfl rfl rfl L.b3 rfl (da _) aZ fun w7 R7 O7=> ?_
    have e:aA (k+1) p x=(p,rep 6 0 0 0):=by rw [aA,if_neg N0,if_neg N1,if_neg N2,if_pos C]
    refine WL.nil (NX.next (CW.ret ?_))
    exact NX.fY (NX.ret (NX.mU rfl rfl R7 Tryz.underlying39 rfl aZ (by rw [e];exact (HS.one O7 L.n3 (by omega)).done H.out)))
  have hq:(decide ((nth p.af k).name=lC)&&decide (x.method=fw))=false:=by
    simp only [Bool.and_eq_false_iff,decide_eq_false_iff_not]
    by_cases h1:(nth p.af k).name=lC
    · right;exact fun h2=>C ⟨h1,h2⟩
    · left;exact h1
  have N3:=C
  clear C
  rw [hq]
  clear hq
  refine CW.no rfl ?_
  refine CW.seq (CW.region (Ew rfl rfl rfl rfl rfl rfl rfl rfl rfl rfl rfl rfl rfl rfl rfl rfl rfl rfl rfl rfl rfl rfl rfl rfl rfl rfl rfl rfl rfl rfl rfl rfl rfl (by decide) (fun _ _ _ _ _ _=>rfl) (by decide) rfl tD Tryz.underlying9 rfl a0 mz y0 ?_))
  intro E1 aR hb1
  refine NX.next (CW.sub (E':=(112,.bool (decide ((nth p.af k).name=gP)&&decide (x.method=fe)))::um w b o k x) ⟨hb1.trans (by rw [fR,fR];rfl),(aR 3 (by decide)).trans rfl,(aR 4 (by decide)).trans rfl,(aR 5 (by decide)).trans rfl,(aR 6 (by decide)).trans rfl,(aR 7 (by decide)).trans rfl,(aR 8 (by decide)).trans rfl,(aR 9 (by decide)).trans rfl,trivial⟩ ?_)
  clear aR hb1
  by_cases C:(nth p.af k).name=gP/\x.method=fe
  · have hq:(decide ((nth p.af k).name=gP)&&decide (x.method=fe))=true:=by simp [C.1,C.2]
    rw [hq]
    clear hq
    refine CW.yes rfl ?_
    obtain ⟨a0,a1,hfz,xW,XR,hct⟩:=HS.pb.lay (k:=k) (by first|exact hkl|assumption)
    refine CW.seq (CW.region ?_)
    refine WL.vv rfl rfl (bf rfl rfl) (by decide) ?_
    refine WL.vv rfl rfl (bf rfl rfl) (by decide) ?_
    refine WL.vv rfl rfl (pd rfl rfl) (by decide) ?_
    refine WL.vv rfl rfl (cY rfl rfl nU) (by decide) ?_
    refine WL.vv rfl rfl (cz rfl rfl Tryz.underlying3 rfl a1) (by decide) ?_
    refine WL.c rfl rfl (bu (args:= #[.int .i64 (nth p.af k).count]) Kr rfl rfl rfl) (by decide) (Cb HS.pb (nth p.af k).count hct) ?_
    rintro _ w6 ⟨rfl,dZ,GV⟩
    refine ⟨_,rfl,?_⟩
    have A6:=HS.below dZ
    have L6:=L.below dZ
    clear a0 a1 hfz
    obtain ⟨a0,a1,hfz, -, -, -⟩:=A6.pb.lay (k:=k) (by first|exact hkl|assumption)
    refine WL.vv rfl rfl (pd rfl rfl) (by decide) ?_
    refine WL.vv rfl rfl (cY rfl rfl nU) (by decide) ?_
    refine WL.s rfl rfl (y8 rfl rfl rfl yO rfl a1 (hfz _)) ?_
    have A7:=A6.put (a:=⟨b,o+k*2+1,none⟩) xW (A6.pb.Pj (i:=k) (by first|exact hkl|assumption) GV)
    have L7:=L6.mine (a:=⟨b,o+k*2+1,none⟩) (.int .i64 (bU (nth p.af k).count)) xW
    refine WL.nil (NX.next ?_)
    clear l0 l1 y0 y1 y2 y3
    obtain ⟨l0,l1,y0,y1,y2,y3⟩:=L7.cells
    refine CW.seq (CW.seq (CW.region ?_))
    refine WL.vv rfl rfl (cY rfl rfl Db) (by decide) ?_
    refine WL.vv rfl rfl (cz rfl rfl Tryz.underlying3 rfl y2) (by decide) ?_
    refine WL.nil (NX.next (CW.block ?_))
    refine CW.seq (CW.region ?_)
    by_cases h0:x.val=0
    · refine WL.vv rfl rfl (gQ (b:=true) rfl rfl rfl rfl (by simp [bb,h0])) (by decide) ?_
      refine WL.vv rfl rfl (cO rfl rfl) (by decide) ?_
      refine WL.nil (NX.next (CW.yes rfl ?_))
      refine CW.seq (CW.region ?_)
      obtain ⟨l0,l1,y0,y1,y2,y3⟩:=L7.cells
      refine WL.vv rfl rfl (bf rfl rfl) (by decide) ?_
      refine WL.c rfl rfl (BB (args:= #[.string cj]) zQ rfl rfl rfl rfl) (by decide) (BL IH A7.pb (by rw [List.length_set];omega) (m:=cj) (by decide) l0 l1) ?_
      rintro _ w8 ⟨rfl,AL,vo⟩
      refine ⟨_,rfl,?_⟩
      have A8:=A7.call AL vo
      have L8:=L7.call vo
      clear l0 l1 y0 y1 y2 y3
      clear AL vo
      refine WL.st rfl rfl rfl rfl rfl L8.b3 rfl (da _) aZ fun w9 R9 O9=> ?_
      have e:aA (k+1) p x=((aA k (bump p k) (br cj)).1,(aA k (bump p k) (br cj)).2):=by rw [aA,if_neg N0,if_neg N1,if_neg N2,if_neg N3,if_pos C,if_pos h0]
      refine WL.nil (NX.next (CW.ret ?_))
      exact NX.fY (NX.ret (NX.fY (NX.ret (NX.mU rfl rfl R9 Tryz.underlying39 rfl aZ (by rw [e];exact (A8.one O9 L8.n3 (by omega)).done H.out)))))
    refine WL.vv rfl rfl (gQ (b:=false) rfl rfl rfl rfl (by simp [bb,h0])) (by decide) ?_
    refine WL.vv rfl rfl (cO rfl rfl) (by decide) ?_
    refine WL.nil (NX.next (CW.no rfl ?_))
    refine CW.seq (CW.region ?_)
    by_cases h1:x.val=1
    · refine WL.vv rfl rfl (gQ (b:=true) rfl rfl rfl rfl (by simp [bb,h1])) (by decide) ?_
      refine WL.vv rfl rfl (cO rfl rfl) (by decide) ?_
      refine WL.nil (NX.next (CW.yes rfl ?_))
      refine CW.seq (CW.region ?_)
      obtain ⟨l0,l1,y0,y1,y2,y3⟩:=L7.cells
      refine WL.vv rfl rfl (bf rfl rfl) (by decide) ?_
      refine WL.c rfl rfl (BB (args:= #[.string mStart]) zQ rfl rfl rfl rfl) (by decide) (BL IH A7.pb (by rw [List.length_set];omega) (m:=mStart) (by decide) l0 l1) ?_
      rintro _ w8 ⟨rfl,AL,vo⟩
      refine ⟨_,rfl,?_⟩
      have A8:=A7.call AL vo
      have L8:=L7.call vo
      clear l0 l1 y0 y1 y2 y3
      clear AL vo
      refine WL.st rfl rfl rfl rfl rfl L8.b3 rfl (da _) aZ fun w9 R9 O9=> ?_
      have e:aA (k+1) p x=((aA k (bump p k) (br mStart)).1,(aA k (bump p k) (br mStart)).2):=by rw [aA,if_neg N0,if_neg N1,if_neg N2,if_neg N3,if_pos C,if_neg h0,if_pos h1]
      refine WL.nil (NX.next (CW.ret ?_))
      exact NX.fY (NX.ret (NX.fY (NX.ret (NX.mU rfl rfl R9 Tryz.underlying39 rfl aZ (by rw [e];exact (A8.one O9 L8.n3 (by omega)).done H.out)))))
    refine WL.vv rfl rfl (gQ (b:=false) rfl rfl rfl rfl (by simp [bb,h1])) (by decide) ?_
    refine WL.vv rfl rfl (cO rfl rfl) (by decide) ?_
    refine WL.nil (NX.next (CW.no rfl (CW.skip (NX.Ib (NX.next ?_)))))
    clear a0 a1 hfz
    have u7:nth (bump p k).af k=⟨(nth p.af k).name,bU (nth p.af k).count⟩:=by rw [J7 hkl,if_pos rfl]
    obtain ⟨a0,a1,hfz, -, -, -⟩:=A7.pb.lay (k:=k) (by rw [List.length_set];exact hkl)
    change World.cell? _ _=some (.int .i64 (nth (bump p k).af k).count) at a1
    rw [u7] at a1
    refine CW.seq (CW.region ?_)
    refine WL.vv rfl rfl (bf rfl rfl) (by decide) ?_
    refine WL.vv rfl rfl (pd rfl rfl) (by decide) ?_
    refine WL.vv rfl rfl (cY rfl rfl nU) (by decide) ?_
    refine WL.vv rfl rfl (cz rfl rfl Tryz.underlying3 rfl a1) (by decide) ?_
    refine WL.vv rfl rfl (jv (vs:=[(1,.int .i64 (bU (nth p.af k).count))]) rfl rfl (Co _)) (by decide) ?_
    refine WL.st rfl rfl rfl rfl rfl L7.b3 rfl (da _) aZ fun w9 R9 O9=> ?_
    have e:aA (k+1) p x=(bump p k,rep 0 (bU (nth p.af k).count) 0 0):=by rw [aA,if_neg N0,if_neg N1,if_neg N2,if_neg N3,if_pos C,if_neg h0,if_neg h1,u7]
    refine WL.nil (NX.next (CW.ret ?_))
    exact NX.fY (NX.ret (NX.mU rfl rfl R9 Tryz.underlying39 rfl aZ (by rw [e];exact (A7.one O9 L7.n3 (by omega)).done H.out)))
  have hq:(decide ((nth p.af k).name=gP)&&decide (x.method=fe))=false:=by
    simp only [Bool.and_eq_false_iff,decide_eq_false_iff_not]
    by_cases h1:(nth p.af k).name=gP
    · right;exact fun h2=>C ⟨h1,h2⟩
    · left;exact h1
  have N4:=C
  clear C
  rw [hq]
  clear hq
  refine CW.no rfl ?_
  refine CW.seq (CW.region (Ew rfl rfl rfl rfl rfl rfl rfl rfl rfl rfl rfl rfl rfl rfl rfl rfl rfl rfl rfl rfl rfl rfl rfl rfl rfl rfl rfl rfl rfl rfl rfl rfl rfl (by decide) (fun _ _ _ _ _ _=>rfl) (by decide) rfl tD Tryz.underlying9 rfl a0 mz y0 ?_))
  intro E1 aR hb1
  refine NX.next (CW.sub (E':=(146,.bool (decide ((nth p.af k).name=jK)&&decide (x.method=fc)))::um w b o k x) ⟨hb1.trans (by rw [fR,fR];rfl),(aR 3 (by decide)).trans rfl,(aR 4 (by decide)).trans rfl,(aR 5 (by decide)).trans rfl,(aR 6 (by decide)).trans rfl,(aR 7 (by decide)).trans rfl,(aR 8 (by decide)).trans rfl,(aR 9 (by decide)).trans rfl,trivial⟩ ?_)
  clear aR hb1
  by_cases C:(nth p.af k).name=jK/\x.method=fc
  · have hq:(decide ((nth p.af k).name=jK)&&decide (x.method=fc))=true:=by simp [C.1,C.2]
    rw [hq]
    clear hq
    refine CW.yes rfl ?_
    refine CW.seq (CW.region ?_)
    obtain ⟨l0,l1,y0,y1,y2,y3⟩:=L.cells
    refine WL.vv rfl rfl (bf rfl rfl) (by decide) ?_
    refine WL.c rfl rfl (BB (args:= #[.string cj]) zQ rfl rfl rfl rfl) (by decide) (BL IH HS.pb (by omega) (m:=cj) (by decide) l0 l1) ?_
    rintro _ w5 ⟨rfl,ik,eI⟩
    refine ⟨_,rfl,?_⟩
    have A5:=HS.call ik eI
    have L5:=L.call eI
    clear l0 l1 y0 y1 y2 y3
    clear ik eI
    refine WL.nil (NX.next ?_)
    refine CW.seq (CW.region ?_)
    obtain ⟨l0,l1,y0,y1,y2,y3⟩:=L5.cells
    refine WL.vv rfl rfl (bf rfl rfl) (by decide) ?_
    refine WL.c rfl rfl (BB (args:= #[.string mStart]) zQ rfl rfl rfl rfl) (by decide) (BL IH A5.pb (by rw [zi];omega) (m:=mStart) (by decide) l0 l1) ?_
    rintro _ w6 ⟨rfl,AK,tN⟩
    refine ⟨_,rfl,?_⟩
    have A6:=A5.call AK tN
    have L6:=L5.call tN
    clear l0 l1 y0 y1 y2 y3
    clear AK tN
    refine WL.st rfl rfl rfl rfl rfl L6.b3 rfl (da _) aZ fun w9 R9 O9=> ?_
    have e:aA (k+1) p x=((aA k (aA k p (br cj)).1 (br mStart)).1,(aA k (aA k p (br cj)).1 (br mStart)).2):=by rw [aA,if_neg N0,if_neg N1,if_neg N2,if_neg N3,if_neg N4,if_pos C]
    refine WL.nil (NX.next (CW.ret ?_))
    exact NX.fY (NX.ret (NX.mU rfl rfl R9 Tryz.underlying39 rfl aZ (by rw [e];exact (A6.one O9 L6.n3 (by omega)).done H.out)))
  have hq:(decide ((nth p.af k).name=jK)&&decide (x.method=fc))=false:=by
    simp only [Bool.and_eq_false_iff,decide_eq_false_iff_not]
    by_cases h1:(nth p.af k).name=jK
    · right;exact fun h2=>C ⟨h1,h2⟩
    · left;exact h1
  have N5:=C
  clear C
  rw [hq]
  clear hq
  refine CW.no rfl ?_
  refine CW.seq (CW.region ?_)
  refine WL.vv rfl rfl (bf rfl rfl) (by decide) ?_
  refine WL.vv rfl rfl (pd rfl rfl) (by decide) ?_
  refine WL.vv rfl rfl (cY rfl rfl tD) (by decide) ?_
  refine WL.vv rfl rfl (cz rfl rfl Tryz.underlying9 rfl a0) (by decide) ?_
  refine WL.vv rfl rfl (abC rfl rfl rfl (show _=decide ((nth p.af k).name=jP) from fR _ _)) (by decide) ?_
  refine WL.vv rfl rfl (cO rfl rfl) (by decide) ?_
  refine WL.nil (NX.next (CW.sub (E':=(161,.bool (decide ((nth p.af k).name=jP)))::um w b o k x) ⟨rfl,rfl,rfl,rfl,rfl,rfl,rfl,rfl,trivial⟩ ?_))
  by_cases C:(nth p.af k).name=jP
  · have hq:(decide ((nth p.af k).name=jP))=true:=by simp [C]
    rw [hq]
    clear hq
    refine CW.yes rfl ?_
    obtain ⟨l0,l1,y0,y1,y2,y3⟩:=L.cells
    refine CW.seq (CW.region ?_)
    refine WL.vv rfl rfl (cz rfl rfl Tryz.underlying73 rfl l0) (by decide) ?_
    refine WL.vv rfl rfl (cz rfl rfl Tryz.underlying3 rfl l1) (by decide) ?_
    refine WL.vv rfl rfl (iI rfl rfl rfl rfl hw) (by decide) ?_
    refine WL.vv rfl rfl (bh rfl rfl Tryz.underlying43 rfl L.b2 kG) (by decide) ?_
    refine WL.c rfl rfl (bu (args:= #[PQ g,.int .i64 ((k:Nat):Int),cm x]) xw rfl rfl rfl) (by decide) (IH _ _ _ _ _ _ HS.pb HX (by omega)) ?_
    rintro _ v5 ⟨rfl,ik,eI⟩
    refine ⟨_,rfl,?_⟩
    refine WL.vv rfl rfl (bp rfl dr) (by decide) ?_
    refine WL.st rfl rfl rfl rfl rfl (show ai (v5.alloc (.cells aC 39)) v5.heap.size 39 aC from ai.new v5 _ _) rfl (da _) aZ fun w5 R5 O5=> ?_
    have B5:Below v5.heap.size v5 w5:=uM O5
    have AX:=(HS.call ik eI)
    have LX:=(L.call eI)
    have DP:w.heap.size+4<=v5.heap.size:=by have:=LX.b3.lt;omega
    have lQ: ¬Gr K wc v5 v5.heap.size:=fun hk=>by have:=(AX.pb.kb _ hk).2;omega
    have A5:=AX.below B5
    have L5:=LX.below B5
    clear AX LX B5 O5 ik eI l0 l1 y0 y1 y2 y3
    generalize v5.heap.size=b5 at *
    refine WL.nil (NX.next ?_)
    obtain ⟨r0,r1,r2,r3,r4,rf⟩:=R5.rep
    refine CW.seq (CW.seq (CW.region ?_))
    refine WL.vv rfl rfl (cY rfl rfl xO) (by decide) ?_
    refine WL.vv rfl rfl (cz rfl rfl Tryz.underlying3 rfl r0) (by decide) ?_
    by_cases h2:(aA k p x).2.code=0
    · refine WL.vv rfl rfl (gQ (b:=true) rfl rfl rfl rfl (by simp [bb,h2])) (by decide) ?_
      refine WL.nil (NX.next (CW.yes rfl ?_))
      refine CW.region ?_
      refine WL.vv rfl rfl (cY rfl rfl De) (by decide) ?_
      refine WL.vv rfl rfl (cz rfl rfl Tryz.underlying3 rfl r1) (by decide) ?_
      refine WL.vv rfl rfl (Pm rfl rfl rfl rfl) (by decide) ?_
      refine WL.vv rfl rfl (abD rfl rfl rfl rfl rfl) (by decide) ?_
      refine WL.vv rfl rfl (cY rfl rfl De) (by decide) ?_
      refine WL.s rfl rfl (y8 rfl rfl rfl yO rfl r1 (rf _)) ?_
      have A6:=A5.far (a:=⟨b5,1,none⟩) (.int .i64 (min (cP .mul .i64 2 (aA k p x).2.val) 999)) lQ (show w.heap.size<=b5 by omega)
      have L6:=L5.far (a:=⟨b5,1,none⟩) (.int .i64 (min (cP .mul .i64 2 (aA k p x).2.val) 999)) (.inr DP)
      have R6:=R5.uj 1 (.int .i64 (min (cP .mul .i64 2 (aA k p x).2.val) 999))
      refine WL.nil (NX.next ?_)
      refine CW.seq (CW.region ?_)
      refine WL.vv rfl rfl (bh rfl rfl Tryz.underlying39 rfl R6 aZ) (by decide) ?_
      refine WL.st rfl rfl rfl rfl (cs:=cK ⟨(aA k p x).2.code,min (cP .mul .i64 2 (aA k p x).2.val) 999,(aA k p x).2.text,(aA k p x).2.want,(aA k p x).2.had⟩) rfl L6.b3 rfl (da _) aZ fun w9 R9 O9=> ?_
      have e:aA (k+1) p x=((aA k p x).1,⟨(aA k p x).2.code,min (cP .mul .i64 2 (aA k p x).2.val) 999,(aA k p x).2.text,(aA k p x).2.want,(aA k p x).2.had⟩):=by rw [aA,if_neg N0,if_neg N1,if_neg N2,if_neg N3,if_neg N4,if_neg N5,if_pos C,wO,if_pos h2];rfl
      refine WL.nil (NX.next (CW.ret ?_))
      exact NX.fY (NX.ret (NX.mU rfl rfl R9 Tryz.underlying39 rfl aZ (by rw [e];exact (A6.one O9 L6.n3 (by omega)).done H.out)))
    · refine WL.vv rfl rfl (gQ (b:=false) rfl rfl rfl rfl (by simp [bb,h2])) (by decide) ?_
      refine WL.nil (NX.next (CW.no rfl (CW.skip (NX.next ?_))))
      refine CW.seq (CW.region ?_)
      refine WL.vv rfl rfl (bh rfl rfl Tryz.underlying39 rfl R5 aZ) (by decide) ?_
      refine WL.st rfl rfl rfl rfl rfl L5.b3 rfl (da _) aZ fun w9 R9 O9=> ?_
      have e:aA (k+1) p x=((aA k p x).1,(aA k p x).2):=by rw [aA,if_neg N0,if_neg N1,if_neg N2,if_neg N3,if_neg N4,if_neg N5,if_pos C,wO,if_neg h2]
      refine WL.nil (NX.next (CW.ret ?_))
      exact NX.fY (NX.ret (NX.mU rfl rfl R9 Tryz.underlying39 rfl aZ (by rw [e];exact (A5.one O9 L5.n3 (by omega)).done H.out)))
  have hq:(decide ((nth p.af k).name=jP))=false:=by
    simp only [Bool.and_eq_false_iff,decide_eq_false_iff_not]
    exact C
  have N6:=C
  clear C
  rw [hq]
  clear hq
  refine CW.no rfl ?_
  refine CW.skip (NX.Ib (NX.next ?_))
  refine CW.seq (CW.region ?_)
  refine WL.vv rfl rfl (cz rfl rfl Tryz.underlying73 rfl l0) (by decide) ?_
  refine WL.vv rfl rfl (cz rfl rfl Tryz.underlying3 rfl l1) (by decide) ?_
  refine WL.vv rfl rfl (iI rfl rfl rfl rfl hw) (by decide) ?_
  refine WL.vv rfl rfl (bh rfl rfl Tryz.underlying43 rfl L.b2 kG) (by decide) ?_
  refine WL.c rfl rfl (bu (args:= #[PQ g,.int .i64 ((k:Nat):Int),cm x]) xw rfl rfl rfl) (by decide) (IH _ _ _ _ _ _ HS.pb HX (by omega)) ?_
  rintro _ w5 ⟨rfl,ik,eI⟩
  refine ⟨_,rfl,?_⟩
  have A5:=HS.call ik eI
  have L5:=L.call eI
  refine WL.st rfl rfl rfl rfl rfl L5.b3 rfl (da _) aZ fun w9 R9 O9=> ?_
  have e:aA (k+1) p x=((aA k p x).1,(aA k p x).2):=by rw [aA,if_neg N0,if_neg N1,if_neg N2,if_neg N3,if_neg N4,if_neg N5,if_neg N6]
  refine WL.nil (NX.next (CW.ret ?_))
  exact (NX.mU rfl rfl R9 Tryz.underlying39 rfl aZ (by rw [e];exact (A5.one O9 L5.n3 (by omega)).done H.out))
set_option maxHeartbeats 4000000 in
theorem adp(Di:EP):xa 0:=by
  intro K w g S2 p x h hx hk
  have HW:=show Below w.heap.size w ((((w.alloc (.cells #[PQ g] 73)).alloc (.cells #[.int .i64 ((0:Nat):Int)] 3)).alloc (.cells #[.string x.method,.string x.key,.int .i64 x.val,.string x.text] 43)).alloc (.cells aC 39)) by go_grown
  have hnk: ∀i,¬K (w.heap.size+i):=fun i hk=>by have:=(h.kb _ hk).2;omega
  have b0:=show ai ((((w.alloc (.cells #[PQ g] 73)).alloc (.cells #[.int .i64 ((0:Nat):Int)] 3)).alloc (.cells #[.string x.method,.string x.key,.int .i64 x.val,.string x.text] 43)).alloc (.cells aC 39)) w.heap.size 73 #[PQ g] from (((ai.new w _ _).alloc _).alloc _).alloc _
  have b1:=show ai ((((w.alloc (.cells #[PQ g] 73)).alloc (.cells #[.int .i64 ((0:Nat):Int)] 3)).alloc (.cells #[.string x.method,.string x.key,.int .i64 x.val,.string x.text] 43)).alloc (.cells aC 39)) (w.heap.size+1) 3 #[.int .i64 ((0:Nat):Int)] by
    have:=(ai.new (w.alloc (.cells #[PQ g] 73)) 3 #[.int .i64 ((0:Nat):Int)]);simp only [World.size_alloc] at this;exact (this.alloc _).alloc _
  have b2:=show ai ((((w.alloc (.cells #[PQ g] 73)).alloc (.cells #[.int .i64 ((0:Nat):Int)] 3)).alloc (.cells #[.string x.method,.string x.key,.int .i64 x.val,.string x.text] 43)).alloc (.cells aC 39)) (w.heap.size+1+1) 43 #[.string x.method,.string x.key,.int .i64 x.val,.string x.text] by
    have:=(ai.new ((w.alloc (.cells #[PQ g] 73)).alloc (.cells #[.int .i64 ((0:Nat):Int)] 3)) 43 #[.string x.method,.string x.key,.int .i64 x.val,.string x.text]);simp only [World.size_alloc] at this;exact this.alloc _
  have b3:=show ai ((((w.alloc (.cells #[PQ g] 73)).alloc (.cells #[.int .i64 ((0:Nat):Int)] 3)).alloc (.cells #[.string x.method,.string x.key,.int .i64 x.val,.string x.text] 43)).alloc (.cells aC 39)) (w.heap.size+1+1+1) 39 aC by
    have:=(ai.new (((w.alloc (.cells #[PQ g] 73)).alloc (.cells #[.int .i64 ((0:Nat):Int)] 3)).alloc (.cells #[.string x.method,.string x.key,.int .i64 x.val,.string x.text] 43)) 39 aC);simp only [World.size_alloc] at this;exact this
  have HS:=(St.start h).below HW
  have DA: ¬K (w.heap.size+1+1+1):=hnk 3
  refine pT (E:=[(0,PQ g),(1,.int .i64 ((0:Nat):Int)),(2,cm x)]) Tryz.func41 rfl Tryz.ntmps41 (by simp) (by simp) ?_
  refine CW.seq (CW.region ?_)
  refine WL.vv rfl rfl (ju rfl rfl) (by decide) ?_
  refine WL.vv rfl rfl (ju rfl rfl) (by decide) ?_
  refine WL.vv rfl rfl (ju rfl rfl) (by decide) ?_
  refine WL.vv rfl rfl (bp rfl dr) (by decide) ?_
  refine WL.nil (NX.next ?_)
  show CW _ Tryz.prog _ _ _ ((((w.alloc (.cells #[PQ g] 73)).alloc (.cells #[.int .i64 ((0:Nat):Int)] 3)).alloc (.cells #[.string x.method,.string x.key,.int .i64 x.val,.string x.text] 43)).alloc (.cells aC 39))
  refine CW.sub (E':=[(3,PQ (w.heap.size)),(4,PQ (w.heap.size+1)),(5,PQ (w.heap.size+1+1)),(6,PQ (w.heap.size+1+1+1))]) ⟨rfl,by simp only [World.size_alloc];rfl,by simp only [World.size_alloc];rfl,by simp only [World.size_alloc];rfl,trivial⟩ ?_
  generalize ((((w.alloc (.cells #[PQ g] 73)).alloc (.cells #[.int .i64 ((0:Nat):Int)] 3)).alloc (.cells #[.string x.method,.string x.key,.int .i64 x.val,.string x.text] 43)).alloc (.cells aC 39))=wa at HW b0 b1 b2 b3 HS ⊢
  clear HW hnk
  refine CW.seq (CW.seq (CW.region ?_))
  refine WL.vv rfl rfl (cz rfl rfl Tryz.underlying3 rfl (b1.cell 0)) (by decide) ?_
  refine WL.vv rfl rfl (gQ (b:=true) rfl rfl rfl rfl rfl) (by decide) ?_
  refine WL.nil (NX.next (CW.yes rfl ?_))
  refine CW.seq (CW.tail 4 mo (by kernel_rfl) fun wc hwd cD=> ?_)
  replace b0:=b0.below cD b0.lt
  replace b2:=b2.below cD b2.lt
  replace b3:=b3.below cD b3.lt
  replace HS:=HS.below cD
  refine WS.vv rfl rfl (cz rfl rfl Tryz.underlying73 rfl (b0.cell 0)) (by decide) ?_
  refine WS.vv rfl rfl (pd rfl rfl) (by decide) ?_
  refine WS.vv rfl rfl (cY rfl rfl Dc) (by decide) ?_
  refine WS.vv rfl rfl (bh rfl rfl Tryz.underlying43 rfl b2 kG) (by decide) ?_
  refine WS.go ?_
  refine WL.c rfl rfl (bu (args:= #[PQ g,cm x]) VN rfl rfl rfl) (by decide) (Di _ _ _ _ _ _ HS.pb hx) ?_
  rintro _ w5 ⟨rfl,ik,eI⟩
  refine ⟨_,rfl,?_⟩
  have A5:=HS.call ik eI
  have R5:=b3.bY eI DA
  have n5: ¬Gr K wc w5 (w.heap.size+1+1+1):=fun q=>by rcases q with q|q;exact DA q;have:=b3.lt;omega
  refine WL.st rfl rfl rfl rfl rfl R5 rfl (da _) aZ fun w9 R9 O9=> ?_
  refine WL.nil (NX.next (CW.ret ?_))
  exact NX.ret (NX.mU rfl rfl R9 Tryz.underlying39 rfl aZ ((A5.one O9 n5 (by omega)).done h))
theorem Qu(Di:EP): ∀k,xa k
  | 0=>adp Di
  | k+1=>ado (Qu Di k)
end
section
open Go.RowKit Go
variable [GC]
theorem Wz[mi][nN][pN]:EP:=fun K w g S2 p x h hx=>adl (fun K w g S2 p x h hx=>adn h hx) h hx
theorem Kc[mi][nN][pN](p:Part)(x:Call)(hc:p.core.cells.length<=4294967296)(hl:p.af.length<=4294967296)(hx:x.text.size<4294967281):dw Tryz.prog 10 none [enc p,enc x] (.aE [enc (bq p x).1,enc (bq p x).2]) [] [(3,2),(5,2)] :=
 adk (Qu Wz) p x hc hl hx
end
section
open Go.RowKit Go
variable [GC]
section
variable {n:Nat}{P:Program}{E:List (Nat×Value)}{w w':World}{o:Oper}{v u:Value}
theorem wg{T:TypeId}{x:Operand}{b c:Bool}(ho:o.op= .unOp .not T x)(hx:ev E x=some (.bool b))(hb:(!b)=c):fz n P E o w (.bool c) w:=hb▸v8 ho hx
end
theorem ai.alt{A:Addr->Prop}{w w':World}{b:Nat}{T:TypeId}{cs:Array Value}(h:ai w b T cs)(ha:Alt A w w')(hA: ∀p,A p->p.block≠b):ai w' b T cs:=(ha.blk b h.lt fun p hp hq=>hA p hq hp).trans h
theorem JW{a b c:World}{B:Nat}(h:Below B a b)(k:Below B b c):Below B a c:=h.trans k
def RP(p:Part)(N:Nat->Prop)(W:World)(v:Value):Prop:= ∃T1 T2,v= .agg (aF p T1 T2)/\R W (fun a=>N a.block) (enc p) v
def EV(c:Value)(N:Nat->Prop)(W:World)(v:Value):Prop:=v=c
def RR(r:dW):Prop:= ∀(W:World) (M:Addr->Prop),R W M (enc r) (.agg (cK r))
def RZ(q:Part)(r:dW)(N:Nat->Prop)(W:World)(u:Array Value×Array Value):Prop:= ∃T1 T2,u=(aF q T1 T2,cK r)/\R W (fun a=>N a.block) (enc q) (.agg (aF q T1 T2))/\RR r
def OZ(L:Nat)(q:Part)(r:dW)(N:Nat->Prop)(W:World)(u:Array Value×Array Value):Prop:= ∃T1 T2 lo hi,u=(aF q T1 T2,cK r)/\OP lo hi W T1 T2 q/\L<=lo/\(∀b,N b->b<lo\/hi<=b)/\RR r
theorem Hm{N N':Nat->Prop}{W W':World}{d:D}{v:Value}(h:R W (fun a=>N a.block) d v)(hb:Below W.heap.size W W')(hN: ∀b,N' b->N b\/W.heap.size<=b):R W' (fun a=>N' a.block) d v :=
  R.keep (bo.below hb fun a ha hn=>(hN _ hn).elim id fun h=>by omega) _ _ h
theorem NJ{N:Nat->Prop}{W W':World}{g:Nat}{d:D}{v:Value}(h:R W (fun a=>N a.block) d v)(ho:fD W W' g)(hn:N g):R W' (fun a=>N a.block) d v :=
  R.keep (Ho fun i hi=>ho.block i fun e=>hi (e▸hn)) _ _ h
theorem Ql(p:Part):nQ (RP p) :=
  ⟨fun N N' W W' v ⟨T1,T2,e,h⟩ hb hN=>⟨T1,T2,e,Hm h hb hN⟩,fun N W W' g v ⟨T1,T2,e,h⟩ ho hn=>⟨T1,T2,e,NJ h ho hn⟩⟩
theorem IV(c:Value):nQ (EV c):=⟨fun _ _ _ _ _ h _ _=>h,fun _ _ _ _ _ h _ _=>h⟩
theorem Qm(q:Part)(r:dW):nQ (RZ q r) :=
  ⟨fun N N' W W' v ⟨T1,T2,e,h,hr⟩ hb hN=>⟨T1,T2,e,Hm h hb hN,hr⟩,fun N W W' g v ⟨T1,T2,e,h,hr⟩ ho hn=>⟨T1,T2,e,NJ h ho hn,hr⟩⟩
theorem adb(L:Nat)(q:Part)(r:dW):nQ (OZ L q r) :=
  ⟨fun N N' W W' v ⟨T1,T2,lo,hi,e,h,hl,hn,hr⟩ hb hN=>⟨T1,T2,lo,hi,e,h.below hb,hl,fun b hb'=>(hN b hb').elim (hn b) fun h'=> .inr (by have:=h.le;omega),hr⟩,
   fun N W W' g v ⟨T1,T2,lo,hi,e,h,hl,hn,hr⟩ ho hg=>⟨T1,T2,lo,hi,e,h.keep (fun b h1 h2=>ho.block b fun e=>by rcases hn g hg with h|h<;>omega) (Nat.le_of_eq ho.size.symm),hl,hn,hr⟩⟩
theorem NK.je{wd W:World}{N:Nat->Prop}(h:NK wd N W)(hG:Rd wd):jU W (fun a=>N a.block):=⟨fun a ha=>(h.n _ ha).2,(hG.below h.b).2.1,(hG.below h.b).2.2⟩
theorem NK.read{wd W:World}{N:Nat->Prop}{d:D}{v:Value}(h:NK wd N W)(hv:R wd (fun _=>False) d v):R W (fun a=>N a.block) d v :=
  Hm (N:=fun _=>False) hv h.b fun b hb=> .inr (h.n b hb).1
theorem SV{q:Part}{r:dW}: ∀N W u1 u2,RZ q r N W (u1,u2)->(u1.size=aH.size/\ ∀u∈u1.toList,u.oneCell'=true)/\u2.size=aC.size/\ ∀u∈u2.toList,u.oneCell'=true:=by
  rintro N W u1 u2 ⟨T1,T2,e,h, -⟩
  cases e
  obtain ⟨S1,S2,e,⟨a,n,c,rfl,_⟩,⟨a',n',c',rfl,_⟩,_⟩:=qk h
  cases e
  exact ⟨⟨rfl,vW _⟩,rfl,da _⟩
theorem zOZ{L:Nat}{q:Part}{r:dW}: ∀N W u1 u2,OZ L q r N W (u1,u2)->(u1.size=aH.size/\ ∀u∈u1.toList,u.oneCell'=true)/\u2.size=aC.size/\ ∀u∈u2.toList,u.oneCell'=true:=by
  rintro N W u1 u2 ⟨T1,T2,lo,hi,e,h, -, -, -⟩
  cases e
  obtain ⟨g1,q1⟩:=h.r1
  obtain ⟨g2,q2⟩:=h.r2
  obtain ⟨a,c,e1,_⟩:=q1.ou
  obtain ⟨a',c',e2,_⟩:=q2.ou
  rw [e1,e2]
  exact ⟨⟨rfl,vW _⟩,rfl,da _⟩
section
variable {wd:World}{p q:Part}{x:Call}{r:dW}{v:Value}
theorem SJ(sp:Sm.sm p)(hG:Rd wd)(hv:R wd (fun _=>False) (enc p) v)(N:Nat->Prop)(W:World)(h:NK wd N W):Calls Tryz.prog 8 #[v] W fun e w'=> ∃u,e= .returned u/\RP p N w' u/\Below W.heap.size W w':=by
  refine (aG.calls (Vq p sp) (h.je hG) (vs:=[v]) ⟨_,[],rfl,h.read hv,rfl⟩).mono ?_
  rintro e w' ⟨u,rfl,hu,hb⟩
  obtain ⟨T1,T2,rfl,_⟩:=qk hu
  exact ⟨_,rfl,⟨T1,T2,rfl,hu⟩,hb⟩
theorem Jj(sx:Sm.sm x)(hG:Rd wd)(hx:R wd (fun _=>False) (enc x) (cm x))(N:Nat->Prop)(W:World)(h:NK wd N W):Calls Tryz.prog 9 #[cm x] W fun e w'=> ∃u,e= .returned u/\EV (cm x) N w' u/\Below W.heap.size W w':=by
  refine (aG.calls (Vl x sx) (h.je hG) (vs:=[cm x]) ⟨_,[],rfl,h.read hx,rfl⟩).mono ?_
  rintro e w' ⟨u,rfl,hu,hb⟩
  exact ⟨_,rfl,(Cy hu).1,hb⟩
theorem Cw{W:World}{M:Addr->Prop}(hx:R wd (fun _=>False) (enc x) (cm x)):R W M (enc x) (cm x):=by
  obtain ⟨cs,e,h⟩:=hx
  obtain ⟨v0,r0,e0,h0,v1,r1,e1,h1,v2,r2,e2,h2,v3,r3,e3,h3,e4⟩:=h
  exact ⟨cs,e,v0,r0,e0,h0,v1,r1,e1,h1,v2,r2,e2,h2,v3,r3,e3,h3,e4⟩
theorem Ix{W:World}{M:Addr->Prop}(h:R W M (enc r) (.agg (cK r))):RR r:=fun W' M'=>by
  obtain ⟨cs,e,v0,r0,e0,h0,v1,r1,e1,h1,v2,r2,e2,h2,v3,r3,e3,h3,v4,r4,e4,h4,e5⟩:=h
  exact ⟨cs,e,v0,r0,e0,h0,v1,r1,e1,h1,v2,r2,e2,h2,v3,r3,e3,h3,v4,r4,e4,h4,e5⟩
theorem abN{W:World}{M:Addr->Prop}(h:R W M (enc r) v):v= .agg (cK r):=by
  obtain ⟨cs,rfl,v0,r0,e0,⟨rfl,_⟩,v1,r1,rfl,⟨rfl,_⟩,v2,r2,rfl,⟨rfl,_⟩,v3,r3,rfl,⟨rfl,_⟩,v4,r4,rfl,⟨rfl,_⟩,rfl⟩:=h
  have:cs=cK r:=by rw [<-Array.toList_inj,e0];rfl
  rw [this]
theorem I3{W:World}{M:Addr->Prop}(h:R W M (.aE [enc q,enc r]) v): ∃T1 T2,v= .tuple #[.agg (aF q T1 T2),.agg (cK r)]/\R W M (enc q) (.agg (aF q T1 T2))/\R W M (enc r) (.agg (cK r)):=by
  obtain ⟨cs,rfl,u,l,e,hu,u2,l2,e2,jX,e3⟩:=h
  obtain ⟨T1,T2,rfl,_⟩:=qk hu
  have:=abN jX
  subst this e3 e2
  have:cs= #[.agg (aF q T1 T2),.agg (cK r)]:=by rw [<-Array.toList_inj,e];rfl
  exact ⟨T1,T2,by rw [this],hu,jX⟩
theorem ah0(hc:p.core.cells.length<=4294967296)(hl:p.af.length<=4294967296)(ht:x.text.size<4294967281)(hG:Rd wd)(hx:R wd (fun _=>False) (enc x) (cm x))(N:Nat->Prop)(W:World)(v0 v1:Value)(h:NK wd N W)(h0:RP p N W v0)(h1:EV (cm x) N W v1) :
    Calls Tryz.prog 7 #[v0,v1] W fun e w'=> ∃u1 u2,e= .returned (.tuple #[.agg u1,.agg u2])/\RZ (bq p x).1 (bq p x).2 N w' (u1,u2)/\Below W.heap.size W w':=by
  obtain ⟨T1,T2,rfl,h0⟩:=h0
  have h1:v1=cm x:=h1
  subst h1
  refine (aG.calls (Vt p x hc hl ht) (h.je hG) (vs:=[_,cm x]) ⟨_,_,rfl,h0,_,[],rfl,Cw hx,rfl⟩).mono ?_
  rintro e w' ⟨u,rfl,hu,hb⟩
  obtain ⟨G1,G2,rfl,h2,h3⟩:=I3 hu
  exact ⟨_,_,rfl,⟨G1,G2,rfl,h2,Ix h3⟩,hb⟩
theorem OQ{B:Nat}{W:World}{T1 T2:Value}(h1:R W (fun _=>False) (bg p.core.cells) T1)(h2:R W (fun _=>False) (bg p.af) T2)(l1:r9 B W T1 2)(l2:r9 B W T2 2)(hap:Cc T1 T2)(hks:p.core.kind.size<=maxLen)(hct:IntKind.i64.min<=p.core.count/\p.core.count<=IntKind.i64.max):OP B W.heap.size W T1 T2 p:=by
  have h1':R W (fun _=>False) (.sl ((dc p.core.cells).map j7)) T1:=by rw [vZ];exact h1
  have h2':R W (fun _=>False) (.sl ((fX p.af).map j7)) T2:=by rw [BA];exact h2
  exact ⟨⟨W.heap.size,cB.of (K:=fun b=>B<=b/\b<W.heap.size) (g:=W.heap.size) h1' l1 (fun b h1 h2=>⟨h1,h2⟩) fun b h1 h2=>by omega⟩,⟨W.heap.size,cB.of (K:=fun b=>B<=b/\b<W.heap.size) (g:=W.heap.size) h2' l2 (fun b h1 h2=>⟨h1,h2⟩) fun b h1 h2=>by omega⟩,
    fun b ⟨o,s,len,cap,e,hc⟩ ⟨o',s',len',cap',e',hc'⟩=>hap b o s len cap b o' s' len' cap' e hc e' hc' rfl,hks,hct,Nat.le_refl _⟩
theorem SK(sp:Sm.sm p)(hG:Rd wd)(hv:R wd (fun _=>False) (enc p) v):Calls Tryz.prog 8 #[v] wd fun e w'=> ∃T1 T2,e= .returned (.agg (aF p T1 T2))/\OP wd.heap.size w'.heap.size w' T1 T2 p/\Below wd.heap.size wd w':=by
  refine ((J9 p sp).2 wd (fun _=>False) 0 [v] hG ⟨_,[],rfl,hv,rfl⟩ (fun cs h=>by cases h)).mono ?_
  rintro e w' ⟨u,rfl,hu,hf,ef, -⟩
  obtain ⟨T1,T2,rfl,h1,h2,hks,hct⟩:=qk hu
  exact ⟨T1,T2,rfl,OQ (R.less h1 fun _ h=>h.elim) (R.less h2 fun _ h=>h.elim) (ef.1 (3,2) (by simp)) (ef.1 (5,2) (by simp)) (ef.2 0 1 (3,2) (5,2) rfl rfl (by simp)) hks hct,hf.lF⟩
theorem EJ{W:World}{M1 M2:Addr->Prop}{u1 u2:Value}(hG:Rd W)(h1:R W M1 (enc p) u1)(h2:R W M2 (enc p) u2):Calls Tryz.prog 11 #[u1,u2] W fun e w'=>e= .returned (.bool true)/\Below W.heap.size W w':=by
  refine (aG.calls (Vj p p) hG (vs:=[u1,u2]) ⟨_,_,rfl,R.zero h1,_,[],rfl,R.zero h2,rfl⟩).mono ?_
  rintro e w' ⟨u,rfl,hu,hb⟩
  have hu:u= .bool (decide (p=p)):=hu
  rw [hu]
  exact ⟨by simp,hb⟩
theorem Ji{W:World}(hG:Rd W)(h:RR r):Calls Tryz.prog 12 #[.agg (cK r),.agg (cK r)] W fun e w'=>e= .returned (.bool true)/\Below W.heap.size W w':=by
  refine (aG.calls (Vk r r) hG (vs:=[.agg (cK r),.agg (cK r)]) ⟨_,_,rfl,h _ _,_,[],rfl,h _ _,rfl⟩).mono ?_
  rintro e w' ⟨u,rfl,hu,hb⟩
  have hu:u= .bool (decide (r=r)):=hu
  rw [hu]
  exact ⟨by simp,hb⟩
theorem SG{W:World}{v:Value}(k:Nat)(hG:Rd W)(h:R W (fun _=>False) (Bp p k) v)(hk:k+2*p.core.cells.length+2*p.af.length<=1152921504606846970):Calls Tryz.prog 14 #[v,.int .i64 (k:Int)] W fun e w'=>e= .returned (.int .i64 ((k+2*p.core.cells.length+2*p.af.length:Nat):Int))/\Below W.heap.size W w':=by
  refine (aG.calls (UX p k hk) hG (vs:=[v,.int .i64 (k:Int)]) ⟨_,_,rfl,h,_,[],rfl,Be (by omega) (by omega),rfl⟩).mono ?_
  rintro e w' ⟨u,rfl,hu,hb⟩
  rw [hu.1]
  exact ⟨rfl,hb⟩
variable [mi][nN][pN]
theorem ahY{L:Nat}(hc:p.core.cells.length<=4294967296)(hl:p.af.length<=4294967296)(ht:x.text.size<4294967281)(hG:Rd wd)(hx:R wd (fun _=>False) (enc x) (cm x))(hL:L<=wd.heap.size){T1 T2:Value}(hv:R wd (fun _=>False) (enc p) (.agg (aF p T1 T2)))(N:Nat->Prop)(W:World)(v1:Value)(h:NK wd N W)(h1:EV (cm x) N W v1) :
    Calls Tryz.prog 10 #[.agg (aF p T1 T2),v1] W fun e w'=> ∃u1 u2,e= .returned (.tuple #[.agg u1,.agg u2])/\OZ L (bq p x).1 (bq p x).2 N w' (u1,u2)/\Below W.heap.size W w':=by
  have h1:v1=cm x:=h1
  subst h1
  refine ((Kc p x hc hl ht).2 W (fun a=>N a.block) 0 [.agg (aF p T1 T2),cm x] (h.je hG) ⟨_,_,rfl,h.read hv,_,[],rfl,Cw hx,rfl⟩ (fun cs h=>by cases h)).mono ?_
  rintro e w' ⟨u,rfl,hu,hf,ef, -⟩
  obtain ⟨G1,G2,rfl,h2,h3⟩:=I3 hu
  obtain ⟨S1,S2,e,k1,k2,hks,hct⟩:=qk h2
  cases e
  have hb:=hf.lF
  exact ⟨_,_,rfl,⟨G1,G2,W.heap.size,w'.heap.size,rfl,OQ (R.less k1 fun _ h=>h.elim) (R.less k2 fun _ h=>h.elim) (ef.1 (3,2) (by simp)) (ef.1 (5,2) (by simp)) (ef.2 0 1 (3,2) (5,2) rfl rfl (by simp)) hks hct,Nat.le_trans hL h.b.size,(fun b hb=> .inl (h.n b hb).2),Ix h3⟩,hb⟩
theorem ahX(hc:p.core.cells.length<=4294967296)(hl:p.af.length<=4294967296)(ht:x.text.size<4294967281)(hG:Rd wd)(hx:R wd (fun _=>False) (enc x) (cm x))(N:Nat->Prop)(W:World)(v0 v1:Value)(h:NK wd N W)(h0:RP p N W v0)(h1:EV (cm x) N W v1) :
    Calls Tryz.prog 10 #[v0,v1] W fun e w'=> ∃u1 u2,e= .returned (.tuple #[.agg u1,.agg u2])/\RZ (bq p x).1 (bq p x).2 N w' (u1,u2)/\Below W.heap.size W w':=by
  obtain ⟨T1,T2,rfl,h0⟩:=h0
  have h1:v1=cm x:=h1
  subst h1
  refine (aG.calls (.D6 (Kc p x hc hl ht)) (h.je hG) (vs:=[_,cm x]) ⟨_,_,rfl,h0,_,[],rfl,Cw hx,rfl⟩).mono ?_
  rintro e w' ⟨u,rfl,hu,hb⟩
  obtain ⟨G1,G2,rfl,h2,h3⟩:=I3 hu
  exact ⟨_,_,rfl,⟨G1,G2,rfl,h2,Ix h3⟩,hb⟩
end
end
section
open Go.RowKit Go
variable [GC]
theorem Kt{p:Part}{x:Call}(h:fj p=false\/eH x=false):bq p x=(p,rep 7 0 0 0):=by unfold bq;rw [if_pos h]
theorem VX{p:Part}{x:Call}(hp:fj p=true)(hx:eH x=true)(ho:cV (fF p) (bK x.method)=false):bq p x=(p,rep 1 0 (bK x.method) (fF p)):=by
 unfold bq;rw [if_neg (by simp [hp,hx]),if_pos ho]
theorem VZ{p:Part}{x:Call}(hp:fj p=true)(hx:eH x=true)(ho:cV (fF p) (bK x.method)=true):bq p x=aA p.af.length p x:=by
 unfold bq;rw [if_neg (by simp [hp,hx]),if_neg (by simp [ho])]
theorem VY{p:Part}{x:Call}(hp:fj p=true)(hx:eH x=true)(ho:cV (fF p) (bK x.method)=true):zB p (bq p x):=by
 rw [VZ hp hx ho]
 exact pI _ p x hp (Nat.le_refl _) hx ho
theorem VV{p:Part}(hp:fj p=true)(x:Call):fj (bq p x).1=true/\gV p (bq p x).1:=by
 by_cases hx:eH x=true
 ·by_cases ho:cV (fF p) (bK x.method)=true
  ·have:=VY hp hx ho
   exact ⟨this.1,this.2.1⟩
  ·rw [VX hp hx (by simpa using ho)];exact ⟨hp,gV.refl _⟩
 ·rw [Kt (.inr (by simpa using hx))];exact ⟨hp,gV.refl _⟩
end
section
open Go.RowKit Go
section
variable [GC]
def IM(p:Part):Prop:=p.core.cells.length<=5/\p.af.length<=4
theorem Wb{p:Core}(h:jh p=true):p.cells.length<=4:=oM (mW.1 h).2.1
theorem ac5{p:Part}(h:fj p=true):IM p:=by
 obtain ⟨h1,h2,_⟩:=nH.1 h
 have:=Wb h1
 unfold IM;omega
end
section
variable [GC][mi][nN][pN]
end
end
section
open Go.RowKit Go.ChangeShapes Go.WideShapes Go.ChangeAt
variable [GC]
def opn(tb:TB):Nat->Nat->Bool
 | 0,_=>false
 | d+1,T=>match tb.get T with
  | none=>false
  | some ti=>match ti.vt with
   | .one (.c (.sl e))=>opn tb d e&&Nat.blt 0 (tb.tab e).length
   | .one (.c _)=>true
   | .one (.agg ts)=>qF tb 0 ts ti.fs&&ti.fs.all (fun x=>opn tb d x.2)
   | .aE _=>false
theorem OX{tb:TB}{d T:Nat}(h:opn tb d T=true): ∃ti v,tb.get T=some ti/\ti.vt= .one v/\tb.tab T=v.cells:=by
 cases d with
 | zero=>simp [opn] at h
 | succ d =>
  simp only [opn] at h
  split at h
  ·simp at h
  ·rename_i ti aQ
   cases hv:ti.vt with
   | aE _=>rw [hv] at h;simp at h
   | one v=>exact ⟨ti,v,aQ,hv,by simp [TB.tab,aQ,TI.cells,hv]⟩
def SB(tb:TB)(T:Nat):VT:=match tb.get T with|some ti=>ti.vt|none=> .aE []
def M0:Addr->Prop:=fun _=>False
section
variable {H:Type}{enc:TypeId×Value->H}{P:Program}{w:World}{base:Nat}{spare:Nat->Bool}{held:Bool}{tb:TB}
theorem abV{M:Addr->Prop}{ds:List D}{cs:List Value}{b o:Nat}(h:Rs w M ds cs)(hc: ∀j u,cs[j]? =some u->w.cell? ⟨b,o+j,none⟩=some u)(hM: ∀p,¬M p):Rw w M ds b o :=
 Rw.of fun i d hd=>by
  obtain ⟨v,h1,h2⟩:=h.get hd
  exact ⟨v,hc i v h1,hM _,h2⟩
theorem Kx(aI:cL P tb tb=true){d T:Nat}(h:opn tb d T=true):P.cellsOf T=(tb.tab T).length:=by
 obtain ⟨ti,v,h1,h2,h3⟩:=OX h
 obtain ⟨i,hi,hs,_⟩:=pJ aI h1 h2
 simp [Program.cellsOf,hi,hs,h3]
theorem OV{cs:List Value}: ∀(fl:List (Nat×Nat)) (o:Nat) (ts:List CT),qF tb o ts fl=true ->
  (∀p∈fl,∃ds,ba tb.tab (tb.tab p.2) ds/\Rs w M0 ds ((cs.drop p.1).take (tb.tab p.2).length))->cs.length=o+ts.length-> ∃ds,ba tb.tab ts ds/\Rs w M0 ds (cs.drop o)
 | [],o,ts,h,_,hl=>by
  simp only [qF,List.isEmpty_iff] at h
  subst h
  refine ⟨[],trivial,?_⟩
  rw [List.drop_eq_nil_of_le (by simp at hl;omega)];rfl
 | (o',t)::r,o,ts,h,hf,hl=>by
  simp only [qF,Bool.and_eq_true] at h
  obtain ⟨h1,h2⟩:=h
  have h1:=Nat.eq_of_beq_eq_true h1
  subst h1
  cases ht:tb.get t with
  | none=>rw [ht] at h2;simp at h2
  | some i =>
   rw [ht] at h2
   simp only [Bool.and_eq_true,decide_eq_true_eq] at h2
   obtain ⟨h2,h3⟩:=h2
   have htab:tb.tab t=i.cells:=by simp [TB.tab,ht]
   obtain ⟨ds,q1,q2⟩:=hf (o,t) (by simp)
   simp only [htab] at q1 q2
   have hle:i.cells.length<=ts.length:=by
    have:=congrArg List.length h2
    rw [List.length_take] at this;omega
   obtain ⟨ds',q3,q4⟩:=OV r (o+i.cells.length) (ts.drop i.cells.length) h3 (fun p hp=>hf p (by simp [hp])) (by rw [List.length_drop];omega)
   refine ⟨ds++ds',?_,?_⟩
   ·have:ts=i.cells++ts.drop i.cells.length:=(List.take_append_drop i.cells.length ts).symm.trans (by rw [h2])
    rw [this];exact q1.append q3
   ·have:cs.drop o=(cs.drop o).take i.cells.length++cs.drop (o+i.cells.length):=by
     rw [<-List.drop_drop,List.take_append_drop]
    rw [this];exact q2.append q4
theorem Ik(aI:cL P tb tb=true): ∀(d T:Nat),opn tb d T=true-> ∀(fuel:Nat) (cs:List Value) (x:DataW H×List MemPlace),DataW.trod enc P w base spare held fuel T cs=some x-> ∃ds,ba tb.tab (tb.tab T) ds/\Rs w M0 ds cs
 | 0,_,h,_,_,_,_=>by simp [opn] at h
 | d+1,T,h,fuel,cs,x,hx=>by
  simp only [opn] at h
  split at h
  ·simp at h
  ·rename_i ti aQ
   have htab:tb.tab T=ti.cells:=by simp [TB.tab,aQ]
   rw [htab]
   cases hv:ti.vt with
   | aE _=>rw [hv] at h;simp at h
   | one v =>
    rw [hv] at h
    simp only [TI.cells,hv]
    cases v with
    | c t =>
     obtain ⟨i,ds,_,_,_,_,hu,hd⟩:=fk aI aQ hv
     cases t with
     | mem=>exact hd.elim
     | fn=>exact hd.elim
     | bool =>
      simp only [fO] at hd;subst hd
      obtain ⟨b,rfl,_⟩:=DataW.trod_bool hu hx
      exact ⟨[.bool b],⟨trivial,trivial⟩,Rs.one rfl⟩
     | int k =>
      simp only [fO] at hd;subst hd
      obtain ⟨n,rfl,_,hw⟩:=DataW.trod_int hu hx
      exact ⟨[.int k n],⟨rfl,trivial⟩,Rs.one ⟨rfl,by simpa [Lit.wf] using hw⟩⟩
     | str =>
      simp only [fO] at hd;subst hd
      obtain ⟨s,rfl,_,hw⟩:=DataW.trod_string hu hx
      exact ⟨[.str s],⟨trivial,trivial⟩,Rs.one ⟨rfl,hw⟩⟩
     | sl e =>
      simp only [fO] at hd;subst hd
      simp only [Bool.and_eq_true] at h
      obtain ⟨he,hpos⟩:=h
      have hpos:0<(tb.tab e).length:=Nat.le_of_ble_eq_true hpos
      have hn:=Kx aI he
      rcases Go.Deep.open_slice hu hx with ⟨h0,_⟩|⟨a,len,cap,m,n,Dd,Pl,hcs,_,hl,hm,hmm,_,hi⟩
      ·exact ⟨[.sl []],⟨trivial,trivial⟩,by rw [h0];exact Rs.one ⟨none,0,0,rfl,rfl,Nat.le_refl _,Nat.zero_le _,fun _=>rfl,fun b o s hh=>by cases hh⟩⟩
      ·have MY:len<=m:=by rw [hmm];split<;>omega
       have hex: ∀i,i<len-> ∃q:List Value×List D,w.cells? base (a.add (i*P.cellsOf e)) (P.cellsOf e)=some q.1/\ba tb.tab (tb.tab e) q.2/\Rs w M0 q.2 q.1:=fun i hil=>by
        obtain ⟨cs',hc,ht'⟩:=hi i (by omega)
        obtain ⟨y,hy1,Y2⟩:=Ik aI d e he _ _ _ ht'
        exact ⟨(cs',y),hc,hy1,Y2⟩
       have hch: ∃f:Nat->List Value×List D,∀i,i<len->w.cells? base (a.add (i*P.cellsOf e)) (P.cellsOf e)=some (f i).1/\ba tb.tab (tb.tab e) (f i).2/\Rs w M0 (f i).2 (f i).1:=by
        refine ⟨fun i=>if hi:i<len then (hex i hi).choose else ([],[]),fun i hi=> ?_⟩
        simp only [hi,dif_pos]
        exact (hex i hi).choose_spec
       obtain ⟨f,hf⟩:=hch
       have hcell: ∀i,i<len-> ∀j u,(f i).1[j]? =some u->w.cell? ((a.add (i*P.cellsOf e)).add j)=some u:=fun i hil j u hu=>by
        obtain ⟨_,hcl,hat⟩:=World.cells?_some (hf i hil).1
        have hj:j<P.cellsOf e:=by rw [<-hcl];exact (List.getElem?_eq_some_iff.1 hu).1
        rw [hat j hj,hu]
       have hspot:0<len->a.spot=none:=fun h0=>by
        have Yi:0<(f 0).1.length:=by rw [(hf 0 h0).2.2.length,(hf 0 h0).2.1.length];exact hpos
        have hx:=hcell 0 h0 0 _ (List.getElem?_eq_getElem Yi)
        rw [Nat.zero_mul] at hx
        exact World.cell?_spot (a:=a) (by simpa [Addr.add] using hx)
       refine ⟨[.sl ((List.range len).map fun i=>(f i).2)],⟨?_,trivial⟩,?_⟩
       ·refine dI.of fun r hr=> ?_
        obtain ⟨i,hi,rfl⟩:=List.mem_map.1 hr
        exact (hf i (by simpa using hi)).2.1
       ·rw [hcs]
        refine Rs.one ⟨some a,len,cap,rfl,by simp,hl,hm,(fun h=>by cases h),fun b o s hh=>⟨fun h0=> ?_,?_⟩⟩
        ·have:=hspot h0
         simp only [Option.some.injEq] at hh;subst hh;exact this
        ·simp only [Option.some.injEq] at hh;subst hh
         refine dF.of (n:=(tb.tab e).length) (fun r hr=> ?_) fun i r hr=> ?_
         ·obtain ⟨i,hi,rfl⟩:=List.mem_map.1 hr
          exact (hf i (by simpa using hi)).2.1.length
         ·have hil:i<len:=by
           have:=(List.getElem?_eq_some_iff.1 hr).1
           simpa using this
          have hr':r=(f i).2:=by simp [hil] at hr;exact hr.symm
          subst hr'
          refine abV (hf i hil).2.2 (fun j u hu=> ?_) (fun _ h=>h)
          have h1:=hcell i hil j u hu
          have hs:=hspot (by omega)
          simp only at hs
          subst hs
          rw [hn] at h1
          rwa [addr_add,addr_add] at h1
    | agg ts =>
     simp only [Bool.and_eq_true] at h
     obtain ⟨hc,hall⟩:=h
     obtain ⟨i,fields,zs,hi,hs,_,_,_,hu,hfo⟩:=lG aI aQ hv
     obtain ⟨xs,m,_,_,hl,hxs,hf⟩:=DataW.trod_struct hu hx
     have hlen:cs.length=ts.length:=by rw [hl];simp [Program.cellsOf,hi,hs]
     have key: ∀p∈ti.fs,∃ds,ba tb.tab (tb.tab p.2) ds/\Rs w M0 ds ((cs.drop p.1).take (tb.tab p.2).length):=by
      intro p hp
      have hop:=List.all_eq_true.1 hall p hp
      obtain ⟨k,hk⟩:=List.getElem?_of_mem hp
      have X4: ∃fd,fields.toList[k]? =some fd/\fd.offset=p.1/\fd.type=p.2:=F6 hfo hk
      obtain ⟨fd,AB,e1,e2⟩:=X4
      have MG:fields[k]? =some fd:=by simpa using AB
      have hlt:k<xs.length:=by rw [hxs];exact (Array.getElem?_eq_some_iff.1 MG).1
      have ht:=(hf k fd MG).trans (List.getElem?_eq_getElem hlt)
      rw [e1,e2,Kx aI hop] at ht
      exact Ik aI d p.2 hop _ _ _ ht
     have:=OV (w:=w) ti.fs 0 ts hc key (by omega)
     simpa [V1.cells] using this
theorem OU(aI:cL P tb tb=true){r:Reach}{b0 T:Nat}{v:Value}{dd:DataW H}{p:List MemPlace}(ht:opn tb 12 T=true)(hv:Value.okWide P w r b0 T v)(h:DataW.Trod enc P w base spare held T v dd p) :
  ∃x,bX tb.tab (SB tb T) x/\R w M0 x v:=by
 obtain ⟨fuel,hf⟩:=h
 obtain ⟨ds,h1,h2⟩:=Ik aI 12 T ht fuel _ _ hf
 obtain ⟨ti,v1,aQ,hv1,htab⟩:=OX ht
 rw [htab] at h1
 unfold SB
 rw [aQ]
 simp only [hv1]
 cases v1 with
 | c t =>
  obtain ⟨_,d,_,_,_,_,hu,hd⟩:=fk aI aQ hv1
  have hc:v.cells.toList=[v]:=by
   cases t<;>simp only [fO] at hd<;>subst hd
   ·obtain ⟨_,rfl⟩:=okWide_bool hu hv;rfl
   ·obtain ⟨_,rfl⟩:=okWide_int hu hv;rfl
   ·obtain ⟨_,rfl⟩:=okWide_string hu hv;rfl
   ·obtain ⟨_,_,_,rfl⟩:=okWide_slice hu hv;rfl
  rw [hc] at h2
  match ds,h1 with
  | [x],h1 =>
   obtain ⟨v',q,e,h3,h4⟩:=h2
   simp only [List.cons.injEq] at e
   obtain ⟨rfl,rfl⟩:=e
   exact ⟨x,h1.1,h3⟩
 | agg ts =>
  obtain ⟨_,fields,_,_,_,_,_,_,hu,_⟩:=lG aI aQ hv1
  obtain ⟨cs,rfl,_⟩:=okWide_struct hu hv
  exact ⟨.agg ds,h1,cs,rfl,h2⟩
end
theorem law_run{P:Program}{f:FuncId}{ds:List D}{vs:List Value}{w:World}(h:aG P f none ds (.bool true) [])(hG:jU w M0)(hr:Rs w M0 ds vs):Calls P f vs.toArray w fun e w'=>e= .returned (.bool true)/\Below w.heap.size w w':=by
 refine (h.2 w M0 0 vs hG hr (fun cs hcs=>by cases hcs)).mono ?_
 rintro e w' ⟨v,rfl,h1,h2,_⟩
 simp only [R] at h1
 subst h1
 exact ⟨rfl,h2.lF⟩
end
section
open Go.RowKit Go Go.ChangeShapes
theorem XK{H:Type}{enc:TypeId×Value->H}{a:Assume}{C:Checked}{os:Os}{f:FuncId}{fn:Func}{s:ChangeSpec}{conds:List PathCond}{apart fresh handsOn again:Bool}{X:World->Array Value->Prop}
  (hX: ∀(w w':World) (args:Array Value),w.heap=w'.heap->X w args->X w' args)
  (own:ownKnob C.prog.godebug=none) (started:os.Started) (noInit:C.prog.inits.idxOf? f=none) (hfn:C.prog.funcs[f]? =some fn)
  (witness: ∃(w:World) (tape:Tape) (i:Input),w.os=os/\(w.forCall tape i).Shaped C.prog/\i.vars=[]/\Input.okWide C.prog (w.forCall tape i) .any w.heap.size f i /\
   ((s.pre enc C.prog fn conds apart (w.forCall tape i).memory i.args/\X (w.forCall tape i).memory i.args)/\sizedMet enc C.prog fn (OpenSpec.ofChange s) apart (w.forCall tape i).memory i.args)/\a.holds C.prog (lone (Frame.enter C.prog f i.args .normal) [] (w.forCall tape i)))
  (contract: ∀(W:World) (base:Nat) (args:Array Value) (ds gs:List (DataW H)) (before:List MemPlace),
   (∀(j:Nat) t v,fn.params[j]? =some t->args[j]? =some v->Value.okWide C.prog W .any base t v) ->
   DataW.Whole enc C.prog fn.params.toList s.vars apart W args.toList ds gs before ->
   conds.all (PathCond.test C.prog ⟨fn.params.toList,ds,s.plain.varTypes C.prog,gs⟩)=true ->
   (DataW.weightsEach C.prog (fn.params.toList++s.plain.varTypes C.prog) (ds++gs)).all (· <=reachBytes)=true->W.ShapedOpen C.prog->X W args ->
   a.holds C.prog (lone (Frame.enter C.prog f args .normal) [] W) ->
   Calls C.prog f args W fun e W'=> ∃v,e= .returned v/\s.post enc C.prog fn apart fresh handsOn again W args v W') :
  ReturnsInHanded a C os f .any (fun w args=>(s.pre enc C.prog fn conds apart w args/\X w args)/\sizedMet enc C.prog fn (OpenSpec.ofChange s) apart w args) (s.post enc C.prog fn apart fresh handsOn again):=by
 refine returnsInHanded_of_calls own started noInit witness fun w tape i _ YJ _ hok hpre hh=> ?_
 obtain ⟨_,_,_,fn',hfn',_,_,_,_,hval⟩:=hok
 cases Option.some.inj (hfn'.symm.trans hfn)
 obtain ⟨⟨⟨ds,gs,before,q1,q2⟩,q3⟩,q4⟩:=hpre
 refine (contract (w.forCall tape i) w.heap.size i.args ds gs before hval (DataW.Whole.of_heap (w':=w.forCall tape i) (by rfl) q1) q2 (q4.weights q1) YJ (hX _ _ _ (by rfl) q3) hh).mono fun e W' ⟨v,he,hp⟩=> ?_
 cases he
 exact ChangeSpec.post_blind hp
theorem ade{P:Program}{ps:Array TypeId}(h:ps.all (fun t=> !P.wantsStandIn t)=true): ∀(j:Nat) t,ps[j]? =some t->P.wantsStandIn t=false:=fun j t ht=>by
 rw [Array.all_eq_true_iff_forall_mem] at h
 have:=h t (Array.mem_of_getElem? ht)
 simpa using this
theorem Mc{P:Program}{w:World}{n:String}{g:Nat}{cs:Array Value}{p:Array Value->Prop}(hg:P.globalNamed n=some g)(h:w.var? P n=some cs)(hp:p cs):ko w g p:=by
 simp only [World.var?,hg,Option.bind_some] at h
 split at h
 ·rename_i c t f hh
  simp at h;subst h
  exact ⟨_,t,f,hh,hp⟩
 ·simp at h
theorem Xg{w:World}{g:Nat}{v:Value}(h:w.cell? ⟨g,0,none⟩=some v):ko w g fun cs=>cs[0]? =some v:=by
 unfold World.cell? at h
 cases hb:w.heap[g]? with
 | none=>simp [hb] at h
 | some o =>
  simp only [hb] at h
  cases o with
  | cells cs t f=>exact ⟨cs,t,f,hb,by simpa using h⟩
  | _=>simp at h
theorem acR{W:World}{r:List (String×DataW Unit)}{n:String}(hn:Tryz.prog.globalNamed n=some 1)(h:laidMet Tryz.prog ((n,Rows.laid_strconv_ErrSyntax)::r) W):ko W 1 fun cs=> ∃tp p,cs= #[.iface tp p]:=by
 obtain ⟨a,s,hv,_⟩:=laid_sentinel (tp:=185) h hn (by kernel_rfl) Tryz.underlying135
  (fun u hu=>typeName_ptr_named (nm:= "errors.errorString") (by kernel_rfl) (by kernel_rfl) (by decide) u (hu.trans (by decide)))
  Tryz.underlying185 Tryz.underlying187 rfl rfl Tryz.underlying9 (by kernel_rfl) (by kernel_rfl)
 exact Mc hn hv ⟨_,_,rfl⟩
theorem acT{W:World}{r:List (String×DataW Unit)}{n:String}(hn:Tryz.prog.globalNamed n=some 3)(h:laidMet Tryz.prog ((n,Rows.laid_internal_strconv_uint64pow10)::r) W):ko W 3 fun cs=>cs=(Lib.pow10Tab.map fun z=>Value.int .u64 z).toArray:=by
 have e:(Rows.laid_internal_strconv_uint64pow10:DataW Unit)=Lib.tabData .u64 Lib.pow10Tab:=by kernel_rfl
 rw [e] at h
 have:=Lib.tabIs_of_head (t:=177) hn (by kernel_rfl) Tryz.underlying177 Tryz.underlying159 (by kernel_rfl) (by kernel_rfl) h
 exact Mc hn this rfl
theorem acS{W:World}(h:W.ShapedOpen Tryz.prog):ko W 0 fun cs=> ∃m,cs[0]? =some (Value.int .i64 m):=by
 obtain ⟨m,hm⟩:=cell_of_shapedOpen_int (g:=0) (t:=3) (zero:= #[.int .i64 0]) (k:= .i64) h (of_decide_eq_true (by kernel_rfl)) (by kernel_rfl) rfl (by kernel_rfl) (by kernel_rfl) Tryz.underlying3
 obtain ⟨cs,t,f,h1,h2⟩:=Xg hm
 exact ⟨cs,t,f,h1,m,h2⟩
theorem Xf{w:World}{g:Nat}{p:Array Value->Prop}(h:ko w g p):g+1<=w.heap.size:=by
 obtain ⟨cs,t,f,h1,_⟩:=h
 rcases Nat.lt_or_ge g w.heap.size with h|h
 ·exact h
 ·rw [Array.getElem?_eq_none h] at h1;cases h1
end
section
open Go
theorem Zp:ownKnob Tryz.prog.godebug=none:=by kernel_rfl
theorem Hk:laidOutB Tryz.prog=true:=by kernel_rfl
theorem Zq:mapsRowed Tryz.prog=true:=by kernel_rfl
theorem Zr:(Tryz.prog.stops==[])=true:=by kernel_rfl
theorem Zm:(Tryz.prog.stopKnobs==[])=true:=by kernel_rfl
theorem Zl:(Rows.fnExactCallPartRow.plainKeys==Tryz.prog.plainKeys)=true:=by kernel_rfl
theorem Zk:Tryz.prog.stopsHeard=true:=by kernel_rfl
theorem Zj:Tryz.prog.mayEnter=true:=by kernel_rfl
theorem Zn:(Rows.fnExactCallPartRow.lifted==Tryz.prog.liftsFinal)=true:=by kernel_rfl
theorem Zo:(Tryz.prog.make==some Rows.fnExactCallPartRow.make)=true:=by kernel_rfl
theorem fI{a b:Bool}(ha:a=true)(hb:b=true):(a&&b)=true:=by rw [ha,hb];rfl
end
end Go.Proofs.YtimickglpboilaaGreatDoor
