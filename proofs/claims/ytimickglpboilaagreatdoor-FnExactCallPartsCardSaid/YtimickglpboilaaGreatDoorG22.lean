/- Walk: a call within the layers of a part in a box (through), over an environment. -/
import Derived.Test.YtimickglpboilaaGreatDoorG15
import Derived.Test.YtimickglpboilaaGreatDoorG20
import Derived.Test.YtimickglpboilaaGreatDoorG21
import Derived.Test.YtimickglpboilaaGreatDoorG16
import Derived.Test.YtimickglpboilaaGreatDoorG19
import Derived.Test.YtimickglpboilaaGreatDoorG14
import Derived.Test.YtimickglpboilaaGreatDoorG10
import Derived.WalkKit
import Derived.ProofKit
import Derived.OpenShut
import Derived.ShutString
import Derived.ChangeOld
import Derived.Below
import Derived.Deep.Slices
import Derived.Test.YtimickglpboilaaGreatDoorTie
import Derived.Test.YtimickglpboilaaGreatDoorCards
import Derived.HandedShaped
import Derived.LaidLaws
import Derived.Lib.LaidTab
import Derived.Stop.LaidErr
import Derived.Shelf.Vars
import Derived.SevenTiedAt
import Derived.Test.YtimickglpboilaaGreatDoorG13
import Derived.ChangeVars
import Derived.Test.YtimickglpboilaaGreatDoorRows
import Derived.JoinedOf
import Derived.KernelRfl
import Derived.Test.YtimickglpboilaaGreatDoorG0
set_option linter.unusedVariables false
set_option linter.unusedSimpArgs false
set_option linter.unusedSectionVars false
set_option maxRecDepth 100000
namespace Go.Proofs.YtimickglpboilaaGreatDoor
section
open Go.RowKit Go
variable [GC]
set_option maxHeartbeats 4000000 in
theorem adX{k:Nat}(IH:xd k):xd (k+1):=by
  intro K w g S2 p x h hx hk
  have hkl:k<p.af.length:=by omega
  obtain ⟨b,o,cap,yg, -, -, -, -, -, -, -⟩:=h.ly.at (i:=k) (by rw [oJ];exact hkl)
  rw [oJ] at yg
  subst yg
  have hgl:=h.vf
  have H:=Lib.hid h
  have HX:=hx
  have hw:cv .sub .i64 ((k+1:Nat):Int) 1=(k:Int):=by
    obtain ⟨a,cap,_,h1,h2⟩:=h.ly.qt
    rw [oJ] at h1
    unfold maxLen at h2
    rw [jO (by omega) (by omega)];omega
  have HW:=show Below w.heap.size w ((((w.alloc (.cells #[PQ g] 73)).alloc (.cells #[.int .i64 ((k+1:Nat):Int)] 3)).alloc (.cells #[.string x.method,.string x.key,.int .i64 x.val,.string x.text] 43)).alloc (.cells aY 39)) by go_grown
  have hnk: ∀i,¬K (w.heap.size+i):=fun i hk=>by have:=(H.out.kb _ hk).2;omega
  have L:=show Loc w g k x K ((((w.alloc (.cells #[PQ g] 73)).alloc (.cells #[.int .i64 ((k+1:Nat):Int)] 3)).alloc (.cells #[.string x.method,.string x.key,.int .i64 x.val,.string x.text] 43)).alloc (.cells aY 39)) from
    ⟨(((aJ.new w _ _).alloc _).alloc _).alloc _,
     by have:=(aJ.new (w.alloc (.cells #[PQ g] 73)) 3 #[.int .i64 ((k+1:Nat):Int)]);simp only [World.size_alloc] at this;exact (this.alloc _).alloc _,
     by have:=(aJ.new ((w.alloc (.cells #[PQ g] 73)).alloc (.cells #[.int .i64 ((k+1:Nat):Int)] 3)) 43 #[.string x.method,.string x.key,.int .i64 x.val,.string x.text]);simp only [World.size_alloc] at this;exact this.alloc _,
     by have:=(aJ.new (((w.alloc (.cells #[PQ g] 73)).alloc (.cells #[.int .i64 ((k+1:Nat):Int)] 3)).alloc (.cells #[.string x.method,.string x.key,.int .i64 x.val,.string x.text] 43)) 39 aY);simp only [World.size_alloc] at this;exact this,
     hnk 0,hnk 1,hnk 2,hnk 3⟩
  have HS:=(St.start H.out).below HW
  refine qc (E:=[(0,PQ g),(1,.int .i64 ((k+1:Nat):Int)),(2,dL x)]) Tryz.func41 rfl Tryz.ntmps41 (by simp) (by simp) ?_
  refine CW.seq (CW.region ?_)
  refine WL.vv rfl rfl (jH rfl rfl) (by decide) ?_
  refine WL.vv rfl rfl (jH rfl rfl) (by decide) ?_
  refine WL.vv rfl rfl (jH rfl rfl) (by decide) ?_
  refine WL.vv rfl rfl (cJ rfl gK) (by decide) ?_
  refine WL.nil (NX.next ?_)
  show CW _ Tryz.prog _ _ _ ((((w.alloc (.cells #[PQ g] 73)).alloc (.cells #[.int .i64 ((k+1:Nat):Int)] 3)).alloc (.cells #[.string x.method,.string x.key,.int .i64 x.val,.string x.text] 43)).alloc (.cells aY 39))
  refine CW.sub (E':=[(3,PQ (w.heap.size)),(4,PQ (w.heap.size+1)),(5,PQ (w.heap.size+1+1)),(6,PQ (w.heap.size+1+1+1))]) ⟨rfl,by simp only [World.size_alloc];rfl,by simp only [World.size_alloc];rfl,by simp only [World.size_alloc];rfl,trivial⟩ ?_
  generalize ((((w.alloc (.cells #[PQ g] 73)).alloc (.cells #[.int .i64 ((k+1:Nat):Int)] 3)).alloc (.cells #[.string x.method,.string x.key,.int .i64 x.val,.string x.text] 43)).alloc (.cells aY 39))=wa at HW L HS ⊢
  clear HW hnk
  obtain ⟨l0,l1,y0,y1,y2,y3⟩:=L.cells
  obtain ⟨S1,a,n1,Wu, -, -, -, -, -, -, -, -, -,c5, -, -, -⟩:=HS.pb.cells
  refine CW.seq (CW.seq (CW.region ?_))
  refine WL.vv rfl rfl (cr rfl rfl Tryz.underlying3 rfl l1) (by decide) ?_
  refine WL.vv rfl rfl (gr (b:=false) rfl rfl rfl rfl (by simp [aS];omega)) (by decide) ?_
  refine WL.nil (NX.next (CW.no rfl (CW.skip (NX.next ?_))))
  refine CW.seq (CW.still mo (by kernel_rfl) fun wc hwd cy=> ?_)
  replace l0:=ax cy l0
  replace l1:=ax cy l1
  replace c5:=ax cy c5
  replace L:=L.below cy
  replace HS:=HS.below cy
  clear hwd cy
  refine WS.vv rfl rfl (cr rfl rfl Tryz.underlying73 rfl l0) (by decide) ?_
  refine WS.vv rfl rfl (pL rfl rfl) (by decide) ?_
  refine WS.vv rfl rfl (cO rfl rfl oZ) (by decide) ?_
  refine WS.vv rfl rfl (cr rfl rfl Tryz.underlying35 rfl c5) (by decide) ?_
  refine WS.vv rfl rfl (cr rfl rfl Tryz.underlying3 rfl l1) (by decide) ?_
  refine WS.vv rfl rfl (iE rfl rfl rfl rfl hw) (by decide) ?_
  refine WS.vv rfl rfl (oK rfl rfl rfl (by omega) (by omega) tB) (by decide) ?_
  refine WS.vv rfl rfl (cq rfl rfl) (by decide) ?_
  refine WS.fin (NX.next ?_)
  refine CW.sub (E':=[(3,PQ (w.heap.size)),(4,PQ (w.heap.size+1)),(5,PQ (w.heap.size+1+1)),(6,PQ (w.heap.size+1+1+1)),(7,.pointer (some ⟨b,o+k*2,none⟩))]) ⟨rfl,rfl,rfl,rfl,rfl,trivial⟩ ?_
  clear l0 l1 y0 y1 y2 y3 c5
  obtain ⟨l0,l1,y0,y1,y2,y3⟩:=L.cells
  obtain ⟨a0,a1,hfz,hKb,hbg,hct⟩:=HS.pb.lay hkl
  refine CW.seq (CW.region ?_)
  refine WL.vv rfl rfl (ab3 (ps:= #[PQ (w.heap.size),PQ (w.heap.size+1)]) rfl rfl) (by decide) ?_
  refine WL.vv rfl rfl (cq rfl rfl) (by decide) ?_
  refine WL.nil (NX.next ?_)
  refine CW.seq (CW.region (QE rfl rfl rfl rfl rfl rfl rfl rfl rfl rfl rfl rfl rfl rfl rfl rfl rfl rfl rfl rfl rfl rfl rfl rfl rfl rfl rfl (by decide) rfl (fun _ _ _ _=>rfl) (by decide) Tryz.underlying9 rfl mA y0 ?_))
  intro E1 aO hb1
  refine NX.next (CW.sub (E':=uy w b o k x) ⟨(aO 3 (by decide)).trans rfl,(aO 4 (by decide)).trans rfl,(aO 5 (by decide)).trans rfl,(aO 6 (by decide)).trans rfl,(aO 7 (by decide)).trans rfl,(aO 8 (by decide)).trans rfl,hb1.trans (by rw [fN,fN];rfl),trivial⟩ ?_)
  clear aO hb1
  refine CW.seq (CW.block ?_)
  refine CW.seq (CW.region (Eg rfl rfl rfl rfl rfl rfl rfl rfl rfl rfl rfl rfl rfl rfl rfl rfl rfl rfl rfl rfl rfl rfl rfl rfl rfl rfl rfl rfl rfl rfl rfl rfl rfl (by decide) (fun _ _ _ _ _ _=>rfl) (by decide) rfl tJ Tryz.underlying9 rfl a0 mA y0 ?_))
  intro E1 aO hb1
  refine NX.next (CW.sub (E':=(36,.bool (decide ((nth p.af k).name=counts)&&decide (x.method=dP)))::uy w b o k x) ⟨hb1.trans (by rw [fN,fN];rfl),(aO 3 (by decide)).trans rfl,(aO 4 (by decide)).trans rfl,(aO 5 (by decide)).trans rfl,(aO 6 (by decide)).trans rfl,(aO 7 (by decide)).trans rfl,(aO 8 (by decide)).trans rfl,(aO 9 (by decide)).trans rfl,trivial⟩ ?_)
  clear aO hb1
  by_cases C:(nth p.af k).name=counts/\x.method=dP
  · have hq:(decide ((nth p.af k).name=counts)&&decide (x.method=dP))=true:=by simp [C.1,C.2]
    rw [hq]
    clear hq
    refine CW.yes rfl ?_
    refine CW.seq (CW.region ?_)
    refine WL.vv rfl rfl (aU rfl rfl) (by decide) ?_
    refine WL.vv rfl rfl (pL rfl rfl) (by decide) ?_
    refine WL.vv rfl rfl (cO rfl rfl ox) (by decide) ?_
    refine WL.vv rfl rfl (cr rfl rfl Tryz.underlying3 rfl a1) (by decide) ?_
    refine WL.vv rfl rfl (jn (vs:=[(1,.int .i64 (nth p.af k).count)]) rfl rfl (Cn _)) (by decide) ?_
    refine WL.st rfl rfl rfl rfl rfl L.b3 rfl (cX _) bn fun w7 R7 O7=> ?_
    have e:aA (k+1) p x=(p,rep 0 (nth p.af k).count 0 0):=by rw [aA,if_pos C]
    refine WL.nil (NX.next (CW.ret ?_))
    exact NX.fT (NX.ret (NX.nr rfl rfl R7 Tryz.underlying39 rfl bn (by rw [e];exact (HS.one O7 L.n3 (by omega)).done H.out)))
  have hq:(decide ((nth p.af k).name=counts)&&decide (x.method=dP))=false:=by
    simp only [Bool.and_eq_false_iff,decide_eq_false_iff_not]
    by_cases h1:(nth p.af k).name=counts
    · right;exact fun h2=>C ⟨h1,h2⟩
    · left;exact h1
  have N0:=C
  clear C
  rw [hq]
  clear hq
  refine CW.no rfl ?_
  refine CW.seq (CW.region (QD rfl rfl rfl rfl rfl rfl rfl rfl rfl rfl rfl rfl rfl rfl rfl rfl rfl rfl rfl rfl rfl rfl rfl rfl rfl rfl rfl (by decide) (fun _ _ _ _ _ _=>rfl) (by decide) rfl tJ Tryz.underlying9 rfl a0 ?_))
  intro E1 aO hb1
  refine NX.next (CW.sub (E':=(52,.bool (decide ((nth p.af k).name=counts)&&di x))::uy w b o k x) ⟨hb1.trans (by rw [fN];rfl),(aO 3 (by decide)).trans rfl,(aO 4 (by decide)).trans rfl,(aO 5 (by decide)).trans rfl,(aO 6 (by decide)).trans rfl,(aO 7 (by decide)).trans rfl,(aO 8 (by decide)).trans rfl,(aO 9 (by decide)).trans rfl,trivial⟩ ?_)
  clear aO hb1
  by_cases C:(nth p.af k).name=counts/\di x=true
  · have hq:(decide ((nth p.af k).name=counts)&&di x)=true:=by simp [C.1,C.2]
    rw [hq]
    clear hq
    refine CW.yes rfl ?_
    obtain ⟨l0,l1,y0,y1,y2,y3⟩:=L.cells
    refine CW.seq (CW.region ?_)
    refine WL.vv rfl rfl (cr rfl rfl Tryz.underlying73 rfl l0) (by decide) ?_
    refine WL.vv rfl rfl (cr rfl rfl Tryz.underlying3 rfl l1) (by decide) ?_
    refine WL.vv rfl rfl (iE rfl rfl rfl rfl hw) (by decide) ?_
    refine WL.vv rfl rfl (bz rfl rfl Tryz.underlying43 rfl L.b2 kA) (by decide) ?_
    refine WL.c rfl rfl (bT (args:= #[PQ g,.int .i64 ((k:Nat):Int),dL x]) xx rfl rfl rfl) (by decide) (IH _ _ _ _ _ _ HS.pb HX (by omega)) ?_
    rintro _ v5 ⟨rfl,ij,eu⟩
    refine ⟨_,rfl,?_⟩
    refine WL.vv rfl rfl (cJ rfl gK) (by decide) ?_
    refine WL.st rfl rfl rfl rfl rfl (show aJ (v5.alloc (.cells aY 39)) v5.heap.size 39 aY from aJ.new v5 _ _) rfl (cX _) bn fun w5 R5 O5=> ?_
    have B5:Below v5.heap.size v5 w5:=qa O5
    have AX:=(HS.call ij eu)
    have LX:=(L.call eu)
    have DA:w.heap.size+4<=v5.heap.size:=by have:=LX.b3.lt;omega
    have lR: ¬Gr K wc v5 v5.heap.size:=fun hk=>by have:=(AX.pb.kb _ hk).2;omega
    have A5:=AX.below B5
    have L5:=LX.below B5
    clear AX LX B5 O5 ij eu l0 l1 y0 y1 y2 y3
    generalize v5.heap.size=b5 at *
    refine WL.nil (NX.next ?_)
    have hlen:k<(aA k p x).1.af.length:=by rw [zn];exact hkl
    obtain ⟨a0,a1,hfz,x6,X6,hct⟩:=A5.pb.lay (k:=k) (by first|exact hkl|assumption)
    refine CW.seq (CW.region ?_)
    refine WL.vv rfl rfl (aU rfl rfl) (by decide) ?_
    refine WL.vv rfl rfl (aU rfl rfl) (by decide) ?_
    refine WL.vv rfl rfl (pL rfl rfl) (by decide) ?_
    refine WL.vv rfl rfl (cO rfl rfl ox) (by decide) ?_
    refine WL.vv rfl rfl (cr rfl rfl Tryz.underlying3 rfl a1) (by decide) ?_
    refine WL.c rfl rfl (bT (args:= #[.int .i64 (nth (aA k p x).1.af k).count]) Kt rfl rfl rfl) (by decide) (BW A5.pb (nth (aA k p x).1.af k).count hct) ?_
    rintro _ w6 ⟨rfl,ep,GL⟩
    refine ⟨_,rfl,?_⟩
    have A6:=A5.below ep
    have L6:=L5.below ep
    have R6:=R5.below ep R5.lt
    clear a0 a1 hfz
    obtain ⟨a0,a1,hfz, -, -, -⟩:=A6.pb.lay (k:=k) (by first|exact hkl|assumption)
    refine WL.vv rfl rfl (pL rfl rfl) (by decide) ?_
    refine WL.vv rfl rfl (cO rfl rfl ox) (by decide) ?_
    refine WL.s rfl rfl (ze rfl rfl rfl yR rfl a1 (hfz _)) ?_
    have A7:=A6.put (a:=⟨b,o+k*2+1,none⟩) x6 (A6.pb.Pk (i:=k) (by first|exact hkl|assumption) GL)
    have L7:=L6.mine (a:=⟨b,o+k*2+1,none⟩) (.int .i64 (bR (nth (aA k p x).1.af k).count)) x6
    have X3:b5≠b:=fun e=>lR (by rw [e];exact x6)
    have R7:=R6.far (p:=⟨b,o+k*2+1,none⟩) X3 (.int .i64 (bR (nth (aA k p x).1.af k).count))
    refine WL.nil (NX.next ?_)
    refine CW.seq (CW.region ?_)
    refine WL.vv rfl rfl (bz rfl rfl Tryz.underlying39 rfl R7 bn) (by decide) ?_
    refine WL.st rfl rfl rfl rfl rfl L7.b3 rfl (cX _) bn fun w8 R8 O8=> ?_
    have e:aA (k+1) p x=(bump (aA k p x).1 k,(aA k p x).2):=by rw [aA,if_neg N0,if_pos C]
    refine WL.nil (NX.next (CW.ret ?_))
    exact NX.fT (NX.ret (NX.nr rfl rfl R8 Tryz.underlying39 rfl bn (by rw [e];exact (A7.one O8 L7.n3 (by omega)).done H.out)))
  have hq:(decide ((nth p.af k).name=counts)&&di x)=false:=by
    simp only [Bool.and_eq_false_iff,decide_eq_false_iff_not]
    by_cases h1:(nth p.af k).name=counts
    · right;simpa [h1] using C
    · left;exact h1
  have N1:=C
  clear C
  rw [hq]
  clear hq
  refine CW.no rfl ?_
  refine CW.seq (CW.region (QD rfl rfl rfl rfl rfl rfl rfl rfl rfl rfl rfl rfl rfl rfl rfl rfl rfl rfl rfl rfl rfl rfl rfl rfl rfl rfl rfl (by decide) (fun _ _ _ _ _ _=>rfl) (by decide) rfl tJ Tryz.underlying9 rfl a0 ?_))
  intro E1 aO hb1
  refine NX.next (CW.sub (E':=(75,.bool (decide ((nth p.af k).name=jR)&&di x))::uy w b o k x) ⟨hb1.trans (by rw [fN];rfl),(aO 3 (by decide)).trans rfl,(aO 4 (by decide)).trans rfl,(aO 5 (by decide)).trans rfl,(aO 6 (by decide)).trans rfl,(aO 7 (by decide)).trans rfl,(aO 8 (by decide)).trans rfl,(aO 9 (by decide)).trans rfl,trivial⟩ ?_)
  clear aO hb1
  by_cases C:(nth p.af k).name=jR/\di x=true
  · have hq:(decide ((nth p.af k).name=jR)&&di x)=true:=by simp [C.1,C.2]
    rw [hq]
    clear hq
    refine CW.yes rfl ?_
    obtain ⟨l0,l1,y0,y1,y2,y3⟩:=L.cells
    refine CW.seq (CW.region ?_)
    refine WL.vv rfl rfl (cr rfl rfl Tryz.underlying73 rfl l0) (by decide) ?_
    refine WL.vv rfl rfl (cr rfl rfl Tryz.underlying3 rfl l1) (by decide) ?_
    refine WL.vv rfl rfl (iE rfl rfl rfl rfl hw) (by decide) ?_
    refine WL.vv rfl rfl (bz rfl rfl Tryz.underlying43 rfl L.b2 kA) (by decide) ?_
    refine WL.c rfl rfl (bT (args:= #[PQ g,.int .i64 ((k:Nat):Int),dL x]) xx rfl rfl rfl) (by decide) (IH _ _ _ _ _ _ HS.pb HX (by omega)) ?_
    rintro _ v5 ⟨rfl,ij,eu⟩
    refine ⟨_,rfl,?_⟩
    refine WL.vv rfl rfl (cJ rfl gK) (by decide) ?_
    refine WL.st rfl rfl rfl rfl rfl (show aJ (v5.alloc (.cells aY 39)) v5.heap.size 39 aY from aJ.new v5 _ _) rfl (cX _) bn fun w5 R5 O5=> ?_
    have B5:Below v5.heap.size v5 w5:=qa O5
    have AX:=(HS.call ij eu)
    have LX:=(L.call eu)
    have DA:w.heap.size+4<=v5.heap.size:=by have:=LX.b3.lt;omega
    have lR: ¬Gr K wc v5 v5.heap.size:=fun hk=>by have:=(AX.pb.kb _ hk).2;omega
    have A5:=AX.below B5
    have L5:=LX.below B5
    clear AX LX B5 O5 ij eu l0 l1 y0 y1 y2 y3
    generalize v5.heap.size=b5 at *
    refine WL.nil (NX.next ?_)
    obtain ⟨r0,r1,r2,r3,r4,rf⟩:=R5.rep
    refine CW.seq (CW.seq (CW.region ?_))
    refine WL.vv rfl rfl (cO rfl rfl xQ) (by decide) ?_
    refine WL.vv rfl rfl (cr rfl rfl Tryz.underlying3 rfl r0) (by decide) ?_
    by_cases h2:(aA k p x).2.code=2
    · refine WL.vv rfl rfl (gr (b:=true) rfl rfl rfl rfl (by simp [aS,h2])) (by decide) ?_
      refine WL.nil (NX.next (CW.yes rfl ?_))
      refine CW.seq (CW.region ?_)
      obtain ⟨l0,l1,y0,y1,y2,y3⟩:=L5.cells
      refine WL.vv rfl rfl (aU rfl rfl) (by decide) ?_
      refine WL.c rfl rfl (BA (args:= #[.string mStart]) zS rfl rfl rfl rfl) (by decide) (BJ IH A5.pb (by rw [zn];omega) (m:=mStart) (by decide) l0 l1) ?_
      rintro _ w6 ⟨rfl,AK,tT⟩
      refine ⟨_,rfl,?_⟩
      have A6:=A5.call AK tT
      have L6:=L5.call tT
      clear l0 l1 y0 y1 y2 y3
      have R6:=R5.bV tT lR
      have MS: ¬Gr (Gr K wc v5) w5 w6 b5:=by rintro (q|q);exact lR q;have:=R5.lt;omega
      clear AK tT
      refine WL.nil (NX.next ?_)
      obtain ⟨l0,l1,y0,y1,y2,y3⟩:=L6.cells
      refine CW.region ?_
      refine WL.vv rfl rfl (cr rfl rfl Tryz.underlying73 rfl l0) (by decide) ?_
      refine WL.vv rfl rfl (cr rfl rfl Tryz.underlying3 rfl l1) (by decide) ?_
      refine WL.vv rfl rfl (iE rfl rfl rfl rfl hw) (by decide) ?_
      refine WL.vv rfl rfl (bz rfl rfl Tryz.underlying43 rfl L6.b2 kA) (by decide) ?_
      refine WL.c rfl rfl (bT (args:= #[PQ g,.int .i64 ((k:Nat):Int),dL x]) xx rfl rfl rfl) (by decide) (IH _ _ _ _ _ _ A6.pb HX (by rw [zn,zn];omega)) ?_
      rintro _ w7 ⟨rfl,Dr,nM⟩
      refine ⟨_,rfl,?_⟩
      have A7:=A6.call Dr nM
      have L7:=L6.call nM
      have R7:=R6.bV nM MS
      have Ys: ¬Gr (Gr (Gr K wc v5) w5 w6) w6 w7 b5:=by rintro (q|q);exact MS q;have:=R6.lt;omega
      clear Dr nM
      refine WL.st rfl rfl rfl rfl rfl R7 rfl (cX _) bn fun w8 R8 O8=> ?_
      have A8:=A7.one O8 Ys (by omega)
      have L8:=L7.one O8 DA
      refine WL.nil (NX.next ?_)
      refine CW.seq (CW.region ?_)
      refine WL.vv rfl rfl (bz rfl rfl Tryz.underlying39 rfl R8 bn) (by decide) ?_
      refine WL.st rfl rfl rfl rfl rfl L8.b3 rfl (cX _) bn fun w9 R9 O9=> ?_
      have e:aA (k+1) p x=((aA k (aA k (aA k p x).1 (br mStart)).1 x).1,(aA k (aA k (aA k p x).1 (br mStart)).1 x).2):=by rw [aA,if_neg N0,if_neg N1,if_pos C,if_pos h2]
      refine WL.nil (NX.next (CW.ret ?_))
      exact NX.fT (NX.ret (NX.nr rfl rfl R9 Tryz.underlying39 rfl bn (by rw [e];exact (A8.one O9 L8.n3 (by omega)).done H.out)))
    · refine WL.vv rfl rfl (gr (b:=false) rfl rfl rfl rfl (by simp [aS,h2])) (by decide) ?_
      refine WL.nil (NX.next (CW.no rfl (CW.skip (NX.next ?_))))
      refine CW.seq (CW.region ?_)
      refine WL.vv rfl rfl (bz rfl rfl Tryz.underlying39 rfl R5 bn) (by decide) ?_
      refine WL.st rfl rfl rfl rfl rfl L5.b3 rfl (cX _) bn fun w9 R9 O9=> ?_
      have e:aA (k+1) p x=((aA k p x).1,(aA k p x).2):=by rw [aA,if_neg N0,if_neg N1,if_pos C,if_neg h2]
      refine WL.nil (NX.next (CW.ret ?_))
      exact NX.fT (NX.ret (NX.nr rfl rfl R9 Tryz.underlying39 rfl bn (by rw [e];exact (A5.one O9 L5.n3 (by omega)).done H.out)))
  have hq:(decide ((nth p.af k).name=jR)&&di x)=false:=by
    simp only [Bool.and_eq_false_iff,decide_eq_false_iff_not]
    by_cases h1:(nth p.af k).name=jR
    · right;simpa [h1] using C
    · left;exact h1
  have N2:=C
  clear C
  rw [hq]
  clear hq
  refine CW.no rfl ?_
  refine CW.seq (CW.region (Eg rfl rfl rfl rfl rfl rfl rfl rfl rfl rfl rfl rfl rfl rfl rfl rfl rfl rfl rfl rfl rfl rfl rfl rfl rfl rfl rfl rfl rfl rfl rfl rfl rfl (by decide) (fun _ _ _ _ _ _=>rfl) (by decide) rfl tJ Tryz.underlying9 rfl a0 mA y0 ?_))
  intro E1 aO hb1
  refine NX.next (CW.sub (E':=(100,.bool (decide ((nth p.af k).name=kU)&&decide (x.method=fj)))::uy w b o k x) ⟨hb1.trans (by rw [fN,fN];rfl),(aO 3 (by decide)).trans rfl,(aO 4 (by decide)).trans rfl,(aO 5 (by decide)).trans rfl,(aO 6 (by decide)).trans rfl,(aO 7 (by decide)).trans rfl,(aO 8 (by decide)).trans rfl,(aO 9 (by decide)).trans rfl,trivial⟩ ?_)
  clear aO hb1
  by_cases C:(nth p.af k).name=kU/\x.method=fj
  · have hq:(decide ((nth p.af k).name=kU)&&decide (x.method=fj))=true:=by simp [C.1,C.2]
    rw [hq]
    clear hq
    refine CW.yes rfl ?_
    refine CW.seq (CW.region ?_)
    refine WL.vv rfl rfl (jn (vs:=[(0,.int .i64 6)]) rfl rfl (xw _)) (by decide) ?_
    refine WL.st rfl rfl rfl rfl rfl L.b3 rfl (cX _) bn fun w7 R7 O7=> ?_
    have e:aA (k+1) p x=(p,rep 6 0 0 0):=by rw [aA,if_neg N0,if_neg N1,if_neg N2,if_pos C]
    refine WL.nil (NX.next (CW.ret ?_))
    exact NX.fT (NX.ret (NX.nr rfl rfl R7 Tryz.underlying39 rfl bn (by rw [e];exact (HS.one O7 L.n3 (by omega)).done H.out)))
  have hq:(decide ((nth p.af k).name=kU)&&decide (x.method=fj))=false:=by
    simp only [Bool.and_eq_false_iff,decide_eq_false_iff_not]
    by_cases h1:(nth p.af k).name=kU
    · right;exact fun h2=>C ⟨h1,h2⟩
    · left;exact h1
  have N3:=C
  clear C
  rw [hq]
  clear hq
  refine CW.no rfl ?_
  refine CW.seq (CW.region (Eg rfl rfl rfl rfl rfl rfl rfl rfl rfl rfl rfl rfl rfl rfl rfl rfl rfl rfl rfl rfl rfl rfl rfl rfl rfl rfl rfl rfl rfl rfl rfl rfl rfl (by decide) (fun _ _ _ _ _ _=>rfl) (by decide) rfl tJ Tryz.underlying9 rfl a0 mA y0 ?_))
  intro E1 aO hb1
  refine NX.next (CW.sub (E':=(112,.bool (decide ((nth p.af k).name=gH)&&decide (x.method=eT)))::uy w b o k x) ⟨hb1.trans (by rw [fN,fN];rfl),(aO 3 (by decide)).trans rfl,(aO 4 (by decide)).trans rfl,(aO 5 (by decide)).trans rfl,(aO 6 (by decide)).trans rfl,(aO 7 (by decide)).trans rfl,(aO 8 (by decide)).trans rfl,(aO 9 (by decide)).trans rfl,trivial⟩ ?_)
  clear aO hb1
  by_cases C:(nth p.af k).name=gH/\x.method=eT
  · have hq:(decide ((nth p.af k).name=gH)&&decide (x.method=eT))=true:=by simp [C.1,C.2]
    rw [hq]
    clear hq
    refine CW.yes rfl ?_
    obtain ⟨a0,a1,hfz,x6,X6,hct⟩:=HS.pb.lay (k:=k) (by first|exact hkl|assumption)
    refine CW.seq (CW.region ?_)
    refine WL.vv rfl rfl (aU rfl rfl) (by decide) ?_
    refine WL.vv rfl rfl (aU rfl rfl) (by decide) ?_
    refine WL.vv rfl rfl (pL rfl rfl) (by decide) ?_
    refine WL.vv rfl rfl (cO rfl rfl ox) (by decide) ?_
    refine WL.vv rfl rfl (cr rfl rfl Tryz.underlying3 rfl a1) (by decide) ?_
    refine WL.c rfl rfl (bT (args:= #[.int .i64 (nth p.af k).count]) Kt rfl rfl rfl) (by decide) (BW HS.pb (nth p.af k).count hct) ?_
    rintro _ w6 ⟨rfl,ep,GL⟩
    refine ⟨_,rfl,?_⟩
    have A6:=HS.below ep
    have L6:=L.below ep
    clear a0 a1 hfz
    obtain ⟨a0,a1,hfz, -, -, -⟩:=A6.pb.lay (k:=k) (by first|exact hkl|assumption)
    refine WL.vv rfl rfl (pL rfl rfl) (by decide) ?_
    refine WL.vv rfl rfl (cO rfl rfl ox) (by decide) ?_
    refine WL.s rfl rfl (ze rfl rfl rfl yR rfl a1 (hfz _)) ?_
    have A7:=A6.put (a:=⟨b,o+k*2+1,none⟩) x6 (A6.pb.Pk (i:=k) (by first|exact hkl|assumption) GL)
    have L7:=L6.mine (a:=⟨b,o+k*2+1,none⟩) (.int .i64 (bR (nth p.af k).count)) x6
    refine WL.nil (NX.next ?_)
    clear l0 l1 y0 y1 y2 y3
    obtain ⟨l0,l1,y0,y1,y2,y3⟩:=L7.cells
    refine CW.seq (CW.seq (CW.region ?_))
    refine WL.vv rfl rfl (cO rfl rfl CY) (by decide) ?_
    refine WL.vv rfl rfl (cr rfl rfl Tryz.underlying3 rfl y2) (by decide) ?_
    refine WL.nil (NX.next (CW.block ?_))
    refine CW.seq (CW.region ?_)
    by_cases h0:x.val=0
    · refine WL.vv rfl rfl (gr (b:=true) rfl rfl rfl rfl (by simp [aS,h0])) (by decide) ?_
      refine WL.vv rfl rfl (cq rfl rfl) (by decide) ?_
      refine WL.nil (NX.next (CW.yes rfl ?_))
      refine CW.seq (CW.region ?_)
      obtain ⟨l0,l1,y0,y1,y2,y3⟩:=L7.cells
      refine WL.vv rfl rfl (aU rfl rfl) (by decide) ?_
      refine WL.c rfl rfl (BA (args:= #[.string bZ]) zS rfl rfl rfl rfl) (by decide) (BJ IH A7.pb (by rw [List.length_set];omega) (m:=bZ) (by decide) l0 l1) ?_
      rintro _ w8 ⟨rfl,AO,vC⟩
      refine ⟨_,rfl,?_⟩
      have A8:=A7.call AO vC
      have L8:=L7.call vC
      clear l0 l1 y0 y1 y2 y3
      clear AO vC
      refine WL.st rfl rfl rfl rfl rfl L8.b3 rfl (cX _) bn fun w9 R9 O9=> ?_
      have e:aA (k+1) p x=((aA k (bump p k) (br bZ)).1,(aA k (bump p k) (br bZ)).2):=by rw [aA,if_neg N0,if_neg N1,if_neg N2,if_neg N3,if_pos C,if_pos h0]
      refine WL.nil (NX.next (CW.ret ?_))
      exact NX.fT (NX.ret (NX.fT (NX.ret (NX.nr rfl rfl R9 Tryz.underlying39 rfl bn (by rw [e];exact (A8.one O9 L8.n3 (by omega)).done H.out)))))
    refine WL.vv rfl rfl (gr (b:=false) rfl rfl rfl rfl (by simp [aS,h0])) (by decide) ?_
    refine WL.vv rfl rfl (cq rfl rfl) (by decide) ?_
    refine WL.nil (NX.next (CW.no rfl ?_))
    refine CW.seq (CW.region ?_)
    by_cases h1:x.val=1
    · refine WL.vv rfl rfl (gr (b:=true) rfl rfl rfl rfl (by simp [aS,h1])) (by decide) ?_
      refine WL.vv rfl rfl (cq rfl rfl) (by decide) ?_
      refine WL.nil (NX.next (CW.yes rfl ?_))
      refine CW.seq (CW.region ?_)
      obtain ⟨l0,l1,y0,y1,y2,y3⟩:=L7.cells
      refine WL.vv rfl rfl (aU rfl rfl) (by decide) ?_
      refine WL.c rfl rfl (BA (args:= #[.string mStart]) zS rfl rfl rfl rfl) (by decide) (BJ IH A7.pb (by rw [List.length_set];omega) (m:=mStart) (by decide) l0 l1) ?_
      rintro _ w8 ⟨rfl,AO,vC⟩
      refine ⟨_,rfl,?_⟩
      have A8:=A7.call AO vC
      have L8:=L7.call vC
      clear l0 l1 y0 y1 y2 y3
      clear AO vC
      refine WL.st rfl rfl rfl rfl rfl L8.b3 rfl (cX _) bn fun w9 R9 O9=> ?_
      have e:aA (k+1) p x=((aA k (bump p k) (br mStart)).1,(aA k (bump p k) (br mStart)).2):=by rw [aA,if_neg N0,if_neg N1,if_neg N2,if_neg N3,if_pos C,if_neg h0,if_pos h1]
      refine WL.nil (NX.next (CW.ret ?_))
      exact NX.fT (NX.ret (NX.fT (NX.ret (NX.nr rfl rfl R9 Tryz.underlying39 rfl bn (by rw [e];exact (A8.one O9 L8.n3 (by omega)).done H.out)))))
    refine WL.vv rfl rfl (gr (b:=false) rfl rfl rfl rfl (by simp [aS,h1])) (by decide) ?_
    refine WL.vv rfl rfl (cq rfl rfl) (by decide) ?_
    refine WL.nil (NX.next (CW.no rfl (CW.skip (NX.HU (NX.next ?_)))))
    clear a0 a1 hfz
    have vm:nth (bump p k).af k=⟨(nth p.af k).name,bR (nth p.af k).count⟩:=by rw [J9 hkl,if_pos rfl]
    obtain ⟨a0,a1,hfz, -, -, -⟩:=A7.pb.lay (k:=k) (by rw [List.length_set];exact hkl)
    change World.cell? _ _=some (.int .i64 (nth (bump p k).af k).count) at a1
    rw [vm] at a1
    refine CW.seq (CW.region ?_)
    refine WL.vv rfl rfl (aU rfl rfl) (by decide) ?_
    refine WL.vv rfl rfl (pL rfl rfl) (by decide) ?_
    refine WL.vv rfl rfl (cO rfl rfl ox) (by decide) ?_
    refine WL.vv rfl rfl (cr rfl rfl Tryz.underlying3 rfl a1) (by decide) ?_
    refine WL.vv rfl rfl (jn (vs:=[(1,.int .i64 (bR (nth p.af k).count))]) rfl rfl (Cn _)) (by decide) ?_
    refine WL.st rfl rfl rfl rfl rfl L7.b3 rfl (cX _) bn fun w9 R9 O9=> ?_
    have e:aA (k+1) p x=(bump p k,rep 0 (bR (nth p.af k).count) 0 0):=by rw [aA,if_neg N0,if_neg N1,if_neg N2,if_neg N3,if_pos C,if_neg h0,if_neg h1,vm]
    refine WL.nil (NX.next (CW.ret ?_))
    exact NX.fT (NX.ret (NX.nr rfl rfl R9 Tryz.underlying39 rfl bn (by rw [e];exact (A7.one O9 L7.n3 (by omega)).done H.out)))
  have hq:(decide ((nth p.af k).name=gH)&&decide (x.method=eT))=false:=by
    simp only [Bool.and_eq_false_iff,decide_eq_false_iff_not]
    by_cases h1:(nth p.af k).name=gH
    · right;exact fun h2=>C ⟨h1,h2⟩
    · left;exact h1
  have N4:=C
  clear C
  rw [hq]
  clear hq
  refine CW.no rfl ?_
  refine CW.seq (CW.region (Eg rfl rfl rfl rfl rfl rfl rfl rfl rfl rfl rfl rfl rfl rfl rfl rfl rfl rfl rfl rfl rfl rfl rfl rfl rfl rfl rfl rfl rfl rfl rfl rfl rfl (by decide) (fun _ _ _ _ _ _=>rfl) (by decide) rfl tJ Tryz.underlying9 rfl a0 mA y0 ?_))
  intro E1 aO hb1
  refine NX.next (CW.sub (E':=(146,.bool (decide ((nth p.af k).name=jC)&&decide (x.method=eS)))::uy w b o k x) ⟨hb1.trans (by rw [fN,fN];rfl),(aO 3 (by decide)).trans rfl,(aO 4 (by decide)).trans rfl,(aO 5 (by decide)).trans rfl,(aO 6 (by decide)).trans rfl,(aO 7 (by decide)).trans rfl,(aO 8 (by decide)).trans rfl,(aO 9 (by decide)).trans rfl,trivial⟩ ?_)
  clear aO hb1
  by_cases C:(nth p.af k).name=jC/\x.method=eS
  · have hq:(decide ((nth p.af k).name=jC)&&decide (x.method=eS))=true:=by simp [C.1,C.2]
    rw [hq]
    clear hq
    refine CW.yes rfl ?_
    refine CW.seq (CW.region ?_)
    obtain ⟨l0,l1,y0,y1,y2,y3⟩:=L.cells
    refine WL.vv rfl rfl (aU rfl rfl) (by decide) ?_
    refine WL.c rfl rfl (BA (args:= #[.string bZ]) zS rfl rfl rfl rfl) (by decide) (BJ IH HS.pb (by omega) (m:=bZ) (by decide) l0 l1) ?_
    rintro _ w5 ⟨rfl,ij,eu⟩
    refine ⟨_,rfl,?_⟩
    have A5:=HS.call ij eu
    have L5:=L.call eu
    clear l0 l1 y0 y1 y2 y3
    clear ij eu
    refine WL.nil (NX.next ?_)
    refine CW.seq (CW.region ?_)
    obtain ⟨l0,l1,y0,y1,y2,y3⟩:=L5.cells
    refine WL.vv rfl rfl (aU rfl rfl) (by decide) ?_
    refine WL.c rfl rfl (BA (args:= #[.string mStart]) zS rfl rfl rfl rfl) (by decide) (BJ IH A5.pb (by rw [zn];omega) (m:=mStart) (by decide) l0 l1) ?_
    rintro _ w6 ⟨rfl,AK,tT⟩
    refine ⟨_,rfl,?_⟩
    have A6:=A5.call AK tT
    have L6:=L5.call tT
    clear l0 l1 y0 y1 y2 y3
    clear AK tT
    refine WL.st rfl rfl rfl rfl rfl L6.b3 rfl (cX _) bn fun w9 R9 O9=> ?_
    have e:aA (k+1) p x=((aA k (aA k p (br bZ)).1 (br mStart)).1,(aA k (aA k p (br bZ)).1 (br mStart)).2):=by rw [aA,if_neg N0,if_neg N1,if_neg N2,if_neg N3,if_neg N4,if_pos C]
    refine WL.nil (NX.next (CW.ret ?_))
    exact NX.fT (NX.ret (NX.nr rfl rfl R9 Tryz.underlying39 rfl bn (by rw [e];exact (A6.one O9 L6.n3 (by omega)).done H.out)))
  have hq:(decide ((nth p.af k).name=jC)&&decide (x.method=eS))=false:=by
    simp only [Bool.and_eq_false_iff,decide_eq_false_iff_not]
    by_cases h1:(nth p.af k).name=jC
    · right;exact fun h2=>C ⟨h1,h2⟩
    · left;exact h1
  have N5:=C
  clear C
  rw [hq]
  clear hq
  refine CW.no rfl ?_
  refine CW.seq (CW.region ?_)
  refine WL.vv rfl rfl (aU rfl rfl) (by decide) ?_
  refine WL.vv rfl rfl (pL rfl rfl) (by decide) ?_
  refine WL.vv rfl rfl (cO rfl rfl tJ) (by decide) ?_
  refine WL.vv rfl rfl (cr rfl rfl Tryz.underlying9 rfl a0) (by decide) ?_
  refine WL.vv rfl rfl (ab1 rfl rfl rfl (show _=decide ((nth p.af k).name=jJ) from fN _ _)) (by decide) ?_
  refine WL.vv rfl rfl (cq rfl rfl) (by decide) ?_
  refine WL.nil (NX.next (CW.sub (E':=(161,.bool (decide ((nth p.af k).name=jJ)))::uy w b o k x) ⟨rfl,rfl,rfl,rfl,rfl,rfl,rfl,rfl,trivial⟩ ?_))
  by_cases C:(nth p.af k).name=jJ
  · have hq:(decide ((nth p.af k).name=jJ))=true:=by simp [C]
    rw [hq]
    clear hq
    refine CW.yes rfl ?_
    obtain ⟨l0,l1,y0,y1,y2,y3⟩:=L.cells
    refine CW.seq (CW.region ?_)
    refine WL.vv rfl rfl (cr rfl rfl Tryz.underlying73 rfl l0) (by decide) ?_
    refine WL.vv rfl rfl (cr rfl rfl Tryz.underlying3 rfl l1) (by decide) ?_
    refine WL.vv rfl rfl (iE rfl rfl rfl rfl hw) (by decide) ?_
    refine WL.vv rfl rfl (bz rfl rfl Tryz.underlying43 rfl L.b2 kA) (by decide) ?_
    refine WL.c rfl rfl (bT (args:= #[PQ g,.int .i64 ((k:Nat):Int),dL x]) xx rfl rfl rfl) (by decide) (IH _ _ _ _ _ _ HS.pb HX (by omega)) ?_
    rintro _ v5 ⟨rfl,ij,eu⟩
    refine ⟨_,rfl,?_⟩
    refine WL.vv rfl rfl (cJ rfl gK) (by decide) ?_
    refine WL.st rfl rfl rfl rfl rfl (show aJ (v5.alloc (.cells aY 39)) v5.heap.size 39 aY from aJ.new v5 _ _) rfl (cX _) bn fun w5 R5 O5=> ?_
    have B5:Below v5.heap.size v5 w5:=qa O5
    have AX:=(HS.call ij eu)
    have LX:=(L.call eu)
    have DA:w.heap.size+4<=v5.heap.size:=by have:=LX.b3.lt;omega
    have lR: ¬Gr K wc v5 v5.heap.size:=fun hk=>by have:=(AX.pb.kb _ hk).2;omega
    have A5:=AX.below B5
    have L5:=LX.below B5
    clear AX LX B5 O5 ij eu l0 l1 y0 y1 y2 y3
    generalize v5.heap.size=b5 at *
    refine WL.nil (NX.next ?_)
    obtain ⟨r0,r1,r2,r3,r4,rf⟩:=R5.rep
    refine CW.seq (CW.seq (CW.region ?_))
    refine WL.vv rfl rfl (cO rfl rfl xQ) (by decide) ?_
    refine WL.vv rfl rfl (cr rfl rfl Tryz.underlying3 rfl r0) (by decide) ?_
    by_cases h2:(aA k p x).2.code=0
    · refine WL.vv rfl rfl (gr (b:=true) rfl rfl rfl rfl (by simp [aS,h2])) (by decide) ?_
      refine WL.nil (NX.next (CW.yes rfl ?_))
      refine CW.region ?_
      refine WL.vv rfl rfl (cO rfl rfl C0) (by decide) ?_
      refine WL.vv rfl rfl (cr rfl rfl Tryz.underlying3 rfl r1) (by decide) ?_
      refine WL.vv rfl rfl (Pm rfl rfl rfl rfl) (by decide) ?_
      refine WL.vv rfl rfl (ab2 rfl rfl rfl rfl rfl) (by decide) ?_
      refine WL.vv rfl rfl (cO rfl rfl C0) (by decide) ?_
      refine WL.s rfl rfl (ze rfl rfl rfl yR rfl r1 (rf _)) ?_
      have A6:=A5.far (a:=⟨b5,1,none⟩) (.int .i64 (min (cv .mul .i64 2 (aA k p x).2.val) 999)) lR (show w.heap.size<=b5 by omega)
      have L6:=L5.far (a:=⟨b5,1,none⟩) (.int .i64 (min (cv .mul .i64 2 (aA k p x).2.val) 999)) (.inr DA)
      have R6:=R5.ux 1 (.int .i64 (min (cv .mul .i64 2 (aA k p x).2.val) 999))
      refine WL.nil (NX.next ?_)
      refine CW.seq (CW.region ?_)
      refine WL.vv rfl rfl (bz rfl rfl Tryz.underlying39 rfl R6 bn) (by decide) ?_
      refine WL.st rfl rfl rfl rfl (cs:=dV ⟨(aA k p x).2.code,min (cv .mul .i64 2 (aA k p x).2.val) 999,(aA k p x).2.text,(aA k p x).2.want,(aA k p x).2.had⟩) rfl L6.b3 rfl (cX _) bn fun w9 R9 O9=> ?_
      have e:aA (k+1) p x=((aA k p x).1,⟨(aA k p x).2.code,min (cv .mul .i64 2 (aA k p x).2.val) 999,(aA k p x).2.text,(aA k p x).2.want,(aA k p x).2.had⟩):=by rw [aA,if_neg N0,if_neg N1,if_neg N2,if_neg N3,if_neg N4,if_neg N5,if_pos C,wO,if_pos h2];rfl
      refine WL.nil (NX.next (CW.ret ?_))
      exact NX.fT (NX.ret (NX.nr rfl rfl R9 Tryz.underlying39 rfl bn (by rw [e];exact (A6.one O9 L6.n3 (by omega)).done H.out)))
    · refine WL.vv rfl rfl (gr (b:=false) rfl rfl rfl rfl (by simp [aS,h2])) (by decide) ?_
      refine WL.nil (NX.next (CW.no rfl (CW.skip (NX.next ?_))))
      refine CW.seq (CW.region ?_)
      refine WL.vv rfl rfl (bz rfl rfl Tryz.underlying39 rfl R5 bn) (by decide) ?_
      refine WL.st rfl rfl rfl rfl rfl L5.b3 rfl (cX _) bn fun w9 R9 O9=> ?_
      have e:aA (k+1) p x=((aA k p x).1,(aA k p x).2):=by rw [aA,if_neg N0,if_neg N1,if_neg N2,if_neg N3,if_neg N4,if_neg N5,if_pos C,wO,if_neg h2]
      refine WL.nil (NX.next (CW.ret ?_))
      exact NX.fT (NX.ret (NX.nr rfl rfl R9 Tryz.underlying39 rfl bn (by rw [e];exact (A5.one O9 L5.n3 (by omega)).done H.out)))
  have hq:(decide ((nth p.af k).name=jJ))=false:=by
    simp only [Bool.and_eq_false_iff,decide_eq_false_iff_not]
    exact C
  have N6:=C
  clear C
  rw [hq]
  clear hq
  refine CW.no rfl ?_
  refine CW.skip (NX.HU (NX.next ?_))
  refine CW.seq (CW.region ?_)
  refine WL.vv rfl rfl (cr rfl rfl Tryz.underlying73 rfl l0) (by decide) ?_
  refine WL.vv rfl rfl (cr rfl rfl Tryz.underlying3 rfl l1) (by decide) ?_
  refine WL.vv rfl rfl (iE rfl rfl rfl rfl hw) (by decide) ?_
  refine WL.vv rfl rfl (bz rfl rfl Tryz.underlying43 rfl L.b2 kA) (by decide) ?_
  refine WL.c rfl rfl (bT (args:= #[PQ g,.int .i64 ((k:Nat):Int),dL x]) xx rfl rfl rfl) (by decide) (IH _ _ _ _ _ _ HS.pb HX (by omega)) ?_
  rintro _ w5 ⟨rfl,ij,eu⟩
  refine ⟨_,rfl,?_⟩
  have A5:=HS.call ij eu
  have L5:=L.call eu
  refine WL.st rfl rfl rfl rfl rfl L5.b3 rfl (cX _) bn fun w9 R9 O9=> ?_
  have e:aA (k+1) p x=((aA k p x).1,(aA k p x).2):=by rw [aA,if_neg N0,if_neg N1,if_neg N2,if_neg N3,if_neg N4,if_neg N5,if_neg N6]
  refine WL.nil (NX.next (CW.ret ?_))
  exact (NX.nr rfl rfl R9 Tryz.underlying39 rfl bn (by rw [e];exact (A5.one O9 L5.n3 (by omega)).done H.out))
set_option maxHeartbeats 4000000 in
theorem adY(C3:EC):xd 0:=by
  intro K w g S2 p x h hx hk
  have HW:=show Below w.heap.size w ((((w.alloc (.cells #[PQ g] 73)).alloc (.cells #[.int .i64 ((0:Nat):Int)] 3)).alloc (.cells #[.string x.method,.string x.key,.int .i64 x.val,.string x.text] 43)).alloc (.cells aY 39)) by go_grown
  have hnk: ∀i,¬K (w.heap.size+i):=fun i hk=>by have:=(h.kb _ hk).2;omega
  have b0:=show aJ ((((w.alloc (.cells #[PQ g] 73)).alloc (.cells #[.int .i64 ((0:Nat):Int)] 3)).alloc (.cells #[.string x.method,.string x.key,.int .i64 x.val,.string x.text] 43)).alloc (.cells aY 39)) w.heap.size 73 #[PQ g] from (((aJ.new w _ _).alloc _).alloc _).alloc _
  have b1:=show aJ ((((w.alloc (.cells #[PQ g] 73)).alloc (.cells #[.int .i64 ((0:Nat):Int)] 3)).alloc (.cells #[.string x.method,.string x.key,.int .i64 x.val,.string x.text] 43)).alloc (.cells aY 39)) (w.heap.size+1) 3 #[.int .i64 ((0:Nat):Int)] by
    have:=(aJ.new (w.alloc (.cells #[PQ g] 73)) 3 #[.int .i64 ((0:Nat):Int)]);simp only [World.size_alloc] at this;exact (this.alloc _).alloc _
  have b2:=show aJ ((((w.alloc (.cells #[PQ g] 73)).alloc (.cells #[.int .i64 ((0:Nat):Int)] 3)).alloc (.cells #[.string x.method,.string x.key,.int .i64 x.val,.string x.text] 43)).alloc (.cells aY 39)) (w.heap.size+1+1) 43 #[.string x.method,.string x.key,.int .i64 x.val,.string x.text] by
    have:=(aJ.new ((w.alloc (.cells #[PQ g] 73)).alloc (.cells #[.int .i64 ((0:Nat):Int)] 3)) 43 #[.string x.method,.string x.key,.int .i64 x.val,.string x.text]);simp only [World.size_alloc] at this;exact this.alloc _
  have b3:=show aJ ((((w.alloc (.cells #[PQ g] 73)).alloc (.cells #[.int .i64 ((0:Nat):Int)] 3)).alloc (.cells #[.string x.method,.string x.key,.int .i64 x.val,.string x.text] 43)).alloc (.cells aY 39)) (w.heap.size+1+1+1) 39 aY by
    have:=(aJ.new (((w.alloc (.cells #[PQ g] 73)).alloc (.cells #[.int .i64 ((0:Nat):Int)] 3)).alloc (.cells #[.string x.method,.string x.key,.int .i64 x.val,.string x.text] 43)) 39 aY);simp only [World.size_alloc] at this;exact this
  have HS:=(St.start h).below HW
  have Dm: ¬K (w.heap.size+1+1+1):=hnk 3
  refine qc (E:=[(0,PQ g),(1,.int .i64 ((0:Nat):Int)),(2,dL x)]) Tryz.func41 rfl Tryz.ntmps41 (by simp) (by simp) ?_
  refine CW.seq (CW.region ?_)
  refine WL.vv rfl rfl (jH rfl rfl) (by decide) ?_
  refine WL.vv rfl rfl (jH rfl rfl) (by decide) ?_
  refine WL.vv rfl rfl (jH rfl rfl) (by decide) ?_
  refine WL.vv rfl rfl (cJ rfl gK) (by decide) ?_
  refine WL.nil (NX.next ?_)
  show CW _ Tryz.prog _ _ _ ((((w.alloc (.cells #[PQ g] 73)).alloc (.cells #[.int .i64 ((0:Nat):Int)] 3)).alloc (.cells #[.string x.method,.string x.key,.int .i64 x.val,.string x.text] 43)).alloc (.cells aY 39))
  refine CW.sub (E':=[(3,PQ (w.heap.size)),(4,PQ (w.heap.size+1)),(5,PQ (w.heap.size+1+1)),(6,PQ (w.heap.size+1+1+1))]) ⟨rfl,by simp only [World.size_alloc];rfl,by simp only [World.size_alloc];rfl,by simp only [World.size_alloc];rfl,trivial⟩ ?_
  generalize ((((w.alloc (.cells #[PQ g] 73)).alloc (.cells #[.int .i64 ((0:Nat):Int)] 3)).alloc (.cells #[.string x.method,.string x.key,.int .i64 x.val,.string x.text] 43)).alloc (.cells aY 39))=wa at HW b0 b1 b2 b3 HS ⊢
  clear HW hnk
  refine CW.seq (CW.seq (CW.region ?_))
  refine WL.vv rfl rfl (cr rfl rfl Tryz.underlying3 rfl (b1.cell 0)) (by decide) ?_
  refine WL.vv rfl rfl (gr (b:=true) rfl rfl rfl rfl rfl) (by decide) ?_
  refine WL.nil (NX.next (CW.yes rfl ?_))
  refine CW.seq (CW.tail 4 mo (by kernel_rfl) fun wc hwd cy=> ?_)
  replace b0:=b0.below cy b0.lt
  replace b2:=b2.below cy b2.lt
  replace b3:=b3.below cy b3.lt
  replace HS:=HS.below cy
  refine WS.vv rfl rfl (cr rfl rfl Tryz.underlying73 rfl (b0.cell 0)) (by decide) ?_
  refine WS.vv rfl rfl (pL rfl rfl) (by decide) ?_
  refine WS.vv rfl rfl (cO rfl rfl CZ) (by decide) ?_
  refine WS.vv rfl rfl (bz rfl rfl Tryz.underlying43 rfl b2 kA) (by decide) ?_
  refine WS.go ?_
  refine WL.c rfl rfl (bT (args:= #[PQ g,dL x]) V7 rfl rfl rfl) (by decide) (C3 _ _ _ _ _ _ HS.pb hx) ?_
  rintro _ w5 ⟨rfl,ij,eu⟩
  refine ⟨_,rfl,?_⟩
  have A5:=HS.call ij eu
  have R5:=b3.bV eu Dm
  have n5: ¬Gr K wc w5 (w.heap.size+1+1+1):=fun q=>by rcases q with q|q;exact Dm q;have:=b3.lt;omega
  refine WL.st rfl rfl rfl rfl rfl R5 rfl (cX _) bn fun w9 R9 O9=> ?_
  refine WL.nil (NX.next (CW.ret ?_))
  exact NX.ret (NX.nr rfl rfl R9 Tryz.underlying39 rfl bn ((A5.one O9 n5 (by omega)).done h))
theorem Qv(C3:EC): ∀k,xd k
  | 0=>adY C3
  | k+1=>adX (Qv C3 k)
end
section
open Go.RowKit Go
variable [GC]
theorem WU[kI][mi][og]:EC:=fun K w g S2 p x h hx=>adU (fun K w g S2 p x h hx=>adW h hx) h hx
theorem Ve[kI][mi][og](p:Part)(x:Call)(hc:p.core.cells.length<=4294967296)(hl:p.af.length<=4294967296)(hx:x.text.size<4294967281):cM Tryz.prog 10 none [enc p,enc x] (.aC [enc (cW p x).1,enc (cW p x).2]) [] [(3,2),(5,2)] :=
 adT (Qv WU) p x hc hl hx
end
section
open Go.RowKit Go
variable [GC]
section
variable {n:Nat}{P:Program}{E:List (Nat×Value)}{w w':World}{o:Oper}{v u:Value}
theorem uj{T:TypeId}{x:Operand}{b c:Bool}(ho:o.op= .unOp .not T x)(hx:ev E x=some (.bool b))(hb:(!b)=c):fk n P E o w (.bool c) w:=hb▸wu ho hx
end
theorem aJ.alt{A:Addr->Prop}{w w':World}{b:Nat}{T:TypeId}{cs:Array Value}(h:aJ w b T cs)(ha:Alt A w w')(hA: ∀p,A p->p.block≠b):aJ w' b T cs:=(ha.blk b h.lt fun p hp hq=>hA p hq hp).trans h
theorem Cm{a b c:World}{B:Nat}(h:Below B a b)(k:Below B b c):Below B a c:=h.trans k
section
variable {wd:World}{p q:Part}{x:Call}{r:da}{v:Value}
theorem OV{B:Nat}{W:World}{T1 T2:Value}(h1:R W (fun _=>False) (aN p.core.cells) T1)(h2:R W (fun _=>False) (aN p.af) T2)(l1:qI B W T1 2)(l2:qI B W T2 2)(hap:BZ T1 T2)(hks:p.core.kind.size<=maxLen)(hct:IntKind.i64.min<=p.core.count/\p.core.count<=IntKind.i64.max):OP B W.heap.size W T1 T2 p:=by
 have h1':R W (fun _=>False) (.sl ((cS p.core.cells).map jV)) T1:=by rw [wo];exact h1
 have h2':R W (fun _=>False) (.sl ((fR p.af).map jV)) T2:=by rw [Bz];exact h2
 exact ⟨⟨W.heap.size,cu.of (K:=fun b=>B<=b/\b<W.heap.size) (g:=W.heap.size) h1' l1 (fun b h1 h2=>⟨h1,h2⟩) fun b h1 h2=>by omega⟩,⟨W.heap.size,cu.of (K:=fun b=>B<=b/\b<W.heap.size) (g:=W.heap.size) h2' l2 (fun b h1 h2=>⟨h1,h2⟩) fun b h1 h2=>by omega⟩,
  fun b ⟨o,s,len,cap,e,hc⟩ ⟨o',s',len',cap',e',hc'⟩=>hap b o s len cap b o' s' len' cap' e hc e' hc' rfl,hks,hct,Nat.le_refl _⟩
theorem Ew(sp:Sm.sm p)(hG:Rd wd)(hv:R wd (fun _=>False) (enc p) v):Calls Tryz.prog 8 #[v] wd fun e w'=> ∃T1 T2,e= .returned (.agg (aE p T1 T2))/\OP wd.heap.size w'.heap.size w' T1 T2 p/\Below wd.heap.size wd w':=by
 refine ((U3 p sp).2 wd (fun _=>False) 0 [v] hG ⟨_,[],rfl,hv,rfl⟩ (fun cs h=>by cases h)).mono ?_
 rintro e w' ⟨u,rfl,hu,hf,dw, -⟩
 obtain ⟨T1,T2,rfl,h1,h2,hks,hct⟩:=rW hu
 exact ⟨T1,T2,rfl,OV (R.less h1 fun _ h=>h.elim) (R.less h2 fun _ h=>h.elim) (dw.1 (3,2) (by simp)) (dw.1 (5,2) (by simp)) (dw.2 0 1 (3,2) (5,2) rfl rfl (by simp)) hks hct,hf.jI⟩
theorem Eu{W:World}{M1 M2:Addr->Prop}{u1 u2:Value}(hG:Rd W)(h1:R W M1 (enc p) u1)(h2:R W M2 (enc p) u2):Calls Tryz.prog 11 #[u1,u2] W fun e w'=>e= .returned (.bool true)/\Below W.heap.size W w':=by
 refine (aD.calls (VA p p) hG (vs:=[u1,u2]) ⟨_,_,rfl,R.zero h1,_,[],rfl,R.zero h2,rfl⟩).mono ?_
 rintro e w' ⟨u,rfl,hu,hb⟩
 have hu:u= .bool (decide (p=p)):=hu
 rw [hu]
 exact ⟨by simp,hb⟩
theorem SU{W:World}{v:Value}(k:Nat)(hG:Rd W)(h:R W (fun _=>False) (yY p k) v)(hk:k+2*p.core.cells.length+2*p.af.length<=1152921504606846970):Calls Tryz.prog 14 #[v,.int .i64 (k:Int)] W fun e w'=>e= .returned (.int .i64 ((k+2*p.core.cells.length+2*p.af.length:Nat):Int))/\Below W.heap.size W w':=by
 refine (aD.calls (Vc p k hk) hG (vs:=[v,.int .i64 (k:Int)]) ⟨_,_,rfl,h,_,[],rfl,yN (by omega) (by omega),rfl⟩).mono ?_
 rintro e w' ⟨u,rfl,hu,hb⟩
 rw [hu.1]
 exact ⟨rfl,hb⟩
variable [kI][mi][og]
end
end
section
open Go.RowKit Go
variable [GC]
theorem Kv{p:Part}{x:Call}(h:eV p=false\/ek x=false):cW p x=(p,rep 7 0 0 0):=by unfold cW;rw [if_pos h]
theorem Wf{p:Part}{x:Call}(hp:eV p=true)(hx:ek x=true)(ho:cK (fB p) (bI x.method)=false):cW p x=(p,rep 1 0 (bI x.method) (fB p)):=by
 unfold cW;rw [if_neg (by simp [hp,hx]),if_pos ho]
theorem Wh{p:Part}{x:Call}(hp:eV p=true)(hx:ek x=true)(ho:cK (fB p) (bI x.method)=true):cW p x=aA p.af.length p x:=by
 unfold cW;rw [if_neg (by simp [hp,hx]),if_neg (by simp [ho])]
theorem Wg{p:Part}{x:Call}(hp:eV p=true)(hx:ek x=true)(ho:cK (fB p) (bI x.method)=true):zE p (cW p x):=by
 rw [Wh hp hx ho]
 exact pQ _ p x hp (Nat.le_refl _) hx ho
theorem We{p:Part}(hp:eV p=true)(x:Call):eV (cW p x).1=true/\gP p (cW p x).1:=by
 by_cases hx:ek x=true
 ·by_cases ho:cK (fB p) (bI x.method)=true
  ·have:=Wg hp hx ho
   exact ⟨this.1,this.2.1⟩
  ·rw [Wf hp hx (by simpa using ho)];exact ⟨hp,gP.refl _⟩
 ·rw [Kv (.inr (by simpa using hx))];exact ⟨hp,gP.refl _⟩
def fE(p:Part)(l:List Call):Nat->Part
 | 0=>p
 | k+1=>(cW (fE p l k) (nth l k)).1
end
section
open Go.RowKit Go
section
variable [GC]
def IL(p:Part):Prop:=p.core.cells.length<=5/\p.af.length<=4
theorem Ws{p:Core}(h:jc p=true):p.cells.length<=4:=oW (nz.1 h).2.1
theorem adH{p:Part}(h:eV p=true):IL p:=by
 obtain ⟨h1,h2,_⟩:=nS.1 h
 have:=Ws h1
 unfold IL;omega
def pO(p:Part)(l:List Call)(k:Nat):List da:=(List.range k).map fun i=>(cW (fE p l i) (nth l i)).2
theorem D4(p:Part)(l:List Call)(k:Nat):pO p l (k+1)=pO p l k++[(cW (fE p l k) (nth l k)).2]:=by simp [pO,List.range_succ]
theorem PK(p:Part)(l:List Call)(k:Nat):(pO p l k).length=k:=by simp [pO]
theorem KL{α:Type}[Inhabited α]{l:List α}{k:Nat}(h:k<l.length):l.drop k=nth l k::l.drop (k+1):=by
 rw [List.drop_eq_getElem_cons h];simp [nth,h]
end
section
variable [GC][kI][mi][og]
end
end
section
open Go.RowKit Go
variable [GC]
def ab5:RB:=ba.filter fun x=> !(Nat.beq x.1 7||Nat.beq x.1 16||Nat.beq x.1 26)
def Jb:VC:=(.rq (.call [] 26 none [(.var 0)] (.one (.agg [.str,.bool,.bool,(.sl 118),(.int .i64),(.sl 86)])) []) (.loop [(.one (.c (.sl 39))),(.one (.c (.int .i64))),(.one (.c .str)),(.one (.c .bool)),(.one (.c .bool)),(.one (.c (.sl 118))),(.one (.c (.int .i64))),(.one (.c (.sl 86)))] [(.bw 39),(.li .i64 0),(.cell (.var 2) 0),(.cell (.var 2) 1),(.cell (.var 2) 2),(.cell (.var 2) 3),(.cell (.var 2) 4),(.cell (.var 2) 5)] (.ite (.ic .lss (.var 4) (.len (.var 1))) (.rq (.cond [] (.bP (.var 1) (.var 4))) (.rq (.call [] 7 none [(.cat (.ah (.var 5)) (.cat (.ah (.var 6)) (.cat (.ah (.var 7)) (.cat (.ah (.var 8)) (.cat (.ah (.var 9)) (.cat (.ah (.var 10)) .cB)))))),(.row [.str,.str,(.int .i64),.str] (.var 1) (.var 4))] (.aC [(.agg [.str,.bool,.bool,(.sl 118),(.int .i64),(.sl 86)]),(.agg [(.int .i64),(.int .i64),.str,(.int .i64),(.int .i64)])]) []) (.rq (.cond [] (.few (.var 3) (.put (.bw 39) (.proj (.var 11) 1)))) (.ite (.ic .eql (.cell (.proj (.var 11) 1) 0) (.li .i64 1)) (.ret (.aI (.aI .bH (.proj (.var 11) 0)) (.app (.var 3) (.put (.bw 39) (.proj (.var 11) 1)))) []) (.again 0 [(.app (.var 3) (.put (.bw 39) (.proj (.var 11) 1))),(.ar .add .i64 (.var 4) (.li .i64 1)),(.cell (.proj (.var 11) 0) 0),(.cell (.proj (.var 11) 0) 1),(.cell (.proj (.var 11) 0) 2),(.cell (.proj (.var 11) 0) 3),(.cell (.proj (.var 11) 0) 4),(.cell (.proj (.var 11) 0) 5)]))))) (.ret (.aI (.aI .bH (.cat (.ah (.var 5)) (.cat (.ah (.var 6)) (.cat (.ah (.var 7)) (.cat (.ah (.var 8)) (.cat (.ah (.var 9)) (.cat (.ah (.var 10)) .cB))))))) (.var 3)) []))))
theorem ag6:bq Tryz.prog ay ab5 16 none=Jb:=by kernel_rfl
def mN(p:Part):Prop:=p.core.cells.length<=1048576/\p.af.length<=1048576
theorem Hy{p:Part}(h:mN p)(x:Call):mN (cW p x).1:=by
 by_cases hp:eV p=true
 ·have:=adH (We hp x).1
  unfold IL at this;unfold mN;omega
 ·rw [Kv (.inl (by simpa using hp))];exact h
theorem Hz{p:Part}(h:mN p)(l:List Call): ∀k,mN (fE p l k)
 | 0=>h
 | k+1=>Hy (Hz h l k) _
theorem U5(p:Part)(x:Call)(hp:mN p)(hx:x.text.size<=1048576):aD Tryz.prog 7 none [enc p,enc x] (.aC [enc (cW p x).1,enc (cW p x).2]) [] :=
 VM p x (Nat.le_trans hp.1 (by decide)) (Nat.le_trans hp.2 (by decide)) (by omega)
theorem VN(p:Part)(l:List Call)(hp:mN p)(h8:l.length<=1048576)(hl: ∀x∈l,x.text.size<=1048576):aD Tryz.prog 16 none [enc p,aN l] (.aC [enc (aR p l).1,aN (aR p l).2]) []:=by
 refine aD.of ag6 rfl afV zm mo rfl (by simpa using (show fz ay.tab QQ [enc p,aN l] from ⟨kX p,Ej l,trivial⟩)) (fun _=>rfl) (fun hfit _=> ?_)
 show VC.den Tryz.prog ay.tab Jb [enc p,aN l] _ _
 have hcp:aD Tryz.prog 26 none [enc p] (enc p) []:= .Ia (Kq p (Nat.le_trans hp.1 (by decide)) (Nat.le_trans hp.2 (by decide)))
 unfold Jb
 (refine bu ?_ (hcp) (kX _) ?_;(focus (simp only [VC.den,E.den,aa,aK,and_true];try exact rfl));(simp only [cA]))
 refine fp l.length (fun k=>[aN (pO p l k),.int .i64 k,.str (fE p l k).core.kind,.bool (fE p l k).core.on,.bool (fE p l k).core.broken,aN (fE p l k).core.cells,.int .i64 (fE p l k).core.count,aN (fE p l k).af])
  (fun k=>aR p l=((aR (fE p l k) (l.drop k)).1,pO p l k++(aR (fE p l k) (l.drop k)).2)) (by simp only [E.den,aa,ai,aj,dh];rfl) (by simp [fE,pO]) ?_
 intro k hk hI _
 simp only [cA]
 have hs:=Hz hp l k
 refine aG (fun h2=> ?_) (fun h2=> ?_)
 ·simp only [E.den,aa,ai,aj] at h2
  have h2:k<l.length:=by simp at h2;exact h2
  have hx:=hl _ (uh h2)
  (refine bh (fun hg=> ?_) ?_;(focus (simp only [bB,gE,E.den,aa,ai,aj] at hg ⊢;(try simp only [D.bool.injEq] at hg);(try simp only [D.bool.injEq]);grind)))
  (refine bu ?_ (U5 (fE p l k) (nth l k) hs hx) (⟨kX _,sr _,trivial⟩) ?_;(focus (simp only [VC.den,E.den,aa,aK,and_true,BC];try exact rfl));(simp only [cA]))
  refine bh (fun _=> ?_) ?_
  ·simp only [E.den,aa,ai,aj]
   have:=PK p l k
   simp;omega
  rw [KL h2,aR] at hI
  refine aG (fun h3=> ?_) (fun h3=> ?_)
  ·simp only [E.den,aa,ai,aj,lH] at h3
   have h3:(cW (fE p l k) (nth l k)).2.code=1:=by simpa using h3
   rw [if_pos h3] at hI
   refine aF ?_
   rw [hI]
   simp only [E.den,aa,ai,aj]
   simp [aN]
  ·simp only [E.den,aa,ai,aj,lH] at h3
   have h3:(cW (fE p l k) (nth l k)).2.code≠1:=by simpa using h3
   rw [if_neg h3] at hI
   refine eH h2 ?_ (by rw [hI,D4];simp [fE])
   rw [D4]
   simp only [E.den,aa,ai,aj,dh]
   rw [db (by omega) (by omega)]
   simp [aN,fE]
 ·simp only [E.den,aa,ai,aj] at h2
  obtain rfl:k=l.length:=by simp at h2;omega
  rw [List.drop_length,aR] at hI
  refine aF ?_
  rw [hI]
  simp only [E.den,aa,ai,aj]
  simp [enc,dh]
section
variable [kI][mi][og]
theorem U4(p:Part)(x:Call)(hp:mN p)(hx:x.text.size<=1048576):cM Tryz.prog 10 none [enc p,enc x] (.aC [enc (cW p x).1,enc (cW p x).2]) [] [(3,2),(5,2)] :=
 Ve p x (Nat.le_trans hp.1 (by decide)) (Nat.le_trans hp.2 (by decide)) (by omega)
theorem Vf(p:Part)(l:List Call)(hp:mN p)(h8:l.length<=1048576)(hl: ∀x∈l,x.text.size<=1048576):cM Tryz.prog 18 none [enc p,aN l] (.aC [enc (aR p l).1,aN (aR p l).2]) [] [(3,2),(5,2),(6,5)]:=by
 refine cM.bK ag8 aeb acq rfl ?_ (fun hfit=> ?_)
 ·exact ⟨kX p,Ej l,trivial⟩
 unfold Q1
 (refine mr ?_ (Kg p (Nat.le_trans hp.1 (by decide)) (Nat.le_trans hp.2 (by decide))) (kX _) ?_;(focus (simp only [VC.den,E.den,aa,aK,and_true];try exact rfl));(simp only [cA]))
 refine fp l.length (fun k=>[aN (pO p l k),.int .i64 k,.str (fE p l k).core.kind,.bool (fE p l k).core.on,.bool (fE p l k).core.broken,aN (fE p l k).core.cells,.int .i64 (fE p l k).core.count,aN (fE p l k).af])
  (fun k=>aR p l=((aR (fE p l k) (l.drop k)).1,pO p l k++(aR (fE p l k) (l.drop k)).2)) (by simp only [E.den,aa,ai,aj,dh];rfl) (by simp [fE,pO]) ?_
 intro k hk hI _
 simp only [cA]
 have hs:=Hz hp l k
 refine aG (fun h2=> ?_) (fun h2=> ?_)
 ·simp only [E.den,aa,ai,aj] at h2
  have h2:k<l.length:=by simp at h2;exact h2
  have hx:=hl _ (uh h2)
  (refine bh (fun hg=> ?_) ?_;(focus (simp only [bB,gE,E.den,aa,ai,aj] at hg ⊢;(try simp only [D.bool.injEq] at hg);(try simp only [D.bool.injEq]);grind)))
  (refine mr ?_ (U4 (fE p l k) (nth l k) hs hx) (⟨kX _,sr _,trivial⟩) ?_;(focus (simp only [VC.den,E.den,aa,aK,and_true,BC];try exact rfl));(simp only [cA]))
  refine bh (fun _=> ?_) ?_
  ·simp only [E.den,aa,ai,aj]
   have:=PK p l k
   simp;omega
  rw [KL h2,aR] at hI
  refine aG (fun h3=> ?_) (fun h3=> ?_)
  ·simp only [E.den,aa,ai,aj,lH] at h3
   have h3:(cW (fE p l k) (nth l k)).2.code=1:=by simpa using h3
   rw [if_pos h3] at hI
   refine aF ?_
   rw [hI]
   simp only [E.den,aa,ai,aj]
   simp [aN]
  ·simp only [E.den,aa,ai,aj,lH] at h3
   have h3:(cW (fE p l k) (nth l k)).2.code≠1:=by simpa using h3
   rw [if_neg h3] at hI
   refine eH h2 ?_ (by rw [hI,D4];simp [fE])
   rw [D4]
   simp only [E.den,aa,ai,aj,dh]
   rw [db (by omega) (by omega)]
   simp [aN,fE]
 ·simp only [E.den,aa,ai,aj] at h2
  obtain rfl:k=l.length:=by simp at h2;omega
  rw [List.drop_length,aR] at hI
  refine aF ?_
  rw [hI]
  simp only [E.den,aa,ai,aj]
  simp [enc,dh]
end
end
section
open Go.RowKit Go
variable [GC]
section
variable {lo hi:Nat}{w w':World}{S S1 S2 S3:Value}{p:Part}{rows:List (List D)}
theorem OS.Z3(h:OS lo hi w S rows)(hw: ∀b,bi S b->w'.heap[b]? =w.heap[b]?)(hs:w.heap.size<=w'.heap.size):OS lo hi w' S rows :=
  ⟨R.keep (fun p v hc hn=>⟨by
      rw [cell_of_heap (hw _ (Classical.not_not.1 hn))];exact hc,hn⟩) _ _ h.rd,
   fun b hb=>⟨(h.bl b hb).1,(h.bl b hb).2.1,fun q hq=>by
      exact (show w'.frozen? q=w.frozen? q from xS (by rw [hq];exact hw b hb)).trans ((h.bl b hb).2.2 q hq)⟩,Nat.le_trans h.le hs⟩
theorem OS.data(h:OS lo hi w S rows):R w (fun _=>False) (.sl rows) S:=R.less h.rd fun _ h=>h.elim
theorem OS.free(h:OS lo hi w S rows): ∀q:Addr,w.frozen? q=true-> ¬bi S q.block:=fun q hf ho=>by
  rw [(h.bl _ ho).2.2 q rfl] at hf;cases hf
theorem OS.abg{l:List Call}(h:OS lo hi w S (l.map aZ.cells))(k:Nat)(hG:Rd w)(hlo:NG<=lo)(hk:k+4*l.length<=1152921504606846970) :
    Calls Tryz.prog 21 #[S,.int .i64 (k:Int)] w fun e w'=>e= .returned (.int .i64 ((k+4*l.length:Nat):Int))/\Alt (fun q=>lo<=q.block/\q.block<hi) w w':=by
  refine (aa8 l k w (fun q=> ¬bi S q.block) S h.rd h.free hG (fun q hq=>by have:=(h.bl _ (Classical.not_not.1 hq)).1;omega) hk).mono ?_
  rintro e w' ⟨rfl,ha, -⟩
  exact ⟨rfl,ha.mono fun q _ hq=>by have:=h.bl _ (Classical.not_not.1 hq);exact ⟨this.1,this.2.1⟩⟩
structure OG(lo hi:Nat)(w:World)(S1 S2 S3:Value)(p:Part)(rows:List (List D)):Prop where
  op:OP lo hi w S1 S2 p
  os:OS lo hi w S3 rows
  a1: ∀b,bi S1 b-> ¬bi S3 b
  a2: ∀b,bi S2 b-> ¬bi S3 b
theorem OG.below(h:OG lo hi w S1 S2 S3 p rows)(hb:Below w.heap.size w w'):OG lo hi w' S1 S2 S3 p rows:=⟨h.op.below hb,h.os.below hb,h.a1,h.a2⟩
theorem OG.alt{A:Addr->Prop}(h:OG lo hi w S1 S2 S3 p rows)(ha:Alt A w w')(hA: ∀q,A q-> ¬(lo<=q.block/\q.block<hi)):OG lo hi w' S1 S2 S3 p rows:=⟨h.op.alt ha hA,h.os.alt ha hA,h.a1,h.a2⟩
structure OM(lo hi:Nat)(w:World)(S1 S2 S3:Value)(p:Part)(k:Nat)(rows:List (List D)):Prop where
  m1:R w (fun q=> ¬bi S1 q.block) (.sl (iY k p.core.cells p.core.cells.length)) S1
  m2:R w (fun q=> ¬bi S2 q.block) (.sl (jF (k+2*p.core.cells.length) p.af p.af.length)) S2
  os:OS lo hi w S3 rows
  b1: ∀b,bi S1 b->b<hi
  b2: ∀b,bi S2 b->b<hi
  a1: ∀b,bi S1 b-> ¬bi S3 b
  a2: ∀b,bi S2 b-> ¬bi S3 b
  ks:p.core.kind.size<=maxLen
  ct:IntKind.i64.min<=p.core.count/\p.core.count<=IntKind.i64.max
theorem OG.mark(h:OG lo hi w S1 S2 S3 p rows)(k:Nat)(hG:Rd w)(hlo:NG<=lo)(hk:k+2*p.core.cells.length+2*p.af.length<=1152921504606846970) :
    Calls Tryz.prog 13 #[.agg (aE p S1 S2),.int .i64 (k:Int)] w fun e w'=>e= .returned (.int .i64 ((k+2*p.core.cells.length+2*p.af.length:Nat):Int))/\Alt (fun q=>lo<=q.block/\q.block<hi) w w'/\OM lo hi w' S1 S2 S3 p k rows:=by
  obtain ⟨g1,q1⟩:=h.op.r1
  obtain ⟨g2,q2⟩:=h.op.r2
  have hle:=h.op.le
  refine (Oy p S1 S2 k w (fun q=> ¬bi S1 q.block) (fun q=> ¬bi S2 q.block) (h.op.cells fun _ h=>h) (h.op.lays fun _ h=>h) (fun q hf ho=>by rw [q1.free ho] at hf;cases hf) (fun q hf ho=>by rw [q2.free ho] at hf;cases hf) hG
    (fun q hq=>by have:=(q1.out (Classical.not_not.1 hq)).1.1;omega) (fun q hq=>by have:=(q2.out (Classical.not_not.1 hq)).1.1;omega) (fun q=>by
      by_cases ho:bi S1 q.block
      · exact .inr (h.op.ap _ ho)
      · exact .inl ho) (fun q hq ho=>by have:=(q1.out ho).1.2;omega) (fun q hq ho=>by have:=(q2.out ho).1.2;omega) hk).mono ?_
  rintro e w' ⟨rfl,ha,m1,m2⟩
  refine ⟨rfl,ha.mono fun q _ hq=> ?_,m1,m2,h.os.Z3 (fun b hb=>ha.blk b (Nat.lt_of_lt_of_le (h.os.bl b hb).2.1 h.os.le) fun q hq hA=> ?_) ha.size,fun b hb=>(q1.out hb).1.2,fun b hb=>(q2.out hb).1.2,h.a1,h.a2,h.op.ks,h.op.ct⟩
  · rcases hq with hq|hq
    · exact (q1.out (Classical.not_not.1 hq)).1
    · exact (q2.out (Classical.not_not.1 hq)).1
  · subst hq
    rcases hA with hA|hA
    · exact h.a1 _ (Classical.not_not.1 hA) hb
    · exact h.a2 _ (Classical.not_not.1 hA) hb
theorem OM.mark{k:Nat}{l:List da}(h:OM lo hi w S1 S2 S3 p k (l.map aZ.cells))(n:Nat)(hG:Rd w)(hlo:NG<=lo)(hk:n+5*l.length<=1152921504606846970) :
    Calls Tryz.prog 22 #[S3,.int .i64 (n:Int)] w fun e w'=>e= .returned (.int .i64 ((n+5*l.length:Nat):Int))/\Alt (fun q=>lo<=q.block/\q.block<hi) w w'/\R w' (fun _=>False) (yY p k) (.agg (aE p S1 S2))/\R w' (fun _=>False) (.sl (kB n l l.length)) S3:=by
  refine (abc l n w (fun q=> ¬bi S3 q.block) S3 h.os.rd h.os.free hG (fun q hq=>by have:=(h.os.bl _ (Classical.not_not.1 hq)).1;omega) hk).mono ?_
  rintro e w' ⟨rfl,ha,m3⟩
  have k1:=R.keep (ha.keeps (fun q hq h1=>h.a1 _ h1 (Classical.not_not.1 hq)) fun _ _ h=>h) _ _ h.m1
  have k2:=R.keep (ha.keeps (fun q hq h1=>h.a2 _ h1 (Classical.not_not.1 hq)) fun _ _ h=>h) _ _ h.m2
  refine ⟨rfl,ha.mono fun q _ hq=>by have:=h.os.bl _ (Classical.not_not.1 hq);exact ⟨this.1,this.2.1⟩,⟨_,rfl,⟨_,_,rfl,⟨rfl,h.ks⟩,_,_,rfl,rfl,_,_,rfl,rfl,_,_,rfl,R.less k1 fun _ h=>h.elim,_,_,rfl,⟨rfl,h.ct⟩,_,_,rfl,R.less k2 fun _ h=>h.elim,rfl⟩⟩,R.less m3 fun _ h=>h.elim⟩
end
section
variable {wd:World}{p q:Part}{l:List Call}{rs:List da}{v v0 v1:Value}
theorem QG{W:World}{M:Addr->Prop}{d:D}(h:R W M (.aC [enc q,d]) v): ∃T1 T2 S,v= .tuple #[.agg (aE q T1 T2),S]/\R W M (enc q) (.agg (aE q T1 T2))/\R W M d S:=by
  obtain ⟨cs,rfl,u,l,e,hu,u2,l2,e2,kv,e3⟩:=h
  obtain ⟨T1,T2,rfl,_⟩:=rW hu
  subst e3 e2
  have:cs= #[.agg (aE q T1 T2),u2]:=by rw [<-Array.toList_inj,e];rfl
  exact ⟨T1,T2,u2,by rw [this],hu,kv⟩
theorem KD(l:List Call):(∀r∈l.map aZ.cells,r.length=4)/\ ∀r∈l.map (aZ.cells (α:=Call)),∀d∈r,pG d=true:=by
  have:=Ot 0 l 0
  rwa [Ou] at this
theorem PJ(l:List da):(∀r∈l.map aZ.cells,r.length=5)/\ ∀r∈l.map (aZ.cells (α:=da)),∀d∈r,pG d=true:=by
  have:=Ow 0 l 0
  rwa [Ox] at this
theorem Ev(sl:Sm.sm l)(hG:Rd wd)(hv:R wd (fun _=>False) (aN l) v):Calls Tryz.prog 17 #[v] wd fun e w'=> ∃S,e= .returned S/\OS wd.heap.size w'.heap.size w' S (l.map aZ.cells)/\Below wd.heap.size wd w':=by
  refine ((VF l (nW.1 sl).1 (nW.1 sl).2).2 wd (fun _=>False) 0 [v] hG ⟨_,[],rfl,hv,rfl⟩ (fun cs h=>by cases h)).mono ?_
  rintro e w' ⟨u,rfl,hu,hf,dw, -⟩
  refine ⟨u,rfl,OS.of (KD l).1 (KD l).2 hu ?_,hf.jI⟩
  obtain ⟨a,len,cap,rfl, -⟩:=(show R w' _ (.sl (l.map aZ.cells)) u from hu)
  exact dw.1 (0,4) (by simp)
theorem ai5(hp:mN p)(h8:l.length<=1048576)(hl: ∀x∈l,x.text.size<=1048576)(hG:Rd wd)(h0:R wd (fun _=>False) (enc p) v0)(h1:R wd (fun _=>False) (aN l) v1) :
    Calls Tryz.prog 16 #[v0,v1] wd fun e w'=> ∃T1 T2 S,e= .returned (.tuple #[.agg (aE (aR p l).1 T1 T2),S])/\R w' (fun _=>False) (enc (aR p l).1) (.agg (aE (aR p l).1 T1 T2))/\R w' (fun _=>False) (aN (aR p l).2) S/\Below wd.heap.size wd w':=by
  refine (aD.calls (VN p l hp h8 hl) hG (vs:=[v0,v1]) ⟨_,_,rfl,h0,_,[],rfl,h1,rfl⟩).mono ?_
  rintro e w' ⟨u,rfl,hu,hb⟩
  obtain ⟨G1,G2,S,rfl,h2,h3⟩:=QG hu
  exact ⟨_,_,_,rfl,h2,h3,hb⟩
theorem Jj{M1 M2:Addr->Prop}(hG:Rd wd)(h0:R wd M1 (aN rs) v0)(h1:R wd M2 (aN rs) v1):Calls Tryz.prog 19 #[v0,v1] wd fun e w'=>e= .returned (.bool true)/\Below wd.heap.size wd w':=by
  refine (aD.calls (VD rs rs) hG (vs:=[v0,v1]) ⟨_,_,rfl,R.zero h0,_,[],rfl,R.zero h1,rfl⟩).mono ?_
  rintro e w' ⟨u,rfl,hu,hb⟩
  have hu:u= .bool (decide (rs=rs)):=hu
  rw [hu]
  exact ⟨by simp,hb⟩
theorem ai3{M1 M2:Addr->Prop}(hG:Rd wd)(h0:R wd M1 (aN l) v0)(h1:R wd M2 (aN l) v1):Calls Tryz.prog 20 #[v0,v1] wd fun e w'=>e= .returned (.bool true)/\Below wd.heap.size wd w':=by
  refine (aD.calls (Vu l l) hG (vs:=[v0,v1]) ⟨_,_,rfl,R.zero h0,_,[],rfl,R.zero h1,rfl⟩).mono ?_
  rintro e w' ⟨u,rfl,hu,hb⟩
  have hu:u= .bool (decide (l=l)):=hu
  rw [hu]
  exact ⟨by simp,hb⟩
theorem SV{W:World}{M:Addr->Prop}(k:Nat)(hG:Rd W)(h:R W M (.sl (kB k rs rs.length)) v)(hk:k+5*rs.length<=1152921504606846970):Calls Tryz.prog 23 #[v,.int .i64 (k:Int)] W fun e w'=>e= .returned (.int .i64 ((k+5*rs.length:Nat):Int))/\Below W.heap.size W w':=by
  refine (aD.calls (Vd rs k hk) hG (vs:=[v,.int .i64 (k:Int)]) ⟨_,_,rfl,R.zero h,_,[],rfl,yN (by omega) (by omega),rfl⟩).mono ?_
  rintro e w' ⟨u,rfl,hu,hb⟩
  rw [hu.1]
  exact ⟨rfl,hb⟩
variable [kI][mi][og]
theorem SW(hp:mN p)(h8:l.length<=1048576)(hl: ∀x∈l,x.text.size<=1048576)(hG:Rd wd)(h0:R wd (fun _=>False) (enc p) v0)(h1:R wd (fun _=>False) (aN l) v1) :
    Calls Tryz.prog 18 #[v0,v1] wd fun e w'=> ∃T1 T2 S,e= .returned (.tuple #[.agg (aE (aR p l).1 T1 T2),S])/\OG wd.heap.size w'.heap.size w' T1 T2 S (aR p l).1 ((aR p l).2.map aZ.cells)/\Below wd.heap.size wd w':=by
  refine ((Vf p l hp h8 hl).2 wd (fun _=>False) 0 [v0,v1] hG ⟨_,_,rfl,h0,_,[],rfl,h1,rfl⟩ (fun cs h=>by cases h)).mono ?_
  rintro e w' ⟨u,rfl,hu,hf,dw, -⟩
  obtain ⟨G1,G2,S,rfl,h2,h3⟩:=QG hu
  obtain ⟨S1,S2,e,k1,k2,hks,hct⟩:=rW h2
  cases e
  have ap:=fun i j x y h1 h2 h3=>dw.2 i j x y h1 h2 h3
  refine ⟨_,_,_,rfl,⟨OV (R.less k1 fun _ h=>h.elim) (R.less k2 fun _ h=>h.elim) (dw.1 (3,2) (by simp)) (dw.1 (5,2) (by simp)) (dw.2 0 1 (3,2) (5,2) rfl rfl (by simp)) hks hct,OS.of (PJ _).1 (PJ _).2 h3 ?_,?_,?_⟩,hf.jI⟩
  · obtain ⟨a,len,cap,rfl, -⟩:=(show R w' _ (.sl ((aR p l).2.map aZ.cells)) S from h3)
    exact dw.1 (6,5) (by simp)
  · obtain ⟨a,len,cap,rfl, -⟩:=(show R w' _ (.sl ((aR p l).2.map aZ.cells)) S from h3)
    exact fun b ⟨o,s,len,cap,e,hc⟩ ⟨o',s',len',cap',e',hc'⟩=>dw.2 0 2 (3,2) (6,5) rfl rfl (by simp) b o s len cap b o' s' len' cap' e hc e' hc' rfl
  · obtain ⟨a,len,cap,rfl, -⟩:=(show R w' _ (.sl ((aR p l).2.map aZ.cells)) S from h3)
    exact fun b ⟨o,s,len,cap,e,hc⟩ ⟨o',s',len',cap',e',hc'⟩=>dw.2 1 2 (5,2) (6,5) rfl rfl (by simp) b o s len cap b o' s' len' cap' e hc e' hc' rfl
end
end
section
open Go.RowKit Go.ChangeShapes Go.WideShapes Go.ChangeAt
variable [GC]
def opn(tb:TB):Nat->Nat->Bool
 | 0,_=>false
 | d+1,T=>match tb.get T with
  | none=>false
  | some ti=>match ti.vt with
   | .one (.c (.sl e))=>opn tb d e&&Nat.blt 0 (tb.tab e).length
   | .one (.c _)=>true
   | .one (.agg ts)=>qP tb 0 ts ti.fs&&ti.fs.all (fun x=>opn tb d x.2)
   | .aC _=>false
theorem O0{tb:TB}{d T:Nat}(h:opn tb d T=true): ∃ti v,tb.get T=some ti/\ti.vt= .one v/\tb.tab T=v.cells:=by
 cases d with
 | zero=>simp [opn] at h
 | succ d =>
  simp only [opn] at h
  split at h
  ·simp at h
  ·rename_i ti aM
   cases hv:ti.vt with
   | aC _=>rw [hv] at h;simp at h
   | one v=>exact ⟨ti,v,aM,hv,by simp [TB.tab,aM,TI.cells,hv]⟩
def SN(tb:TB)(T:Nat):VT:=match tb.get T with|some ti=>ti.vt|none=> .aC []
def M0:Addr->Prop:=fun _=>False
section
variable {H:Type}{enc:TypeId×Value->H}{P:Program}{w:World}{base:Nat}{spare:Nat->Bool}{held:Bool}{tb:TB}
theorem aco{M:Addr->Prop}{ds:List D}{cs:List Value}{b o:Nat}(h:Rs w M ds cs)(hc: ∀j u,cs[j]? =some u->w.cell? ⟨b,o+j,none⟩=some u)(hM: ∀p,¬M p):Rw w M ds b o :=
 Rw.of fun i d hd=>by
  obtain ⟨v,h1,h2⟩:=h.get hd
  exact ⟨v,hc i v h1,hM _,h2⟩
theorem KA(aH:cD P tb tb=true){d T:Nat}(h:opn tb d T=true):P.cellsOf T=(tb.tab T).length:=by
 obtain ⟨ti,v,h1,h2,h3⟩:=O0 h
 obtain ⟨i,hi,hs,_⟩:=pR aH h1 h2
 simp [Program.cellsOf,hi,hs,h3]
theorem OZ{cs:List Value}: ∀(fl:List (Nat×Nat)) (o:Nat) (ts:List CT),qP tb o ts fl=true ->
  (∀p∈fl,∃ds,bf tb.tab (tb.tab p.2) ds/\Rs w M0 ds ((cs.drop p.1).take (tb.tab p.2).length))->cs.length=o+ts.length-> ∃ds,bf tb.tab ts ds/\Rs w M0 ds (cs.drop o)
 | [],o,ts,h,_,hl=>by
  simp only [qP,List.isEmpty_iff] at h
  subst h
  refine ⟨[],trivial,?_⟩
  rw [List.drop_eq_nil_of_le (by simp at hl;omega)];rfl
 | (o',t)::r,o,ts,h,hf,hl=>by
  simp only [qP,Bool.and_eq_true] at h
  obtain ⟨h1,h2⟩:=h
  have h1:=Nat.eq_of_beq_eq_true h1
  subst h1
  cases ht:tb.get t with
  | none=>rw [ht] at h2;simp at h2
  | some i =>
   rw [ht] at h2
   simp only [Bool.and_eq_true,decide_eq_true_eq] at h2
   obtain ⟨h2,h3⟩:=h2
   have htab:tb.tab t=i.cells:=by simp [TB.tab,ht]
   obtain ⟨ds,q1,q2⟩:=hf (o,t) (by simp)
   simp only [htab] at q1 q2
   have hle:i.cells.length<=ts.length:=by
    have:=congrArg List.length h2
    rw [List.length_take] at this;omega
   obtain ⟨ds',q3,q4⟩:=OZ r (o+i.cells.length) (ts.drop i.cells.length) h3 (fun p hp=>hf p (by simp [hp])) (by rw [List.length_drop];omega)
   refine ⟨ds++ds',?_,?_⟩
   ·have:ts=i.cells++ts.drop i.cells.length:=(List.take_append_drop i.cells.length ts).symm.trans (by rw [h2])
    rw [this];exact q1.append q3
   ·have:cs.drop o=(cs.drop o).take i.cells.length++cs.drop (o+i.cells.length):=by
     rw [<-List.drop_drop,List.take_append_drop]
    rw [this];exact q2.append q4
theorem Ig(aH:cD P tb tb=true): ∀(d T:Nat),opn tb d T=true-> ∀(fuel:Nat) (cs:List Value) (x:DataW H×List MemPlace),DataW.trod enc P w base spare held fuel T cs=some x-> ∃ds,bf tb.tab (tb.tab T) ds/\Rs w M0 ds cs
 | 0,_,h,_,_,_,_=>by simp [opn] at h
 | d+1,T,h,fuel,cs,x,hx=>by
  simp only [opn] at h
  split at h
  ·simp at h
  ·rename_i ti aM
   have htab:tb.tab T=ti.cells:=by simp [TB.tab,aM]
   rw [htab]
   cases hv:ti.vt with
   | aC _=>rw [hv] at h;simp at h
   | one v =>
    rw [hv] at h
    simp only [TI.cells,hv]
    cases v with
    | c t =>
     obtain ⟨i,ds,_,_,_,_,hu,hd⟩:=eZ aH aM hv
     cases t with
     | mem=>exact hd.elim
     | fn=>exact hd.elim
     | bool =>
      simp only [fK] at hd;subst hd
      obtain ⟨b,rfl,_⟩:=DataW.trod_bool hu hx
      exact ⟨[.bool b],⟨trivial,trivial⟩,Rs.one rfl⟩
     | int k =>
      simp only [fK] at hd;subst hd
      obtain ⟨n,rfl,_,hw⟩:=DataW.trod_int hu hx
      exact ⟨[.int k n],⟨rfl,trivial⟩,Rs.one ⟨rfl,by simpa [Lit.wf] using hw⟩⟩
     | str =>
      simp only [fK] at hd;subst hd
      obtain ⟨s,rfl,_,hw⟩:=DataW.trod_string hu hx
      exact ⟨[.str s],⟨trivial,trivial⟩,Rs.one ⟨rfl,hw⟩⟩
     | sl e =>
      simp only [fK] at hd;subst hd
      simp only [Bool.and_eq_true] at h
      obtain ⟨he,hpos⟩:=h
      have hpos:0<(tb.tab e).length:=Nat.le_of_ble_eq_true hpos
      have hn:=KA aH he
      rcases Go.Deep.open_slice hu hx with ⟨h0,_⟩|⟨a,len,cap,m,n,Dd,Pl,hcs,_,hl,hm,hmm,_,hi⟩
      ·exact ⟨[.sl []],⟨trivial,trivial⟩,by rw [h0];exact Rs.one ⟨none,0,0,rfl,rfl,Nat.le_refl _,Nat.zero_le _,fun _=>rfl,fun b o s hh=>by cases hh⟩⟩
      ·have MZ:len<=m:=by rw [hmm];split<;>omega
       have hex: ∀i,i<len-> ∃q:List Value×List D,w.cells? base (a.add (i*P.cellsOf e)) (P.cellsOf e)=some q.1/\bf tb.tab (tb.tab e) q.2/\Rs w M0 q.2 q.1:=fun i hil=>by
        obtain ⟨cs',hc,ht'⟩:=hi i (by omega)
        obtain ⟨y,hy1,Zk⟩:=Ig aH d e he _ _ _ ht'
        exact ⟨(cs',y),hc,hy1,Zk⟩
       have hch: ∃f:Nat->List Value×List D,∀i,i<len->w.cells? base (a.add (i*P.cellsOf e)) (P.cellsOf e)=some (f i).1/\bf tb.tab (tb.tab e) (f i).2/\Rs w M0 (f i).2 (f i).1:=by
        refine ⟨fun i=>if hi:i<len then (hex i hi).choose else ([],[]),fun i hi=> ?_⟩
        simp only [hi,dif_pos]
        exact (hex i hi).choose_spec
       obtain ⟨f,hf⟩:=hch
       have hcell: ∀i,i<len-> ∀j u,(f i).1[j]? =some u->w.cell? ((a.add (i*P.cellsOf e)).add j)=some u:=fun i hil j u hu=>by
        obtain ⟨_,hcl,hat⟩:=World.cells?_some (hf i hil).1
        have hj:j<P.cellsOf e:=by rw [<-hcl];exact (List.getElem?_eq_some_iff.1 hu).1
        rw [hat j hj,hu]
       have hspot:0<len->a.spot=none:=fun h0=>by
        have Yx:0<(f 0).1.length:=by rw [(hf 0 h0).2.2.length,(hf 0 h0).2.1.length];exact hpos
        have hx:=hcell 0 h0 0 _ (List.getElem?_eq_getElem Yx)
        rw [Nat.zero_mul] at hx
        exact World.cell?_spot (a:=a) (by simpa [Addr.add] using hx)
       refine ⟨[.sl ((List.range len).map fun i=>(f i).2)],⟨?_,trivial⟩,?_⟩
       ·refine cV.of fun r hr=> ?_
        obtain ⟨i,hi,rfl⟩:=List.mem_map.1 hr
        exact (hf i (by simpa using hi)).2.1
       ·rw [hcs]
        refine Rs.one ⟨some a,len,cap,rfl,by simp,hl,hm,(fun h=>by cases h),fun b o s hh=>⟨fun h0=> ?_,?_⟩⟩
        ·have:=hspot h0
         simp only [Option.some.injEq] at hh;subst hh;exact this
        ·simp only [Option.some.injEq] at hh;subst hh
         refine dr.of (n:=(tb.tab e).length) (fun r hr=> ?_) fun i r hr=> ?_
         ·obtain ⟨i,hi,rfl⟩:=List.mem_map.1 hr
          exact (hf i (by simpa using hi)).2.1.length
         ·have hil:i<len:=by
           have:=(List.getElem?_eq_some_iff.1 hr).1
           simpa using this
          have hr':r=(f i).2:=by simp [hil] at hr;exact hr.symm
          subst hr'
          refine aco (hf i hil).2.2 (fun j u hu=> ?_) (fun _ h=>h)
          have h1:=hcell i hil j u hu
          have hs:=hspot (by omega)
          simp only at hs
          subst hs
          rw [hn] at h1
          rwa [addr_add,addr_add] at h1
    | agg ts =>
     simp only [Bool.and_eq_true] at h
     obtain ⟨hc,hall⟩:=h
     obtain ⟨i,fields,zs,hi,hs,_,_,_,hu,hfo⟩:=kY aH aM hv
     obtain ⟨xs,m,_,_,hl,hxs,hf⟩:=DataW.trod_struct hu hx
     have hlen:cs.length=ts.length:=by rw [hl];simp [Program.cellsOf,hi,hs]
     have key: ∀p∈ti.fs,∃ds,bf tb.tab (tb.tab p.2) ds/\Rs w M0 ds ((cs.drop p.1).take (tb.tab p.2).length):=by
      intro p hp
      have hop:=List.all_eq_true.1 hall p hp
      obtain ⟨k,hk⟩:=List.getElem?_of_mem hp
      have Yj: ∃fd,fields.toList[k]? =some fd/\fd.offset=p.1/\fd.type=p.2:=FQ hfo hk
      obtain ⟨fd,AB,e1,e2⟩:=Yj
      have MH:fields[k]? =some fd:=by simpa using AB
      have hlt:k<xs.length:=by rw [hxs];exact (Array.getElem?_eq_some_iff.1 MH).1
      have ht:=(hf k fd MH).trans (List.getElem?_eq_getElem hlt)
      rw [e1,e2,KA aH hop] at ht
      exact Ig aH d p.2 hop _ _ _ ht
     have:=OZ (w:=w) ti.fs 0 ts hc key (by omega)
     simpa [V1.cells] using this
theorem OY(aH:cD P tb tb=true){r:Reach}{b0 T:Nat}{v:Value}{dd:DataW H}{p:List MemPlace}(ht:opn tb 12 T=true)(hv:Value.okWide P w r b0 T v)(h:DataW.Trod enc P w base spare held T v dd p) :
  ∃x,bU tb.tab (SN tb T) x/\R w M0 x v:=by
 obtain ⟨fuel,hf⟩:=h
 obtain ⟨ds,h1,h2⟩:=Ig aH 12 T ht fuel _ _ hf
 obtain ⟨ti,v1,aM,hv1,htab⟩:=O0 ht
 rw [htab] at h1
 unfold SN
 rw [aM]
 simp only [hv1]
 cases v1 with
 | c t =>
  obtain ⟨_,d,_,_,_,_,hu,hd⟩:=eZ aH aM hv1
  have hc:v.cells.toList=[v]:=by
   cases t<;>simp only [fK] at hd<;>subst hd
   ·obtain ⟨_,rfl⟩:=okWide_bool hu hv;rfl
   ·obtain ⟨_,rfl⟩:=okWide_int hu hv;rfl
   ·obtain ⟨_,rfl⟩:=okWide_string hu hv;rfl
   ·obtain ⟨_,_,_,rfl⟩:=okWide_slice hu hv;rfl
  rw [hc] at h2
  match ds,h1 with
  | [x],h1 =>
   obtain ⟨v',q,e,h3,h4⟩:=h2
   simp only [List.cons.injEq] at e
   obtain ⟨rfl,rfl⟩:=e
   exact ⟨x,h1.1,h3⟩
 | agg ts =>
  obtain ⟨_,fields,_,_,_,_,_,_,hu,_⟩:=kY aH aM hv1
  obtain ⟨cs,rfl,_⟩:=okWide_struct hu hv
  exact ⟨.agg ds,h1,cs,rfl,h2⟩
end
theorem law_run{P:Program}{f:FuncId}{ds:List D}{vs:List Value}{w:World}(h:aD P f none ds (.bool true) [])(hG:kf w M0)(hr:Rs w M0 ds vs):Calls P f vs.toArray w fun e w'=>e= .returned (.bool true)/\Below w.heap.size w w':=by
 refine (h.2 w M0 0 vs hG hr (fun cs hcs=>by cases hcs)).mono ?_
 rintro e w' ⟨v,rfl,h1,h2,_⟩
 simp only [R] at h1
 subst h1
 exact ⟨rfl,h2.jI⟩
end
section
open Go.RowKit Go Go.ChangeShapes
theorem XX{H:Type}{enc:TypeId×Value->H}{a:Assume}{C:Checked}{os:Os}{f:FuncId}{fn:Func}{s:ChangeSpec}{conds:List PathCond}{apart fresh handsOn again:Bool}{X:World->Array Value->Prop}
  (hX: ∀(w w':World) (args:Array Value),w.heap=w'.heap->X w args->X w' args)
  (own:ownKnob C.prog.godebug=none) (started:os.Started) (noInit:C.prog.inits.idxOf? f=none) (hfn:C.prog.funcs[f]? =some fn)
  (witness: ∃(w:World) (tape:Tape) (i:Input),w.os=os/\(w.forCall tape i).Shaped C.prog/\i.vars=[]/\Input.okWide C.prog (w.forCall tape i) .any w.heap.size f i /\
   ((s.pre enc C.prog fn conds apart (w.forCall tape i).memory i.args/\X (w.forCall tape i).memory i.args)/\sizedMet enc C.prog fn (OpenSpec.ofChange s) apart (w.forCall tape i).memory i.args)/\a.holds C.prog (lone (Frame.enter C.prog f i.args .normal) [] (w.forCall tape i)))
  (contract: ∀(W:World) (base:Nat) (args:Array Value) (ds gs:List (DataW H)) (before:List MemPlace),
   (∀(j:Nat) t v,fn.params[j]? =some t->args[j]? =some v->Value.okWide C.prog W .any base t v) ->
   DataW.Whole enc C.prog fn.params.toList s.vars apart W args.toList ds gs before ->
   conds.all (PathCond.test C.prog ⟨fn.params.toList,ds,s.plain.varTypes C.prog,gs⟩)=true ->
   (DataW.weightsEach C.prog (fn.params.toList++s.plain.varTypes C.prog) (ds++gs)).all (· <=reachBytes)=true->W.ShapedOpen C.prog->X W args ->
   a.holds C.prog (lone (Frame.enter C.prog f args .normal) [] W) ->
   Calls C.prog f args W fun e W'=> ∃v,e= .returned v/\s.post enc C.prog fn apart fresh handsOn again W args v W') :
  ReturnsInHanded a C os f .any (fun w args=>(s.pre enc C.prog fn conds apart w args/\X w args)/\sizedMet enc C.prog fn (OpenSpec.ofChange s) apart w args) (s.post enc C.prog fn apart fresh handsOn again):=by
 refine returnsInHanded_of_calls own started noInit witness fun w tape i _ YW _ hok hpre hh=> ?_
 obtain ⟨_,_,_,fn',hfn',_,_,_,_,hval⟩:=hok
 cases Option.some.inj (hfn'.symm.trans hfn)
 obtain ⟨⟨⟨ds,gs,before,q1,q2⟩,q3⟩,q4⟩:=hpre
 refine (contract (w.forCall tape i) w.heap.size i.args ds gs before hval (DataW.Whole.of_heap (w':=w.forCall tape i) (by rfl) q1) q2 (q4.weights q1) YW (hX _ _ _ (by rfl) q3) hh).mono fun e W' ⟨v,he,hp⟩=> ?_
 cases he
 exact ChangeSpec.post_blind hp
theorem adN{P:Program}{ps:Array TypeId}(h:ps.all (fun t=> !P.wantsStandIn t)=true): ∀(j:Nat) t,ps[j]? =some t->P.wantsStandIn t=false:=fun j t ht=>by
 rw [Array.all_eq_true_iff_forall_mem] at h
 have:=h t (Array.mem_of_getElem? ht)
 simpa using this
theorem Mc{P:Program}{w:World}{n:String}{g:Nat}{cs:Array Value}{p:Array Value->Prop}(hg:P.globalNamed n=some g)(h:w.var? P n=some cs)(hp:p cs):j0 w g p:=by
 simp only [World.var?,hg,Option.bind_some] at h
 split at h
 ·rename_i c t f hh
  simp at h;subst h
  exact ⟨_,t,f,hh,hp⟩
 ·simp at h
theorem Xy{w:World}{g:Nat}{v:Value}(h:w.cell? ⟨g,0,none⟩=some v):j0 w g fun cs=>cs[0]? =some v:=by
 unfold World.cell? at h
 cases hb:w.heap[g]? with
 | none=>simp [hb] at h
 | some o =>
  simp only [hb] at h
  cases o with
  | cells cs t f=>exact ⟨cs,t,f,hb,by simpa using h⟩
  | _=>simp at h
theorem ads{W:World}{r:List (String×DataW Unit)}{n:String}(hn:Tryz.prog.globalNamed n=some 1)(h:laidMet Tryz.prog ((n,Rows.laid_strconv_ErrSyntax)::r) W):j0 W 1 fun cs=> ∃tp p,cs= #[.iface tp p]:=by
 obtain ⟨a,s,hv,_⟩:=laid_sentinel (tp:=185) h hn (by kernel_rfl) Tryz.underlying135
  (fun u hu=>typeName_ptr_named (nm:= "errors.errorString") (by kernel_rfl) (by kernel_rfl) (by decide) u (hu.trans (by decide)))
  Tryz.underlying185 Tryz.underlying187 rfl rfl Tryz.underlying9 (by kernel_rfl) (by kernel_rfl)
 exact Mc hn hv ⟨_,_,rfl⟩
theorem adu{W:World}{r:List (String×DataW Unit)}{n:String}(hn:Tryz.prog.globalNamed n=some 3)(h:laidMet Tryz.prog ((n,Rows.laid_internal_strconv_uint64pow10)::r) W):j0 W 3 fun cs=>cs=(Lib.pow10Tab.map fun z=>Value.int .u64 z).toArray:=by
 have e:(Rows.laid_internal_strconv_uint64pow10:DataW Unit)=Lib.tabData .u64 Lib.pow10Tab:=by kernel_rfl
 rw [e] at h
 have:=Lib.tabIs_of_head (t:=177) hn (by kernel_rfl) Tryz.underlying177 Tryz.underlying159 (by kernel_rfl) (by kernel_rfl) h
 exact Mc hn this rfl
theorem adt{W:World}(h:W.ShapedOpen Tryz.prog):j0 W 0 fun cs=> ∃m,cs[0]? =some (Value.int .i64 m):=by
 obtain ⟨m,hm⟩:=cell_of_shapedOpen_int (g:=0) (t:=3) (zero:= #[.int .i64 0]) (k:= .i64) h (of_decide_eq_true (by kernel_rfl)) (by kernel_rfl) rfl (by kernel_rfl) (by kernel_rfl) Tryz.underlying3
 obtain ⟨cs,t,f,h1,h2⟩:=Xy hm
 exact ⟨cs,t,f,h1,m,h2⟩
theorem Xx{w:World}{g:Nat}{p:Array Value->Prop}(h:j0 w g p):g+1<=w.heap.size:=by
 obtain ⟨cs,t,f,h1,_⟩:=h
 rcases Nat.lt_or_ge g w.heap.size with h|h
 ·exact h
 ·rw [Array.getElem?_eq_none h] at h1;cases h1
end
section
open Go
theorem ZE:ownKnob Tryz.prog.godebug=none:=by kernel_rfl
theorem G8:laidOutB Tryz.prog=true:=by kernel_rfl
theorem ZF:mapsRowed Tryz.prog=true:=by kernel_rfl
theorem ZG:(Tryz.prog.stops==[])=true:=by kernel_rfl
theorem ZB:(Tryz.prog.stopKnobs==[])=true:=by kernel_rfl
theorem ZA:(Rows.fnExactCallPartRow.plainKeys==Tryz.prog.plainKeys)=true:=by kernel_rfl
theorem Zz:Tryz.prog.stopsHeard=true:=by kernel_rfl
theorem Zy:Tryz.prog.mayEnter=true:=by kernel_rfl
theorem ZC:(Rows.fnExactCallPartRow.lifted==Tryz.prog.liftsFinal)=true:=by kernel_rfl
theorem ZD:(Tryz.prog.make==some Rows.fnExactCallPartRow.make)=true:=by kernel_rfl
theorem fF{a b:Bool}(ha:a=true)(hb:b=true):(a&&b)=true:=by rw [ha,hb];rfl
end
end Go.Proofs.YtimickglpboilaaGreatDoor
