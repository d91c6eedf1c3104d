/- What the reference draws for parts: cores, calls that fit a part. -/
import Derived.Test.YtoomhbopolalnabGreatDoorT25
set_option linter.all false
set_option maxRecDepth 100000
namespace Go.Proofs.YtoomhbopolalnabGreatDoor
variable {M:Addr->Prop}{r:D}{h:Host}{l:List Entry}{n:Nat}{P:Program}{v:Value}{w:World}
section
open Go.RowKit Go
variable [GC]
def Vj(n:Nat)(r:D):Prop:=∃s:ByteArray,r=.str s/\s.size<=n
def Vj.ty(h:Vj n r):bG aJ.tab (.one (.c .str)) r:=by obtain⟨x,rfl,_⟩:=h;trivial
def adS(n:Nat):List D->Bool
 |[.str s]=>decide (s.size<=n)
 |_=>false
def aHt{r:List D}(h:adS n r=true):∃s,r=[.str s]/\s.size<=n:=by
 match r,h with
 |[.str s],h=>exact⟨s,rfl,by simpa[adS]using h⟩
def aia(n:Nat)(o:List (List D))(q:0<o.length)(j:o.all (adS n)=true):Dr 47 [.sl o] (Vj n):=by
 have b:∀r∈o,∃s:ByteArray,r=[.str s]/\s.size<=n:=fun r a=>aHt (fH.1 j r a);have t:bG aJ.tab (.one (.c (.sl 9))) (.sl o):=by show dc _ (aJ.tab _) _;rw[Pq];exact sW fun r a=>by obtain⟨s,rfl,_⟩:=b r a;exact⟨trivial,trivial⟩
 refine lD Ek Wx (fun u h=>by exact⟨t,jl h⟩) (.str cL) ⟨_,rfl,fW _⟩ fun rows i k l y a f=> ?_;(simp only[cA]);unfold Ek;have z:(o.length:Int)<=9223372036854775807:=by simp[dI,Fits,maxLen]at l;omega
 (refine bY (mB o.length) (fun _ h=>jF.ty h) ?_ (hb:=by(simp only[gS,cG];try exact rfl)) (ha:=by(simp only[gS,cG];try exact rfl));rintro _ rows i k ⟨x,rfl,m⟩ a f)
 refine aM (fun _=> ?_) ?_
 ·simp[E.den,cG];omega
 have p:=m.2 (by omega);have e:o[x.toNat]? =some o[x.toNat]:=bX (by omega);obtain⟨s,c,d⟩:=b _ (qj (show x.toNat<o.length by omega));refine⟨⟨s,?_,d⟩,_,_,_,rfl,a,f⟩;simp[E.den,e,c]
def BN(r:D):Prop:=∃x:Call,r=enc x/\x.text.size<=100/\x.method.size<=100
def BN.ty(h:BN r):bG aJ.tab (.one (.agg [.str,.str,.int .i64,.str])) r:=by obtain⟨x,rfl,_⟩:=h;exact Cq x
def Ja:Dr 41 [] BN:=by
 have n:cL.size<=100:=by decide
 refine lD aqT aJO (fun j h=>by exact jl h) (enc (⟨cL,cL,0,cL⟩:Call)) ⟨_,rfl,(by decide),(by decide)⟩ fun rows i d l m r a=> ?_;(simp only[cA]);unfold aqT
 (apply vB;(focus (simp only[gS];try exact rfl));(focus (simp only[gS];try exact rfl));(focus (exact⟨_,_,_,rfl,by assumption,by assumption⟩));(focus (first|exact aia 100 _ (by decide) (by decide)|exact Dr.eB (aia 100 _ (by decide) (by decide))));(focus (exact fun _ h=>Vj.ty h));rintro _ rows i d ⟨s,rfl,b⟩ r a;(simp only[cA]))
 apply ai<;>intro h
 ·(refine bY (aac) (fun _ h=>xx.ty h) ?_;rintro _ rows i d ⟨k,rfl,e⟩ r a)
  exact⟨⟨⟨s,k,0,cL⟩,rfl,n,b⟩,_,_,_,rfl,r,a⟩
 apply ai<;>intro h
 ·(refine bY (aac) (fun _ h=>xx.ty h) ?_;rintro _ rows i d ⟨k,rfl,e⟩ r a)
  (refine bY (mB _) (fun _ h=>jF.ty h) ?_;rintro _ rows i d ⟨y,rfl,f⟩ r a)
  exact⟨⟨⟨s,k,y,cL⟩,rfl,n,b⟩,_,_,_,rfl,r,a⟩
 apply ai<;>intro h
 ·(refine bY (mB _) (fun _ h=>jF.ty h) ?_;rintro _ rows i d ⟨y,rfl,f⟩ r a)
  exact⟨⟨⟨s,cL,y,cL⟩,rfl,n,b⟩,_,_,_,rfl,r,a⟩
 apply ai<;>intro h
 ·(refine bY (azh) (fun _ h=>xx.ty h) ?_;rintro _ rows i d ⟨t,rfl,c⟩ r a)
  exact⟨⟨⟨s,cL,0,t⟩,rfl,by unfold Ju at c;simpa using c,b⟩,_,_,_,rfl,r,a⟩
 ·exact⟨⟨⟨s,cL,0,cL⟩,rfl,n,b⟩,_,_,_,rfl,r,a⟩
def Gu(r:D):Prop:=∃e:Event,r=enc e/\e.call.text.size<=100/\e.call.method.size<=100/\e.recipe.length<=6
def Gu.ty(h:Gu r):bG aJ.tab (.one (.agg [.int .i64,.str,.str,.str,.int .i64,.str,.sl 9])) r:=by obtain⟨x,rfl,_⟩:=h;exact Cr x
def DK(r:D):Prop:=∃g:Host,r=enc g/\HW g
def DK.ty(h:DK r):bG aJ.tab (.one (.agg [.sl 59,.sl 87,.sl 9,.sl 9,.sl 33])) r:=by obtain⟨x,rfl,_⟩:=h;exact mN x
def azo(l:List Entry):Dr 37 [aj l] isS:=by
 refine lD aro aKh (fun m h=>by exact⟨mh l,jl h⟩) (.str cL) ⟨_,rfl⟩ fun rows i d f e r a=> ?_;(simp only[cA]);unfold aro;have e:l.length<=9223372036854775807:=kS f.1
 (refine bY (qT _) (fun _ h=>oR.ty h) ?_;rintro _ rows i d ⟨b,rfl⟩ r a)
 have z:bg .eql (l.length:Int) 0=decide (l.length=0):=by cases l<;>simp[bg]<;>omega
 rcases rU l.length with c|c
 ·have z:bg .eql (l.length:Int) 0=true:=by rw[z];exact Mu c
  apply ai<;>intro h
  ·(refine bY (aad) (fun _ h=>isS.ty h) ?_ (hb:=by(simp only[gS,z,Bool.not_true,Bool.false_and,yh];try exact rfl)) (ha:=by(simp only[gS,z,Bool.not_true,Bool.false_and,yh];try exact rfl));rintro _ rows i d ⟨s,rfl⟩ r a)
   exact⟨⟨_,rfl⟩,_,_,_,rfl,r,a⟩
  ·simp only[eS,z]at h;simp at h
 ·have z:bg .eql (l.length:Int) 0=false:=by rw[z];exact Zx (by omega)
  apply ai<;>intro h
  ·(refine bY (aad) (fun _ h=>isS.ty h) ?_ (hb:=by(simp only[gS,z,C8,oC,gD];try exact rfl)) (ha:=by(simp only[gS,z,C8,oC,gD];try exact rfl));rintro _ rows i d ⟨s,rfl⟩ r a)
   exact⟨⟨_,rfl⟩,_,_,_,rfl,r,a⟩
  ·(refine bY (mB l.length) (fun _ h=>jF.ty h) ?_ (hb:=by(simp only[gS,z,C8,oC,gD];try exact rfl)) (ha:=by(simp only[gS,z,C8,oC,gD];try exact rfl));rintro _ rows i d ⟨x,rfl,j⟩ r a)
   have k:=j.2 (by omega);refine aM (fun _=> ?_) ?_
   ·simp only[eS];simp;omega
   refine⟨⟨(nth l x.toNat).name,?_⟩,_,_,_,rfl,r,a⟩;simp only[eS,oZ,ja]
structure oA where
 k:Nat
 rows:List (List D)
 i:Int
 h:Int
 x:Call
def oA.lay(n:ByteArray)(s:oA):List D:=[.int .i64 s.k,.sl s.rows,.int .i64 s.i,.int .i64 s.h,.int .i64 3,.str n,.str s.x.method,.str s.x.key,.int .i64 s.x.val,.str s.x.text,aj ([]:List ByteArray)]
def ahW(l:List ByteArray){k:Nat}(a:k<l.length):((l.map aB.cells)[k]?.getD [eF CT.str]).getD 0 D.un=.str (nth l k):=by rw[get_map l a];rfl
def azd(l:List ByteArray):qn (aj l) 0 1=aj (l.take 1):=by simp[qn,aj,E7]
set_option maxHeartbeats 8000000 in
def TD(g:Host)(H:HW g):wI 15 [enc g] Gu [(6,1)]:=by
 have I:oo.text.size<=100:=by decide
 have J:oo.method.size<=100:=by decide
 have T:(bK mStart).text.size<=100:=by decide
 have sm:(bK mStart).method.size<=100:=by decide
 have z:([]:List ByteArray).length<=6:=fW _;refine EO arp aKi (fun a h=>by exact⟨mN g,jl h⟩) (enc (⟨0,cL,oo,[]⟩:Event)) ⟨_,rfl,I,J,z⟩ fun rows i e a d r c=> ?_;(simp only[cA]);unfold arp;have a:=H.u;have a:=H.s;have a:=H.nk;have a:=H.e6
 (refine bY (ah8 [1,1,1,2,3,3,3,3,3,4,5] (by decide)) (fun _ h=>Ov.ty h) ?_;rintro _ rows i e ⟨k,rfl,a⟩ r c)
 have U:k=1\/k=2\/k=3\/k=4\/k=5:=by simp at a;omega
 clear a
 (refine bY (azo g.entries) (fun _ h=>isS.ty h) ?_;rintro _ rows i e ⟨l,rfl⟩ r c)
 (refine bY (qT _) (fun _ h=>oR.ty h) ?_;rintro _ rows i e ⟨b,rfl⟩ r c)
 obtain⟨V,u⟩:∃V,bg .gtr (g.up.length:Int) 0=V:=⟨_,rfl⟩;obtain⟨bs,a⟩:∃bs,bg .gtr (g.shut.length:Int) 0=bs:=⟨_,rfl⟩;rcases U with rfl|rfl|rfl|rfl|rfl
 ·apply ai<;>intro h
  ·exfalso;revert h;simp only[eS,aZ,u,a];simp
  apply ai<;>intro h
  ·exfalso;revert h;simp only[eS,aZ,u,a];simp
  refine aF (qR g.entries l) ?_;apply ai<;>intro h
  ·exfalso;revert h;simp only[eS,aZ,u,a];simp
  apply ai<;>intro h
  ·exfalso;revert h;simp only[eS,aZ,u,a];simp
  apply ai<;>intro h
  ·exfalso;revert h;simp only[eS,aZ,u,a];simp
  simp only[eS,VC.den,aZ,u,a,bS,reduceIte,reduceCtorEq];exact⟨⟨⟨1,l,oo,[]⟩,rfl,I,J,z⟩,_,_,_,rfl,by assumption,by assumption⟩
 ·apply ai<;>intro h
  ·exfalso;revert h;simp only[eS,aZ,u,a];simp
  apply ai<;>intro h
  ·exfalso;revert h;simp only[eS,aZ,u,a];simp
  refine aF (qR g.entries l) ?_;apply ai<;>intro h
  ·exfalso;revert h;simp only[eS,aZ,u,a];simp
  apply ai<;>intro h
  ·exfalso;revert h;simp only[eS,aZ,u,a];simp
  apply ai<;>intro h
  ·exfalso;revert h;simp only[eS,aZ,u,a];simp
  simp only[eS,VC.den,aZ,u,a,bS,reduceIte,reduceCtorEq];exact⟨⟨⟨2,l,oo,[]⟩,rfl,I,J,z⟩,_,_,_,rfl,by assumption,by assumption⟩
 ·cases V
  ·apply ai<;>intro h
   ·exfalso;revert h;simp only[eS,aZ,u,a];simp
   apply ai<;>intro h
   ·exfalso;revert h;simp only[eS,aZ,u,a];simp
   refine aF (qR g.entries l) ?_;rcases Mc (cV g.entries l) 0 with o|o
   ·have f:bg .lss (cV g.entries l) 0=true:=by simp[bg,o]
    apply ai<;>intro h
    ·simp only[eS,VC.den,aZ,u,a,bS,reduceIte,reduceCtorEq];exact⟨⟨⟨3,l,bK mStart,[]⟩,rfl,T,sm,z⟩,_,_,_,rfl,by assumption,by assumption⟩
    ·exfalso;revert h;simp only[eS,aZ,u,a,f];simp
   obtain⟨d,m,A,_⟩:=vF o;rw[m];have f:bg .lss (d:Int) 0=false:=by simp[bg]
   apply ai<;>intro h
   ·exfalso;revert h;simp only[eS,aZ,u,a,f];simp
   apply ai<;>intro h
   ·(refine bY (Ja) (fun _ h=>BN.ty h) ?_ (hb:=by(simp only[gS,aZ,u,a,bS,reduceIte,reduceCtorEq];try exact rfl)) (ha:=by(simp only[gS,aZ,u,a,bS,reduceIte,reduceCtorEq];try exact rfl));rintro _ rows i e ⟨x,rfl,p,q⟩ r c)
    refine qo oA (oA.lay l) (fun s=>dc aJ.tab [.int .u8] s.rows/\0<=s.i/\s.k<=3/\s.x.text.size<=100/\s.x.method.size<=100) (fun s=>3-s.k) ⟨0,rows,i,e,x⟩ (fun s G h=>by simp[oA.lay]at h;omega) (by first|exact rfl|(simp only[eS,oA.lay,fF,aZ,u,a,qQ];rfl)) ⟨r,c,by simp,p,q⟩ ?_;rintro⟨n,rows,j,e,x⟩ ⟨r,c,O,p,q⟩ -;simp only at r c O p q;simp only[oA.lay,ia,iy];refine aM (fun _=> ?_) ?_
    ·simp only[eS,aZ,u,a];simp;have:=H.pe;omega
    refine wZ (r:=.int .i64 (fq (nth g.parts d))) (xs:=[enc (nth g.parts d)]) ?_ (fun _=>Bb (nth g.parts d)) rfl ?_
    ·simp only[eS,aZ,u,a,V5,gR]
    refine wZ (r:=.int .i64 (cg x.method)) (xs:=[.str x.method]) ?_ (fun _=>Fy x.method) rfl ?_
    ·simp only[eS]
    refine wZ (r:=.bool (cw (fq (nth g.parts d)) (cg x.method))) (xs:=[.int .i64 (fq (nth g.parts d)),.int .i64 (cg x.method)]) ?_ (fun _=>wW _ _) trivial ?_
    ·simp only[eS]
    simp only[cA];apply ai<;>intro h
    ·simp only[eS]at h;have P:n<3:=by simp at h;omega
     (refine bY (Ja) (fun _ h=>BN.ty h) ?_;rintro _ rows i e ⟨y,rfl,B,C⟩ r c)
     refine⟨⟨n+1,rows,i,e,y⟩,?_,⟨r,c,by simp only;omega,B,C⟩,by simp only;omega⟩;simp only[eS,oA.lay,fF];rw[bC];simp
    ·simp only[eS,VC.den,aZ,u,a,bS,reduceIte,reduceCtorEq];exact⟨⟨⟨3,l,x,[]⟩,rfl,p,q,z⟩,_,_,_,rfl,by assumption,by assumption⟩
   ·exfalso;revert h;simp only[eS,aZ,u,a];simp
  ·have F:0<g.up.length:=by simp[bg]at u;exact u
   apply ai<;>intro h
   ·(refine bY (mB g.up.length) (fun _ h=>jF.ty h) ?_ (hb:=by(simp only[gS,aZ,u,a,bS,reduceIte,reduceCtorEq];try exact rfl)) (ha:=by(simp only[gS,aZ,u,a,bS,reduceIte,reduceCtorEq];try exact rfl));rintro _ rows i e ⟨y,rfl,B⟩ r c)
    have X:=B.2 (by omega);have Y:=B.1;refine aM (fun _=> ?_) ?_
    ·simp only[eS,aZ,u,a];simp;omega
    apply ai<;>intro h
    ·exfalso;revert h;simp only[eS,aZ,u,a];simp
    have F:=ahW g.up (show y.toNat<g.up.length by omega);refine aF (qR g.entries (nth g.up y.toNat)) ?_;rcases Mc (cV g.entries (nth g.up y.toNat)) 0 with o|o
    ·have f:bg .lss (cV g.entries (nth g.up y.toNat)) 0=true:=by simp[bg,o]
     apply ai<;>intro h
     ·simp only[eS,VC.den,aZ,u,a,F,bS,reduceIte,reduceCtorEq];exact⟨⟨⟨3,nth g.up y.toNat,bK mStart,[]⟩,rfl,T,sm,z⟩,_,_,_,rfl,by assumption,by assumption⟩
     ·exfalso;revert h;simp only[eS,aZ,u,a,f];simp
    obtain⟨d,m,A,_⟩:=vF o;rw[m];have f:bg .lss (d:Int) 0=false:=by simp[bg]
    apply ai<;>intro h
    ·exfalso;revert h;simp only[eS,aZ,u,a,f];simp
    apply ai<;>intro h
    ·(refine bY (Ja) (fun _ h=>BN.ty h) ?_ (hb:=by(simp only[gS,aZ,u,a,bS,reduceIte,reduceCtorEq];try exact rfl)) (ha:=by(simp only[gS,aZ,u,a,bS,reduceIte,reduceCtorEq];try exact rfl));rintro _ rows i e ⟨x,rfl,p,q⟩ r c)
     refine qo oA (oA.lay (nth g.up y.toNat)) (fun s=>dc aJ.tab [.int .u8] s.rows/\0<=s.i/\s.k<=3/\s.x.text.size<=100/\s.x.method.size<=100) (fun s=>3-s.k) ⟨0,rows,i,e,x⟩ (fun s G h=>by simp[oA.lay]at h;omega) (by first|exact rfl|(simp only[eS,oA.lay,fF,aZ,u,a,F];rfl)) ⟨r,c,by simp,p,q⟩ ?_;rintro⟨n,rows,j,e,x⟩ ⟨r,c,O,p,q⟩ -;simp only at r c O p q;simp only[oA.lay,ia,iy];refine aM (fun _=> ?_) ?_
     ·simp only[eS,aZ,u,a];simp;have:=H.pe;omega
     refine wZ (r:=.int .i64 (fq (nth g.parts d))) (xs:=[enc (nth g.parts d)]) ?_ (fun _=>Bb (nth g.parts d)) rfl ?_
     ·simp only[eS,aZ,u,a,V5,gR]
     refine wZ (r:=.int .i64 (cg x.method)) (xs:=[.str x.method]) ?_ (fun _=>Fy x.method) rfl ?_
     ·simp only[eS]
     refine wZ (r:=.bool (cw (fq (nth g.parts d)) (cg x.method))) (xs:=[.int .i64 (fq (nth g.parts d)),.int .i64 (cg x.method)]) ?_ (fun _=>wW _ _) trivial ?_
     ·simp only[eS]
     simp only[cA];apply ai<;>intro h
     ·simp only[eS]at h;have P:n<3:=by simp at h;omega
      (refine bY (Ja) (fun _ h=>BN.ty h) ?_;rintro _ rows i e ⟨y,rfl,B,C⟩ r c)
      refine⟨⟨n+1,rows,i,e,y⟩,?_,⟨r,c,by simp only;omega,B,C⟩,by simp only;omega⟩;simp only[eS,oA.lay,fF];rw[bC];simp
     ·simp only[eS,VC.den,aZ,u,a,F,bS,reduceIte,reduceCtorEq];exact⟨⟨⟨3,nth g.up y.toNat,x,[]⟩,rfl,p,q,z⟩,_,_,_,rfl,by assumption,by assumption⟩
    ·exfalso;revert h;simp only[eS,aZ,u,a];simp
   ·apply ai<;>intro h
    ·exfalso;revert h;simp only[eS,aZ,u,a];simp
    refine aF (qR g.entries l) ?_;rcases Mc (cV g.entries l) 0 with o|o
    ·have f:bg .lss (cV g.entries l) 0=true:=by simp[bg,o]
     apply ai<;>intro h
     ·simp only[eS,VC.den,aZ,u,a,bS,reduceIte,reduceCtorEq];exact⟨⟨⟨3,l,bK mStart,[]⟩,rfl,T,sm,z⟩,_,_,_,rfl,by assumption,by assumption⟩
     ·exfalso;revert h;simp only[eS,aZ,u,a,f];simp
    obtain⟨d,m,A,_⟩:=vF o;rw[m];have f:bg .lss (d:Int) 0=false:=by simp[bg]
    apply ai<;>intro h
    ·exfalso;revert h;simp only[eS,aZ,u,a,f];simp
    apply ai<;>intro h
    ·(refine bY (Ja) (fun _ h=>BN.ty h) ?_ (hb:=by(simp only[gS,aZ,u,a,bS,reduceIte,reduceCtorEq];try exact rfl)) (ha:=by(simp only[gS,aZ,u,a,bS,reduceIte,reduceCtorEq];try exact rfl));rintro _ rows i e ⟨x,rfl,p,q⟩ r c)
     refine qo oA (oA.lay l) (fun s=>dc aJ.tab [.int .u8] s.rows/\0<=s.i/\s.k<=3/\s.x.text.size<=100/\s.x.method.size<=100) (fun s=>3-s.k) ⟨0,rows,i,e,x⟩ (fun s G h=>by simp[oA.lay]at h;omega) (by first|exact rfl|(simp only[eS,oA.lay,fF,aZ,u,a,qQ];rfl)) ⟨r,c,by simp,p,q⟩ ?_;rintro⟨n,rows,j,e,x⟩ ⟨r,c,O,p,q⟩ -;simp only at r c O p q;simp only[oA.lay,ia,iy];refine aM (fun _=> ?_) ?_
     ·simp only[eS,aZ,u,a];simp;have:=H.pe;omega
     refine wZ (r:=.int .i64 (fq (nth g.parts d))) (xs:=[enc (nth g.parts d)]) ?_ (fun _=>Bb (nth g.parts d)) rfl ?_
     ·simp only[eS,aZ,u,a,V5,gR]
     refine wZ (r:=.int .i64 (cg x.method)) (xs:=[.str x.method]) ?_ (fun _=>Fy x.method) rfl ?_
     ·simp only[eS]
     refine wZ (r:=.bool (cw (fq (nth g.parts d)) (cg x.method))) (xs:=[.int .i64 (fq (nth g.parts d)),.int .i64 (cg x.method)]) ?_ (fun _=>wW _ _) trivial ?_
     ·simp only[eS]
     simp only[cA];apply ai<;>intro h
     ·simp only[eS]at h;have P:n<3:=by simp at h;omega
      (refine bY (Ja) (fun _ h=>BN.ty h) ?_;rintro _ rows i e ⟨y,rfl,B,C⟩ r c)
      refine⟨⟨n+1,rows,i,e,y⟩,?_,⟨r,c,by simp only;omega,B,C⟩,by simp only;omega⟩;simp only[eS,oA.lay,fF];rw[bC];simp
     ·simp only[eS,VC.den,aZ,u,a,bS,reduceIte,reduceCtorEq];exact⟨⟨⟨3,l,x,[]⟩,rfl,p,q,z⟩,_,_,_,rfl,by assumption,by assumption⟩
    ·exfalso;revert h;simp only[eS,aZ,u,a];simp
 ·apply ai<;>intro h
  ·exfalso;revert h;simp only[eS,aZ,u,a];simp
  cases bs
  ·apply ai<;>intro h
   ·exfalso;revert h;simp only[eS,aZ,u,a];simp
   refine aF (qR g.entries l) ?_;apply ai<;>intro h
   ·exfalso;revert h;simp only[eS,aZ,u,a];simp
   apply ai<;>intro h
   ·exfalso;revert h;simp only[eS,aZ,u,a];simp
   apply ai<;>intro h
   ·exfalso;revert h;simp only[eS,aZ,u,a];simp
   simp only[eS,VC.den,aZ,u,a,bS,reduceIte,reduceCtorEq];exact⟨⟨⟨4,l,oo,[]⟩,rfl,I,J,z⟩,_,_,_,rfl,by assumption,by assumption⟩
  ·have j:0<g.shut.length:=by simp[bg]at a;exact a
   apply ai<;>intro h
   ·(refine bY (mB g.shut.length) (fun _ h=>jF.ty h) ?_ (hb:=by(simp only[gS,aZ,u,a,bS,reduceIte,reduceCtorEq];try exact rfl)) (ha:=by(simp only[gS,aZ,u,a,bS,reduceIte,reduceCtorEq];try exact rfl));rintro _ rows i e ⟨y,rfl,B⟩ r c)
    have X:=B.2 (by omega);have Y:=B.1;refine aM (fun _=> ?_) ?_
    ·simp only[eS,aZ,u,a];simp;omega
    have F:=ahW g.shut (show y.toNat<g.shut.length by omega);refine aF (qR g.entries (nth g.shut y.toNat)) ?_;apply ai<;>intro h
    ·exfalso;revert h;simp only[eS,aZ,u,a];simp
    apply ai<;>intro h
    ·exfalso;revert h;simp only[eS,aZ,u,a];simp
    apply ai<;>intro h
    ·exfalso;revert h;simp only[eS,aZ,u,a];simp
    simp only[eS,VC.den,aZ,u,a,F,bS,reduceIte,reduceCtorEq];exact⟨⟨⟨4,nth g.shut y.toNat,oo,[]⟩,rfl,I,J,z⟩,_,_,_,rfl,by assumption,by assumption⟩
   ·exfalso;revert h;simp only[eS,aZ,u,a];simp
 ·apply ai<;>intro h
  ·exfalso;revert h;simp only[eS,aZ,u,a];simp
  apply ai<;>intro h
  ·exfalso;revert h;simp only[eS,aZ,u,a];simp
  refine aF (qR g.entries l) ?_;rcases Mc (cV g.entries l) 0 with o|o
  ·have f:bg .geq (cV g.entries l) 0=false:=by simp[bg];omega
   apply ai<;>intro h
   ·exfalso;revert h;simp only[eS,aZ,u,a];simp
   apply ai<;>intro h
   ·exfalso;revert h;simp only[eS,aZ,u,a];simp
   apply ai<;>intro h
   ·(refine zL (aie) (fun _ h=>DL.ty h) ?_ (hb:=by(simp only[gS,aZ,u,a,bS,reduceIte,reduceCtorEq];try exact rfl)) (ha:=by(simp only[gS,aZ,u,a,bS,reduceIte,reduceCtorEq];try exact rfl));rintro _ rows i e ⟨Q,rfl,Z⟩ r c)
    have G:Q.length<=6:=by omega
    (refine bY (qT _) (fun _ h=>oR.ty h) ?_;rintro _ rows i e ⟨b2,rfl⟩ r c)
    apply ai<;>intro h
    ·exfalso;revert h;simp only[eS,aZ,u,a,f];simp
    simp only[eS,VC.den,aZ,u,a,f,bS,reduceIte,reduceCtorEq];exact⟨⟨⟨5,l,oo,Q⟩,rfl,I,J,G⟩,_,_,_,rfl,by assumption,by assumption⟩
   ·exfalso;revert h;simp only[eS,aZ,u,a];simp
  obtain⟨d,m,A,_⟩:=vF o;rw[m];have f:bg .geq (d:Int) 0=true:=by simp[bg]
  apply ai<;>intro h
  ·exfalso;revert h;simp only[eS,aZ,u,a];simp
  apply ai<;>intro h
  ·exfalso;revert h;simp only[eS,aZ,u,a];simp
  apply ai<;>intro h
  ·(refine zL (aie) (fun _ h=>DL.ty h) ?_ (hb:=by(simp only[gS,aZ,u,a,bS,reduceIte,reduceCtorEq];try exact rfl)) (ha:=by(simp only[gS,aZ,u,a,bS,reduceIte,reduceCtorEq];try exact rfl));rintro _ rows i e ⟨Q,rfl,Z⟩ r c)
   have G:Q.length<=6:=by omega
   (refine bY (qT _) (fun _ h=>oR.ty h) ?_;rintro _ rows i e ⟨b2,rfl⟩ r c)
   apply ai<;>intro h
   ·have j:=am7 (H.er _ (gK A)).1;have j:=(adn (H.er _ (gK A)).1).1;refine aM (fun _=> ?_) ?_
    ·simp only[eS,aZ,u,a];simp;omega
    refine aM (fun _=> ?_) ?_
    ·simp only[eS,aZ,u,a,oZ,ja,gR];simp;omega
    have j:((nth g.entries d).recipe.take 1).length=1:=by rw[lG];omega
    refine dU (MO ((nth g.entries d).recipe.take 1) (by omega)) ?_ (ha:=by(simp only[gS,aZ,u,a,oZ,ja,gR,azd];try exact rfl))
    (apply vB;(focus (simp only[gS,aZ,u,a,f,bS,reduceIte,reduceCtorEq];try exact rfl));(focus (simp only[gS,aZ,u,a,f,bS,reduceIte,reduceCtorEq];try exact rfl));(focus (exact⟨_,_,_,rfl,by assumption,by assumption⟩));(focus (first|exact um _ (by decide) rfl|exact Dr.eB (um _ (by decide) rfl)));(focus (exact fun _ h=>isS.ty h));rintro _ rows i e ⟨t,rfl⟩ r c;(simp only[cA]))
    refine aM (fun _=> ?_) ?_
    ·simp only[eS];simp;omega
    refine aF (Dj ((nth g.entries d).recipe.take 1++[t])) ?_ (ha:=by(simp only[gS,aj,zC,jA,qQ,eO];try exact rfl));have S:D.sl (((nth g.entries d).recipe.take 1).map aB.cells++[[.str t]])=aj ((nth g.entries d).recipe.take 1++[t]):=by simp[aj,eO]
    apply ai<;>intro c
    ·simp only[eS,VC.den,aZ,u,a,f,bS,reduceIte,reduceCtorEq];exact⟨⟨⟨5,l,oo,[DZ]⟩,rfl,I,J,(show [DZ].length<=6 by decide)⟩,_,_,_,rfl,by assumption,by assumption⟩
    ·simp only[eS,VC.den,aZ,u,a,f,S,bS,reduceIte,reduceCtorEq];exact⟨⟨⟨5,l,oo,(nth g.entries d).recipe.take 1++[t]⟩,rfl,I,J,(by simp[j])⟩,_,_,_,rfl,by assumption,by assumption⟩
   ·simp only[eS,VC.den,aZ,u,a,f,bS,reduceIte,reduceCtorEq];exact⟨⟨⟨5,l,oo,Q⟩,rfl,I,J,G⟩,_,_,_,rfl,by assumption,by assumption⟩
  ·exfalso;revert h;simp only[eS,aZ,u,a];simp
structure CX where
 n:Int
 rows:List (List D)
 i:Int
 h:Int
 g:Host
def CX.lay(s:CX):List D:=[.int .i64 s.n,.sl s.rows,.int .i64 s.i,.int .i64 s.h,aj s.g.entries,aj s.g.parts,aj s.g.up,aj s.g.shut,aj s.g.log]
def azq(g:Host)(G:HW g)(m:Int)(t:0<=m/\m<=100):Dr 35 [enc g,.int .i64 m] DK:=by
 refine lD arv aKn (fun u h=>by exact⟨mN g,rfl,jl h⟩) (enc g) ⟨_,rfl,G⟩ fun rows i d x z r a=> ?_;(simp only[cA]);unfold arv
 (refine bY (mB _) (fun _ h=>jF.ty h) ?_;rintro _ rows i d ⟨y,rfl,k⟩ r a)
 have c:dL .add .i64 m 1=m+1:=bC;have b:=k.2 (by rw[c];omega);rw[c]at b;refine qo CX CX.lay (fun s=>dc aJ.tab [.int .u8] s.rows/\0<=s.i/\s.n<=101/\HW s.g) (fun s=>s.n.toNat) ⟨y,rows,i,d,g⟩ (fun s A h=>by simp[CX.lay]at h;rw[h.1]) rfl ⟨r,a,by simp only;omega,G⟩ ?_;rintro⟨n,rows,j,d,g⟩ ⟨r,a,l,G⟩ -;simp only at r a l G;simp only[CX.lay,ia,iy];apply ai<;>intro h
 ·simp[E.den,bg]at h
  (refine zL (TD g G) (fun _ h=>Gu.ty h) ?_;rintro _ rows i d ⟨e,rfl,o,p,q⟩ r a)
  refine FF (r:=.aU [enc (xE g e).1,.bool (xE g e).2]) (xs:=[enc g,enc e]) ?_ (ayJ g e G.fit (by omega) (by omega)) ⟨mN _,trivial,trivial⟩ ?_
  ·rfl
  simp only[cA];have f:dL .sub .i64 n 1=n-1:=mz;apply ai<;>intro B
  ·refine⟨⟨n-1,rows,i,d,(xE g e).1⟩,?_,⟨r,a,by simp only;omega,aFs G e⟩,by simp only;omega⟩;simp only[eS,CX.lay,aZ];rw[f]
  ·refine⟨⟨n-1,rows,i,d,g⟩,?_,⟨r,a,by simp only;omega,G⟩,by simp only;omega⟩;simp only[eS,CX.lay,aZ];rw[f]
 ·exact⟨⟨g,rfl,G⟩,_,_,_,rfl,r,a⟩
def aae:Dr 14 [] DK:=by
 have j:HW (DC [] []):=acS (l:=[]) rfl;refine lD ark aKe (fun k h=>by exact jl h) (enc (DC [] [])) ⟨_,rfl,j⟩ fun rows i s m a r b=> ?_;(simp only[cA]);unfold ark
 (refine bY (azp) (fun _ h=>Ow.ty h) ?_;rintro _ rows i s ⟨l,rfl,a,c⟩ r b)
 have n:=(qG a).1;have f:∀e∈l,e.fit:=fun e d=>⟨dK (c e d).1 (by decide),dK (c e d).2 (by decide)⟩;refine dU (aym l (by omega) f) (hty:=⟨mN _,trivial,trivial⟩) ?_
 (refine bY (azq (DC (Kb l) (Kc l)) (acS a) 9 (by decide)) (fun _ h=>DK.ty h) ?_;rintro _ rows i s ⟨g,rfl,G⟩ r b)
 exact⟨⟨g,rfl,G⟩,_,_,_,rfl,r,b⟩
def ahz(e:Event)(a:e.recipe.length<=1048576):dJ az 52 none [enc e] (enc e) [] [(6,1)]:=by refine gh apF aIC ⟨Cr e,trivial⟩ fun f=> ?_;unfold apF;refine dU (ahA e.recipe a) ?_;exact ay rfl
set_option maxHeartbeats 1000000 in
def aKV{N:Nat->Prop}{l:List ByteArray}(hG:ek w (BM M N))(h:R w (BM M N) (aj l) v)(hl:l.length<1048576) :
  Calls az 50 #[v] w fun e w'=>∃c,e=.returned c/\OR M (fun x=>N x\/c.ownBlock=some x) w' 9 1 (l.map aB.cells) c/\(∀x,c.ownBlock=some x->w.heap.size<=x)/\Below w.heap.size w w':=by
 obtain⟨a,cap,Q,_,F⟩:=mA (ma (n:=1) (fun _=>rfl) l) h;rw[di]at Q;subst Q;obtain⟨Y,q,Z,z,G⟩:=wT (P:=az) (e:=9) (z:=.string ⟨#[]⟩) (size:=1) (bytes:=16) (by kernel_rfl);refine pH (E:=[(0,.slice a l.length cap)]) Tryz.func50 rfl Tryz.ntmps50 (by simp) (by simp) ?_;refine aO ?_;refine ah bN ?_;refine bn ?_;refine CW.sl [0] ?_;refine aO ?_;refine ah aI ?_;have S:w.ownsRow 0 9 1 (.slice none 0 0) 0 []:=World.ownsRow_nil _ _ _ _;have t:∀k (T:k<l.length),(nth l k).size<=maxLen/\∃b o,a=some ⟨b,o,none⟩/\w.cell? ⟨b,o+k,none⟩=some (.string (nth l k)):=fun k T=>by obtain⟨b,o,j,rfl,f,⟨n,_,rfl,⟨rfl,z⟩,p⟩,m⟩:=F k _ (get_map l T);exact⟨z,b,o,rfl,by have:=m 0 _ rfl;simpa using this⟩
 have y:∀(c:Value) (w':World),w'.ownsRow 0 9 1 c l.length (l.map Value.string)->OR M (fun x=>N x\/c.ownBlock=some x) w' 9 1 (l.map aB.cells) c:=fun c w' j=>by
  refine⟨ma (fun _=>rfl) l,l.map Value.string,by rw[di];exact j,fun x f=>.inr f,fun i j r d B n=> ?_⟩;rw[iw]at B;obtain⟨s,H,rfl⟩:=kN.1 B;have n:[D.str s][j]? =some d:=n;have I:=(dh.1 H).1;have p:nth l i=s:=by rw[nth,List.getD,H];rfl
  match j,n with
  |0,n=> cases n;exact⟨.string s,by rw[iw,show i*1+0=i by omega,H];rfl,rfl,rfl,by rw[<-p];exact(t i I).1⟩
  |j+1,n=>simp at n
 rcases a with _|a
 ·have J:l=[]:=by
   rcases l with _|⟨s,l⟩
   ·rfl
   ·obtain⟨_,b,o,e,_⟩:=t 0 (by simp);cases e
  subst J;have O:cap=0:=by obtain⟨r,U,V,m,_,_,_,n,_⟩:=(show R w (BM M N) (.sl (([]:List ByteArray).map aB.cells)) _ from h);cases m;exact n rfl
  subst O;refine ah (rB rfl rfl rfl (ag6 eX q (bM _))) ?_;refine ah bN ?_;exact WL.nil (aL (CW.ret (LU rfl rfl ⟨_,rfl,y _ _ S,fun x f=>(by cases f),⟨rfl,rfl,rfl,bM _,fun _ _=>rfl⟩⟩)))
 ·obtain⟨c,w',q1,q2,q3,_,q5⟩:=run_append_own_at (P:=az) w 0 26 26 9 Y (.string ⟨#[]⟩) 1 16 eX q Z z G rfl (by decide) _ 0 _ S a l.length cap (l.map Value.string) (by simp)
   (fun j u C=>by
    rw[iw]at C;obtain⟨X,A,rfl⟩:=kN.1 C;have P:=(dh.1 A).1;obtain⟨_,b,o,e,c⟩:=t j P;cases e;have p:nth l j=X:=by rw[nth,List.getD,A];rfl
    rw[tU,c,p])
   (fun u C=>by obtain⟨X,_,rfl⟩:=fJ.1 C;rfl) (by unfold maxLen;omega) (by omega) (fW _)
  refine ah (rB rfl rfl rfl q1) ?_;refine ah bN ?_;refine WL.nil (aL (CW.ret (LU rfl rfl ⟨_,rfl,y _ _ (by simpa using q2),fun x f=> ?_,⟨q3.os,q3.tape,q3.output,q3.size,fun i B=>q3.block i B (fun e=>by cases e)⟩⟩)));rcases q5 with e|e
  ·rw[e]at f;cases f
  ·rw[e]at f;have c:=iR f;omega
def cpI:QT ann:=⟨by kernel_rfl,aKV,ax1,ahz,ZP⟩
def aKU(G:ek w M)(b:R w M (enc h) v)(d:h.entries.length<=1048576)(f:∀e∈h.entries,e.fit)(u:h.up.length<1048576)(s:h.shut.length<1048576)(l:h.parts.length<1048576)(c:∀p∈h.parts,p.core.cells.length<=4294967296/\p.ak.length<=4294967296)(a:h.log.length<1048576)(r:∀e∈h.log,e.recipe.length<=1048576) :
  Calls az 16 #[v] w fun e w'=>∃N ve vp vu vs vl,e=.returned (.agg (aD ve vp vu vs vl))/\HX M N w' h ve vp vs vl/\OR M N w' 9 1 (h.up.map aB.cells) vu/\(∀x,vu.ownBlock=some x->¬KV vp vl x)/\(∀x,N x->w.heap.size<=x)/\Below w.heap.size w w':=au5 cpI Tryz.func16 aF0 rfl rfl G b d f u s l c a r
def QZ:Prop:=∀(p:Part) (m:ByteArray),DT p->m=mStart\/m=dY->aH az 56 none [enc p,enc (bK m)] (.aU [enc (gJ p (bK m)).1,enc (gJ p (bK m)).2]) []
def QY{E:List (Nat×Value)}{fn:Func}{R:Ending->World->Prop}(h:fn.results=#[])(b:R (.returned (.tuple #[])) w):NX n (bodyPost P fn R .normal) E w :=
 fun a c=>⟨c.df,_,by simp[results,h,De],b⟩
noncomputable def VJ:Array Oper:=GY Tryz.f21 1
def axy:∀k:Nat,k<64->bg .eql (dL .and .i64 (k:Int) 1) 1=cw (k:Int) 1:=by decide +kernel
section
variable {L:Nat}{bx:List (Nat×TypeId×Array Value)}{M:Addr->Prop}{N:Nat->Prop}{w W:World}{b6:Nat}{g h:Host}{ve vp vu vs vl:Value}
set_option maxHeartbeats 4000000 in
def aK4(P:QZ)(H:HX M N W g ve vp vs vl)(q6:aA W b6 29 (aD ve vp vu vs vl))(h6:¬KV vp vl b6){i:Nat}{m:ByteArray}(hm:m=mStart\/m=dY)(n:i<g.parts.length)(hp:DT (nth g.parts i)) :
  Calls az 21 #[PH b6,.int .i64 (i:Int),.string m] W fun e w'=>e=.returned (.tuple #[])/\HX M N w' {g with parts:=g.parts.set i (nz (nth g.parts i) m)} ve vp vs vl/\dr (KV vp vl) W w':=by
 have t:(g.parts.map aB.cells)[i]? =some (aB.cells (nth g.parts i)):=get_map g.parts n;have x:(g.parts.map (aB.cells (α:=Part))).length=g.parts.length:=di _;have Q:m.size<=maxLen:=by rcases hm with rfl|rfl<;>decide
 obtain⟨b,cap,r,c,q1,J,q3,O⟩:=H.p.row t;rw[x]at c;subst c;obtain⟨p,y⟩:∃p,nth g.parts i=p:=⟨_,rfl⟩;rw[y]at O hp ⊢;refine pH (E:=[(0,PH b6),(1,.int .i64 (i:Int)),(2,.string m)]) Tryz.func21 rfl Tryz.ntmps21 (by simp) (by simp) ?_;refine aO ?_;refine ah aI ?_;refine ah (Ah rfl rfl) ?_;refine ah (br sj) ?_;refine ah (bz ql (v:=.slice (some ⟨b,0,none⟩) g.parts.length cap) ((q6.cell 1).trans rfl)) ?_;refine ah aI ?_;refine ah (yU rfl rfl rfl n FM) ?_;refine ah (yX (cs:=r) rfl rfl dF rfl (by rw[q1];exact lZ) J) ?_;refine dD (aH.calls (MJ p) H.cM (vs:=[.agg r.toArray]) ⟨_,[],rfl,⟨_,rfl,O⟩,rfl⟩) ?_;rintro _ c ⟨_,rfl,S,f⟩;obtain⟨rfl, -⟩:=S;refine⟨_,rfl,?_⟩;have T:=H.below f;have k:=q6.below f q6.lt;have q:∀(j:Nat) (u:Value),r[j]? =some u->c.cell? ((⟨b,i*6,none⟩:Addr).add j)=some u:=fun j u z=>by rw[f.cell (gm (J j u z))];exact J j u z
 have A:=Rs.keep (bQ.below f fun _ _ h=>h) _ _ O;have U:dr (KV (.slice (some ⟨b,0,none⟩) g.parts.length cap) vl) W c:=vK (dr.refl _ _) f;clear H q6 J O f;refine ah (iE (r:=dL .and .i64 (fq p:Int) 1) (hb:=rfl)) ?_;refine ah (gX (b:=cw (fq p) 1) (hb:=(axy _ (aiO p)))) ?_;refine bn ?_;rcases c:cw (fq p) 1 with _|_
 ·refine CW.no (CW.skip (QY rfl ⟨rfl,?_,U⟩));have V:nz p m=p:=by unfold nz;rw[aw (by rw[c];decide)]
  have d:g.parts.set i p=g.parts:=by rw[<-y,nth,List.getD,bX n];exact List.set_getElem_self n
  rw[V,d];exact T
 refine eC ?_;have V:nz p m=(gJ p (bK m)).1:=by unfold nz;rw[aC c]
 rw[V];refine CW.sl [0,1,2] ?_;refine CW.any (fun X=>aA X b6 29 (aD ve (.slice (some ⟨b,0,none⟩) g.parts.length cap) vu vs vl)) 19 mo fun c Y d=>⟨k.below d k.lt,?_⟩;have Z:=T.below d;have q6:=k.below d k.lt;have B:∀(j:Nat) (u:Value),r[j]? =some u->c.cell? ((⟨b,i*6,none⟩:Addr).add j)=some u:=fun j u z=>by rw[d.cell (gm (q j u z))];exact q j u z
 have C:=Rs.keep (bQ.below d fun _ _ h=>h) _ _ A;have o:=vK U d;clear T k q A d U Y;refine bf 0 rfl (fun X c=>aI) q6 ?_;refine bf 1 rfl (fun X c=>Ah rfl rfl) q6 ?_;refine bf 2 rfl (fun X c=>br sj) q6 ?_;refine bf 3 rfl (fun X c=>bz ql (v:=.slice (some ⟨b,0,none⟩) g.parts.length cap) ((c.cell 1).trans rfl)) q6 ?_;refine bf 4 rfl (fun X c=>aI) q6 ?_;refine bf 5 rfl (fun X c=>aI) q6 ?_;refine bf 6 rfl (fun X c=>Ah rfl rfl) q6 ?_;refine bf 7 rfl (fun X c=>br sj) q6 ?_;refine bf 8 rfl (fun X c=>bz ql (v:=.slice (some ⟨b,0,none⟩) g.parts.length cap) ((c.cell 1).trans rfl)) q6 ?_;refine bf 9 rfl (fun X c=>aI) q6 ?_;refine bf 10 rfl (fun X c=>yU rfl rfl rfl n FM) q6 ?_;refine bf 12 rfl (fun X c=>aI) q6 ?_;refine bf 13 rfl (fun X c=>kF (vs:=[(0,.string m)]) (ahp m)) q6 ?_;refine gP 11 rfl (yX (cs:=r) rfl rfl dF rfl (by rw[q1];exact lZ) B) (fun _=>q6) ?_;refine qK 14 rfl (aH.calls (P p m hp hm) Z.cM (vs:=[.agg r.toArray,.agg #[.string m,.string ⟨#[]⟩,.int .i64 0,.string ⟨#[]⟩]]) ⟨_,_,rfl,⟨_,rfl,C⟩,_,[],rfl,ahR Q,rfl⟩) ?_;rintro _ z ⟨d,rfl,r,l⟩;obtain⟨t,rfl,d,f,j⟩:=OU r;have y:=Z.below l;have k:=q6.below l q6.lt;have A:=vK o l;have q:b6≠b:=fun e=>h6 (.inl (by rw[e];rfl));clear Z q6 B C o l r;refine⟨_,rfl,fun _=>k,?_⟩;refine gP 15 rfl aI (fun _=>k) ?_;refine bf 16 rfl (fun X c=>fG) k ?_;refine bf 18 rfl (fun X c=>yU rfl rfl rfl n FM) k ?_;obtain⟨c,e,s⟩:=j;have s:Rs z (BM M N) (aB.cells (gJ p (bK m)).1) t.toList:=by cases e;exact s
 obtain⟨j,F,c,o⟩:=VS (n:=35) (P:=az) (E:=[(34,.pointer (some ⟨b,i*6,none⟩)),(32,.agg t)]) (o:=opAt VJ 19) (T:=87) (x:=.tmp 34) (y:=.tmp 32) (by kernel_rfl) rfl rfl y.p (by rw[x];exact n) rfl d f s lZ;have G:=y.part c o;have I:dr (KV (.slice (some ⟨b,0,none⟩) g.parts.length cap) vl) W j:=Uh A o (.inl (.inl rfl));refine LP (show Region.ready .any _ _=[17,19] by kernel_rfl) ?_ ?_
 ·refine zp (o:=opAt VJ 17) (d:=33) (fG (x:=.tmp 16) (i:=1) (v:=.agg (fN (gJ p (bK m)).2)) (ho:=(by kernel_rfl))) k ?_;refine AJ 19 (o:=opAt VJ 19) (by kernel_rfl) (by kernel_rfl) (by kernel_rfl) (by kernel_rfl) (fun a c=>F a (c.sub ⟨rfl,rfl,trivial⟩)) (fun h=>absurd rfl h) ?_;exact iH (by kernel_rfl) (QY rfl ⟨rfl,G,I⟩)
 ·refine avl (o:=opAt VJ 19) (by kernel_rfl) (by kernel_rfl) (by kernel_rfl) (fun a c=>F a (c.sub ⟨rfl,rfl,trivial⟩)) (fun h=>absurd rfl h) ?_;refine gP 17 rfl fG (fun _=>(o.block b6 q).trans k) ?_;exact iH (by kernel_rfl) (QY rfl ⟨rfl,G,I⟩)
set_option maxHeartbeats 4000000 in
def aK5(G:ek w M)(S:SB L bx M N w W b6 g ve vp vu vs vl){k:Int}{s:ByteArray}(H:IntKind.i64.min<=k/\k<=IntKind.i64.max)(I:s.size<=maxLen)(q:g.log.length<1048576) :
  Calls az 22 #[PH b6,.agg #[.int .i64 k,.string s,.string ⟨#[]⟩,.string ⟨#[]⟩,.int .i64 0,.string ⟨#[]⟩,.slice none 0 0]] W fun e w'=>e=.returned (.tuple #[])/\∃N' l,SB L bx M N' w w' b6 (qB g (jm k s)) ve vp vu vs l:=by
 refine pH (E:=[(0,PH b6),(1,.agg #[.int .i64 k,.string s,.string ⟨#[]⟩,.string ⟨#[]⟩,.int .i64 0,.string ⟨#[]⟩,.slice none 0 0])]) Tryz.func22 rfl Tryz.ntmps22 (by simp) (by simp) ?_;refine aO ?_;refine CZ B0.nil fun C B=> ?_;refine bn ?_;have b:Below W.heap.size W C:=B.b;have q3:aA C W.heap.size 33 #[.int .i64 k,.string s,.string ⟨#[]⟩,.string ⟨#[]⟩,.int .i64 0,.string ⟨#[]⟩,.slice none 0 0]:=B.q0;clear B;refine CW.sl [0,3] ?_;have o:=S.below b;have r:¬N W.heap.size:=fun J=>by have:=S.H.nb _ J;omega
 refine CW.any (fun X=>aA X b6 29 (aD ve vp vu vs vl)/\aA X W.heap.size 33 #[.int .i64 k,.string s,.string ⟨#[]⟩,.string ⟨#[]⟩,.int .i64 0,.string ⟨#[]⟩,.slice none 0 0]) 11 mo fun T t d=>⟨⟨o.q6.below d o.q6.lt,q3.below d q3.lt⟩,?_⟩;have a:=o.below d;have q4:=q3.below d q3.lt;clear S o q3 b d t;refine bf 0 rfl (fun X c=>aI) ⟨a.q6,q4⟩ ?_;refine bf 1 rfl (fun X c=>aI) ⟨a.q6,q4⟩ ?_;refine bf 2 rfl (fun X c=>Ah rfl rfl) ⟨a.q6,q4⟩ ?_;refine bf 3 rfl (fun X c=>br tj) ⟨a.q6,q4⟩ ?_;refine bf 4 rfl (fun X c=>bz vc (v:=vl) ((c.1.cell 4).trans rfl)) ⟨a.q6,q4⟩ ?_;refine bf 5 rfl (fun X c=>bF Zp c.2 Vm) ⟨a.q6,q4⟩ ?_;refine qK 6 rfl (aH.calls (aH.eB (ahz (jm k s) (fW _))) a.H.cM (vs:=[.agg #[.int .i64 k,.string s,.string ⟨#[]⟩,.string ⟨#[]⟩,.int .i64 0,.string ⟨#[]⟩,.slice none 0 0]]) ⟨_,[],rfl,⟨_,rfl,T9 H I⟩,rfl⟩) ?_;rintro _ F ⟨U,rfl,j,f⟩;obtain⟨m,rfl,O,_⟩:=aaL j;have n:=a.below f;have q5:=q4.below f q4.lt;clear a q4 f;refine⟨_,rfl,fun _=>⟨n.q6,q5⟩,?_⟩;obtain⟨P,u,i⟩:=j;have i:Rs F (BM M N) (aB.cells (jm k s)) ([.int .i64 (jm k s).kind,.string (jm k s).name,.string (jm k s).call.method,.string (jm k s).call.key,.int .i64 (jm k s).call.val,.string (jm k s).call.text,m]):=by cases u;exact i
 obtain⟨l,V,Y,p,y,x,z,_,Q⟩:=n.lg G (e:=jm k s) i q;have A:=z q5 fun e=>r (n.H.l.lt _ e.symm).1;have b:=iA F #[.int .i64 (jm k s).kind,.string (jm k s).name,.string (jm k s).call.method,.string (jm k s).call.key,.int .i64 (jm k s).call.val,.string (jm k s).call.text,m] 33;refine gP 7 rfl Ki (fun _=>⟨n.q6.below b n.q6.lt,q5.below b q5.lt⟩) ?_;refine gP 8 rfl (rB rfl rfl rfl p) (fun _=>⟨x,A⟩) ?_;refine gP 9 rfl (Ah rfl rfl) (fun _=>⟨x,A⟩) ?_;refine gP 10 rfl (br tj) (fun _=>⟨x,A⟩) ?_;refine AJ 11 rfl (by kernel_rfl) rfl rfl (pS rfl rfl rfl (by kernel_rfl) y ((x.cell 4).trans rfl) (x.frozen 4)) (fun h=>absurd rfl h) ?_;exact iH (by kernel_rfl) (QY rfl ⟨rfl,_,l,Q⟩)
end
def aEB{f:Nat->Nat->Bool}(h:R w M (j8 n f) v){i:Nat}(l:i<n):∃b o cap u,v=.slice (some ⟨b,o,none⟩) n cap/\w.cell? ⟨b,o+i*1,none⟩=some u/\R w M (da n (f i)) u:=by
 have m:(rowsOf (fun i=>da n (f i)) n).length=n:=by have:=Fs n f;unfold j8 cG at this;simpa using this
 obtain⟨a,cap,d,_,e⟩:=mA (n:=1) (fun r k=>by unfold rowsOf at k;obtain⟨j,_,rfl⟩:=fJ.1 k;rfl) (show R w M (.sl (rowsOf (fun i=>da n (f i)) n)) v from h);rw[m]at d;obtain⟨b,o,t,rfl,p,⟨q,_,rfl,s,x⟩,c⟩:=e i [da n (f i)] (by unfold rowsOf;rw[iw,Ix l];rfl);exact⟨b,o,cap,q,d,by have:=c 0 _ rfl;simpa using this,s⟩
def anu{f:Nat->Bool}(h:R w M (da n f) v){i:Nat}(l:i<n):∃b o cap,v=.slice (some ⟨b,o,none⟩) n cap/\w.cell? ⟨b,o+i*1,none⟩=some (.bool (f i)):=by
 have m:(rowsOf (fun j=>D.bool (f j)) n).length=n:=by have:=kQ n f;unfold da cG at this;simpa using this
 obtain⟨a,cap,d,_,e⟩:=mA (n:=1) (fun r k=>by unfold rowsOf at k;obtain⟨j,_,rfl⟩:=fJ.1 k;rfl) (show R w M (.sl (rowsOf (fun j=>.bool (f j)) n)) v from h);rw[m]at d;obtain⟨b,o,s,rfl,u,⟨q,_,rfl,p,t⟩,c⟩:=e i [.bool (f i)] (by unfold rowsOf;rw[iw,Ix l];rfl);obtain rfl:=p;exact⟨b,o,cap,d,by have:=c 0 _ rfl;simpa using this⟩
section
variable {M:Addr->Prop}{N:Nat->Prop}{w w':World}{rows:List ByteArray}{v:Value}
end
def agj{Q:Exit->Act->World->Prop}{E:List (Nat×Value)}{c:Code}(E':List (Nat×Value))(J:World->Prop)(h1:CW n P c (fun e a w=>e=.normal/\Env n a E'/\J w) E w)(h2:∀w,J w->NX n (Q .normal) E' w):CW n P c Q E w:=fun a b=>
 A9 (h1 a b) fun e d w' q=>by obtain⟨rfl,f,i⟩:=q;exact h2 w' i d f
def LW{E:List (Nat×Value)}{E':List (Nat×Value)}{J:World->Prop}(s:tf E E')(b:J w):NX n ((fun e a w=>e=Exit.normal/\Env n a E'/\J w) .normal) E w:=fun a c=>⟨rfl,c.sub s,b⟩
def aFj{a:Int}{b:Bool}(h:R w M (.aU [.int .i64 a,.bool b]) v):v=.tuple #[.int .i64 a,.bool b]:=by obtain⟨t,rfl,c,r0,e,⟨rfl,_⟩,d,r1,rfl,rfl,rfl⟩:=h;rw[<-iX.1 (show t.toList=#[Value.int .i64 a,.bool b].toList from e)]
def azY:vD az 51=some 1:=by kernel_rfl
def aiD:vD az 50=some 1:=by kernel_rfl
def aK9(h:R w M (jx l) v):∃v0 v1 a,v=.agg #[v0,v1,a]/\(∀u∈(#[v0,v1,a]:Array Value).toList,u.oneCell'=true)/\R w M (j8 l.length (dM l)) a:=by obtain⟨s,rfl,v0,r0,e,d,v1,r1,rfl,f,a,r2,rfl,b,rfl⟩:=h;refine⟨v0,v1,a,by rw[<-iX.1 (show s.toList=#[v0,v1,a].toList from e)],?_,b⟩;have o:=kY (show R w M (.sl _) v0 from d);have i:=kY (show R w M (.sl _) v1 from f);have j:=kY (show R w M (.sl _) a from b);intro u c;simp at c;rcases c with rfl|rfl|rfl<;>assumption
def Fu(h:Host)(s:ByteArray):Int:=if tu h&&decide (h.log.length<24)then cV h.entries s else 0
def axZ(h:Host)(s:ByteArray)(a:oz h):aH az 17 none [enc h,.str s] (.aU [.int .i64 (Fu h s),.bool (gW h s)]) []:=by
 refine cu apB aIy ⟨mN h,trivial,trivial⟩ fun f=> ?_;unfold apB;refine aF (axP h a.el a.isH) ?_;apply ai<;>intro c<;>simp only[eS,aZ]at c
 ·refine ay ?_;have b:(tu h&&decide (h.log.length<24))=false:=by
   cases a:tu h with
   |false=>rfl
   |true=>rw[a]at c;simp[aj]at c;simp;omega
  have m:gW h s=false:=by
   unfold gW;cases a:tu h with
   |false=>rfl
   |true=>rw[a]at b;simp at b;simp[b]
  have d:Fu h s=0:=by unfold Fu;rw[b];rfl
  rw[d,m];rfl
 ·have b:(tu h&&decide (h.log.length<24))=true:=by
   cases a:tu h with
   |false=>rw[a]at c;simp at c
   |true=>rw[a]at c;simp[aj]at c;simp;omega
  refine aF (MK h.entries s) ?_;refine ay ?_;simp only[eS,aZ];have m:gW h s=decide (0<=cV h.entries s):=by rw[aX]at b;unfold gW;rw[b.1,b.2];by_cases e:cV h.entries s<0<;>simp[e]<;>omega
  have d:Fu h s=cV h.entries s:=by unfold Fu;rw[b];rfl
  rw[d,m]
def aFP(r:cm l=true){i k:Nat}(a:i<l.length)(b:k<l.length):hasB (mg l (nth l i).name) (nth l k).name=dM l i k:=by rw[O5 r a,GA r b]
def OK{α:Type}[Inhabited α](l:List α){i:Nat}(h:i<l.length):nth l i=l[i]:=by simp[nth,jZ,h]
def VF{α:Type}[Inhabited α](l:List α){i:Nat}(h:i<l.length):nth l i=l[i]:=by simp[nth,jZ,h]
def OV(l:List ByteArray)(s:ByteArray):Option Nat:=eA (fun k=>decide (nth l k=s)) l.length
def mf(l:List ByteArray)(s:ByteArray):Int:=match OV l s with|some k=>k|none=> -1
def I3(l:List ByteArray)(s:ByteArray):aH az 12 none [aj l,.str s] (.int .i64 (mf l s)) []:=by
 refine cu apU aIS ⟨jW l,trivial,trivial⟩ fun f=> ?_;have c:l.length<=9223372036854775807:=kS f.1;unfold apU;refine cQ l.length (fun k=>[.int .i64 k]) (fun k=>∀i,i<k->decide (nth l i=s)=false) rfl (by omega) ?_;intro k d I _;simp only[cA];apply ai<;>intro a<;>simp only[eS]at a
 ·have a:k<l.length:=by simp at a;exact a
  refine eu ?_;apply ai<;>intro b<;>simp only[eS,gZ,eO]at b
  ·refine ay ?_;simp[E.den,mf,OV,vI (p:=fun k=>decide (nth l k=s)) b I a]
  ·refine cK a ?_ fun i e=> ?_
   ·simp only[eS];rw[bC];rfl
   ·rcases dP i k with h|h
    ·exact I i h
    ·obtain rfl:i=k:=by omega
     exact b
 ·obtain rfl:k=l.length:=by simp at a;omega
  exact ay (by simp[E.den,mf,OV,vH I])
def VG(l:List Entry)(o:List Nat){p:Nat}(h:p<o.length):nth (qC l o) p=(nth l o[p]).name:=by rw[VF _ (by rw[v7];exact h)];simp[qC]
def adf(r:cm l=true){p:Nat}(a:p<(iP l).length):mf (bR l) (nth l (iP l)[p]).name=p:=by have o:∀{q:Nat} (h:q<(iP l).length),(iP l)[q]<l.length:=fun h=>yQ (k:=l.length) (qj h);have n:=OQ l l.length;unfold mf OV bR;rw[aC r];rw[vI (p:=fun k=>decide (nth (qC l (iP l)) k=(nth l (iP l)[p]).name)) (k:=p) (by rw[VG l _ a];simp) (fun i b=> ?_) (by rw[v7];exact a)];rw[VG l _ (by omega),oH];intro e;have:=uH r (o (by omega)) (o a) e;have c:(iP l).Nodup:=n;exact Iz.1 c i p (by omega) a b this
def aFr(r:cm l=true){i:Nat}(b:i<l.length)(h:i∉iP l):mf (bR l) (nth l i).name= -1:=by unfold mf OV bR;rw[aC r,vH fun k a=> ?_];rw[v7]at a;rw[VG l _ a,oH];intro e;have:=uH r (yQ (k:=l.length) (qj a)) b e;exact h (this▸qj a)
def aFq(r:cm l=true){i c:Nat}(a:i<l.length)(b:c<l.length)(h:0<=mf (bR l) (nth l i).name)(d:dM l i c=true) :
  0<=mf (bR l) (nth l c).name/\mf (bR l) (nth l c).name<mf (bR l) (nth l i).name:=by
 have m:i∈iP l:=Rd fun n=>by rw[aFr r a n]at h;omega
 obtain⟨p,e,rfl⟩:=tX m;have s:iP l=(iP l).take p++(iP l)[p]::(iP l).drop (p+1):=by rw[List.getElem_cons_drop,Db]
 have:=VL _ (bM _) s b d;obtain⟨q,f,rfl⟩:=tX this;rw[lG]at f;have j:q<p:=by omega
 rw[Y5,adf r (by omega),adf r e];omega
def ams(l:List Entry):(bR l).length<=l.length:=by
 unfold bR;split
 ·rw[v7];exact Ke l l.length
 ·simp
def axj(r:cm l=true){i k:Nat}(a:i<l.length)(b:k<l.length):hasB (kA (mg l (nth l k).name) (nth l k).name) (nth l i).name=(decide ((i:Int)=(k:Int))||dM l k i):=by
 have c:(nth l i).name∈mg l (nth l k).name↔dM l k i=true:=by rw[<-yw,O5 r b,GA r a]
 rw[wQ,yw,yS,c,jM,du];constructor
 ·rintro (h|h)
  ·exact .inr h
  ·exact .inl (by rw[uH r a b h])
 ·rintro (h|h)
  ·exact .inr (by rw[show i=k by omega])
  ·exact .inl h
def aHp{s:ByteArray}(e:gW h s=true):lO h s=(!hasB h.up s&& !hasB h.shut s&&dW (fun i=> !(dM h.entries (cO h s) i&&hasB h.shut (nth h.entries i).name)) h.entries.length):=by
 obtain⟨O,f, -, -⟩:=z7 e;obtain⟨k,a,l,b⟩:=vF f;have t:cO h s=k:=by unfold cO;rw[a];rfl
 have r:=O.qF;rw[t];unfold lO;rw[e,oC];cases hasB h.up s with
 |true=>rfl
 |false=>
  rw[C8,oC,oC,wQ,fH,aX,jC];have m:∀x,x∈nK h s↔x=s\/∃i,i<h.entries.length/\dM h.entries k i=true/\(nth h.entries i).name=x:=fun x=>by
   unfold nK;rw[yS];have:mg h.entries s=fA h.entries (dM h.entries k):=by rw[<-b];exact O5 r l
   rw[this,BW];exact or_comm
  constructor
  ·intro j;refine⟨j s ((m s).2 (.inl rfl)),fun i c=> ?_⟩;cases d:dM h.entries k i with
   |false=>rfl
   |true=> have:=j _ ((m _).2 (.inr ⟨i,c,d,rfl⟩));simpa using this
  ·rintro⟨n,o⟩ x p;rcases (m x).1 p with rfl|⟨i,c,d,rfl⟩
   ·exact n
   ·have:=o i c;rw[d]at this;simpa using this
def amz(r:cm l=true){p:Nat}(b:p<(bR l).length):∃i,i<l.length/\nth (bR l) p=(nth l i).name/\mf (bR l) (nth l i).name=p:=by
 have e:bR l=qC l (iP l):=by unfold bR;rw[aC r]
 have a:p<(iP l).length:=by rw[e,v7]at b;exact b
 exact⟨(iP l)[p],yQ (k:=l.length) (qj a),by rw[e];exact VG l _ a,adf r a⟩
def Kf(r:cm l=true){p:Nat}(a:p<(bR l).length):mf (bR l) (nth (bR l) p)=p:=by obtain⟨i,_,b,c⟩:=amz r a;rw[b];exact c
def aFe(r:cm l=true):(bR l).Pairwise fun a b=>mf (bR l) a<mf (bR l) b:=by rw[Iz];intro i j c d k;have e:=Kf r c;have f:=Kf r d;rw[OK _ c]at e;rw[OK _ d]at f;rw[e,f];omega
def xJ(h:Host)(all:List ByteArray)(k:Nat):List ByteArray:=((bR h.entries).take k).filter fun x=>hasB all x&& !hasB h.up x
def ajH(a b:List ByteArray)(x:ByteArray):hasB (a++b) x=(hasB a x||hasB b x):=by rw[wQ,yw,jM,yw,yw,iJ]
def ads{h:Host}(r:cm h.entries=true)(all:List ByteArray):∀k,k<=(bR h.entries).length->(gY h all k).up=h.up++xJ h all k
 |0,_=>by simp[gY,xJ]
 |k+1,f=>by
  have ih:=ads r all k (by omega);have t:(bR h.entries).take (k+1)=(bR h.entries).take k++[nth (bR h.entries) k]:=Pr (by omega);have n:hasB (xJ h all k) (nth (bR h.entries) k)=false:=by rw[<-YU,yw];intro m;have m:=(tY.1 m).1;obtain⟨i,a,e⟩:=tX m;rw[lG]at a;rw[Y5]at e;have b:=Kf r (p:=i) (by omega);have d:=Kf r (p:=k) (by omega);rw[OK _ (by omega),e,d]at b;omega
  have u:hasB (gY h all k).up (nth (bR h.entries) k)=hasB h.up (nth (bR h.entries) k):=by rw[ih,ajH,n,Bool.or_false]
  unfold xJ at *;rw[t,Y0];unfold gY;simp only;rw[u];cases c:hasB all (nth (bR h.entries) k)&& !hasB h.up (nth (bR h.entries) k)with
  |false=>simp[ih,c]
  |true=>simp[xI,ih,c]
def aF8(r:cm h.entries=true)(all:List ByteArray){k:Nat}(a:k<(bR h.entries).length):hasB (gY h all k).up (nth (bR h.entries) k)=hasB h.up (nth (bR h.entries) k):=by
 rw[ads r all k (by omega),ajH];have:hasB (xJ h all k) (nth (bR h.entries) k)=false:=by rw[<-YU,yw];intro m;have m:=(tY.1 m).1;obtain⟨i,b,e⟩:=tX m;rw[lG]at b;rw[Y5]at e;have c:=Kf r (p:=i) (by omega);have d:=Kf r a;rw[OK _ (by omega),e,d]at c;omega
 rw[this,Bool.or_false]
def aHq{s:ByteArray}(ho:lO h s=true):∃R,(gM h s).up=h.up++R/\(∀x∈R,x=s\/hasB (mg h.entries s) x=true)/\(R.Pairwise fun a b=>mf (bR h.entries) a<mf (bR h.entries) b)/\R.length<=h.entries.length/\∃A,R=A++[s]:=by
 have U:gM h s=qB (gY h (nK h s) (bR h.entries).length) (jm 1 s):=by unfold gM;rw[aC ho]
 have V:gW h s=true:=by unfold lO at ho;simp only[aX]at ho;exact ho.1.1
 have C:hasB h.up s=false:=by unfold lO at ho;simp only[aX,qi]at ho;exact ho.1.2
 obtain⟨Q,F, -, -⟩:=z7 V;obtain⟨k,X,l,f⟩:=vF F;have t:=Q.qF;have G:(gM h s).up=h.up++xJ h (nK h s) (bR h.entries).length:=by rw[U];exact ads t _ _ (bM _)
 have r:xJ h (nK h s) (bR h.entries).length=(bR h.entries).filter fun x=>hasB (nK h s) x&& !hasB h.up x:=by unfold xJ;rw[uY]
 have j:(xJ h (nK h s) (bR h.entries).length).Pairwise fun a b=>mf (bR h.entries) a<mf (bR h.entries) b:=by rw[r];exact(aFe t).filter _
 have n:∀x∈xJ h (nK h s) (bR h.entries).length,x=s\/hasB (mg h.entries s) x=true:=fun x B=>by
  rw[r]at B;have d:=(tY.1 B).2;rw[aX,yw]at d;unfold nK at d;rw[yS]at d;rcases d.1 with H|H
  ·exact .inr (yw.2 H)
  ·exact .inl H
 have o:∀x∈bR h.entries,∃i,i<h.entries.length/\x=(nth h.entries i).name/\0<=mf (bR h.entries) x:=fun x B=>by obtain⟨p,S,rfl⟩:=tX B;obtain⟨i,Y,e,d⟩:=amz t S;rw[OK _ S]at e;exact⟨i,Y,e,by rw[e,d];omega⟩
 have m:s∈xJ h (nK h s) (bR h.entries).length:=by rw[r,tY,C];refine⟨?_,by simp only[C8,Ra];rw[yw];unfold nK;rw[yS];exact .inr rfl⟩;have Z:k∈iP h.entries:=(amy l).2 (Q.qc k l);unfold bR;rw[aC t, <-f];exact fJ.2 ⟨k,Z,rfl⟩
 refine⟨_,G,n,j,by rw[r];exact dK (Rh _ _) (ams _),?_⟩;generalize p:xJ h (nK h s) (bR h.entries).length=R at n j m r;rcases List.eq_nil_or_concat R with rfl|⟨A,y,rfl⟩
 ·simp at m
 refine⟨A,?_⟩;rw[List.concat_eq_append]at *;by_cases I:y=s
 ·rw[I]
 exfalso;have J:s∈A:=by
  rcases iJ.1 m with e|e
  ·exact e
  ·simp at e;exact absurd e.symm I
 have e:mf (bR h.entries) s<mf (bR h.entries) y:=(List.pairwise_append.1 j).2.2 s J y (by simp);have q:y∈A++[y]:=by simp
 have O:y∈bR h.entries:=by rw[r]at q;exact(tY.1 q).1
 have P:s∈bR h.entries:=by rw[r]at m;exact(tY.1 m).1
 obtain⟨c,T,u,_⟩:=o y O;obtain⟨_,_,_,z⟩:=o s P;rcases n y q with d|d
 ·exact I d
 ·rw[u, <-f,aFP t l T]at d;rw[<-f]at z e;have:=(aFq t l T z d).2;rw[u]at e;omega
end
end Go.Proofs.YtoomhbopolalnabGreatDoor
