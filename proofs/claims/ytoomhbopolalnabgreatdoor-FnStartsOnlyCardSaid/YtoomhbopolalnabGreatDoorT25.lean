/- Walk: a part of a host is swapped (the reference's SwapPart). -/
import Derived.Test.YtoomhbopolalnabGreatDoorT24
set_option linter.all false
set_option maxRecDepth 100000
namespace Go.Proofs.YtoomhbopolalnabGreatDoor
variable {M:Addr->Prop}{h:Host}{r:List ByteArray}{n:Nat}{v:Value}{w:World}
section
open Go.RowKit Go
set_option synthInstance.maxSize 2000
variable [GC]
def ayK(l a:List il):aH Tryz.prog 147 none [aj l,aj a] (.bool (decide (l=a))) []:=by
 refine cu art aKl ⟨Ap l,Ap a,trivial⟩ fun f=> ?_;have q:l.length<=9223372036854775807:=kS f.1;unfold art;apply ai<;>intro h
 ·simp[E.den,bg]at h;refine ay ?_;have:l≠a:=fun e=>h (by rw[e]);simp[E.den,this]
 simp[E.den,bg]at h;have h:l.length=a.length:=by omega
 refine cQ l.length (fun k=>[.int .i64 k]) (fun k=>∀i,i<k->nth l i=nth a i) rfl (by omega) ?_;intro k r I _;simp only[cA];apply ai<;>intro j
 ·simp[E.den,bg]at j;refine aM (fun n=> ?_) (aM (fun n=> ?_) ?_)
  ·simp[E.den];omega
  ·simp[E.den];omega
  apply ai<;>intro d
  ·refine ay ?_;have:l≠a:=fun e=>by subst e;simp only[eS,xK,vA,gR]at d;simp[mU,Js]at d
   simp[E.den,this]
  refine cK j ?_ fun i s=> ?_
  ·simp[E.den];rw[bC]
  rcases dP i k with m|m
  ·exact I i m
  ·obtain rfl:i=k:=by omega
   simp only[eS,xK,vA,gR]at d;simp[mU,Js]at d;cases o:nth l i;cases p:nth a i;rw[o,p]at d;obtain⟨q1,q2,q3⟩:=d;simp only[il.mk.injEq];exact⟨toList_inj q1,toList_inj q2,q3⟩
 ·simp[E.den,bg]at j;obtain rfl:k=l.length:=by omega
  exact ay (by simp[E.den,Ua h I])
def am7{l:List ByteArray}(h:jH l=true):0<l.length:=by
 unfold jH dZ at h;split at h
 ·simp[rep]at h
 ·rename_i a;exact Nat.pos_of_ne_zero fun e=>a (.inl e)
def alc:(Tryz.prog.info? 84).map (·.size)=some 5:=by kernel_rfl
def LN:Array Value:=#[.string ⟨#[]⟩,.bool false,.bool false,aP,.int .i64 0]
def aCT:(Tryz.prog.info? 84).bind (·.zero)=some (.agg LN):=by kernel_rfl
def ai1:mD Tryz.prog 84 3=some 3:=by kernel_rfl
def MG(arg:Array Value):List (Nat×TypeId×Array Value):=[(0,29,arg),(1,29,#[aP,aP,aP,aP,aP])]
section
variable {L:Nat}{bx:List (Nat×TypeId×Array Value)}{M:Addr->Prop}{N N':Nat->Prop}{w W:World}{b6:Nat}{g:Host}{ve vp vu vs vl:Value}{k:Int}{b:Bool}{v:Value}{c:Core}
def SB.less(S:SB L bx M N w W b6 g ve vp vu vs vl)(h1:∀x,N' x->N x)(h2:∀x,KV vp vl x->N' x)(h:∀k,k<L->N' (w.heap.size+k))(a:N' b6):SB L bx M N' w W b6 g ve vp vu vs vl :=
 {S with H:=S.H.less h1 h2,U:=R.less S.U fun q d=>d.imp id (h1 _),nb:=h,n6:=a,nw:=fun x e=>S.nw x (h1 x e)}
def acv(h:R W M (.aU [.int .i64 k,.bool b]) v):v=.tuple #[.int .i64 k,.bool b]:=by obtain⟨t,rfl,a,r0,e,⟨rfl,d⟩,f,r1,rfl,rfl,rfl⟩:=h;rw[show t=#[_,_]from by rw[<-iX,e]]
def ay7(h:R W M (enc c) v):∃S,v=.agg #[.string c.kind,.bool c.on,.bool c.broken,S,.int .i64 c.count]/\R W M (aj c.cells) S:=by
 obtain⟨s,rfl,v0,r0,e,⟨rfl,f⟩,v1,r1,rfl,rfl,i,r2,rfl,rfl,a,r3,rfl,d,v4,r4,rfl,⟨rfl,j⟩,rfl⟩:=h;have:s=#[.string c.kind,.bool c.on,.bool c.broken,a,.int .i64 c.count]:=by rw[<-iX,e]
 exact⟨a,by rw[this],d⟩
def aD5:bg .gtr ((n:Nat):Int) 0= !decide (n=0):=by cases n<;>simp[bg]<;>omega
end
def axH(s:ByteArray)(a:Option Addr)(n c:Nat):uk Tryz.prog 33 [(0,.int .i64 5),(1,.string s),(3,.slice a n c)]=some #[.int .i64 5,.string s,.string ⟨#[]⟩,.string ⟨#[]⟩,.int .i64 0,.string ⟨#[]⟩,.slice a n c]:=by kernel_rfl
def az1{W:World}{s:ByteArray}(h:s.size<=maxLen)(a:R W M (aj r) v):Rs W M (aB.cells (⟨5,s,oo,r⟩:Event)) [.int .i64 5,.string s,.string ⟨#[]⟩,.string ⟨#[]⟩,.int .i64 0,.string ⟨#[]⟩,v]:=by
 have e:(⟨#[]⟩:ByteArray).size<=maxLen:=by decide
 have i:IntKind.i64.min<=(0:Int)/\(0:Int)<=IntKind.i64.max:=by decide
 have d:IntKind.i64.min<=(5:Int)/\(5:Int)<=IntKind.i64.max:=by decide
 exact⟨_,_,rfl,⟨rfl,d⟩,_,_,rfl,⟨rfl,h⟩,_,_,rfl,⟨rfl,e⟩,_,_,rfl,⟨rfl,e⟩,_,_,rfl,⟨rfl,i⟩,_,_,rfl,⟨rfl,e⟩,_,_,rfl,a,rfl⟩
set_option maxHeartbeats 8000000 in
def aKT{s:ByteArray}{rv:Value}(T:ek w M)(hv:R w M (enc h) v)(hs:s.size<=maxLen)(hr:R w M (aj r) rv)(hrl:r.length<=1000)(hh:oz h) :
  Calls Tryz.prog 116 #[v,.string s,rv] w fun e w'=>∃r',e=.returned r'/\R w' M (.aU [enc (rE h s r),.bool (rF h s r)]) r'/\Below w.heap.size w w':=by
 obtain⟨ae,ap,au,F,al,rfl,mE,hap,qX,has,hal⟩:=Gf hv;obtain⟨ra,rc,Hg,_,hrel⟩:=mA (ma (n:=1) (fun _=>rfl) r) hr;rw[di]at Hg;subst Hg;refine pH (E:=[(0,.agg (aD ae ap au F al)),(1,.string s),(2,.slice ra r.length rc)]) Tryz.func116 rfl Tryz.ntmps116 (by simp) (by simp) ?_;refine aO ?_;refine CZ B0.nil fun _ B=> ?_;refine CY B oT fun w1 B=> ?_;refine ah bN ?_;refine bn ?_;refine CW.sl [1,2,3,6] ?_;refine aO ?_;refine ah (bF cN B.q0 bE) ?_;refine dD (Yi B T hv hh) ?_;rintro _ A ⟨ve,vp,vu,vs,vl,rfl,one,mk⟩;refine⟨_,rfl,?_⟩;refine ah (eQ rfl oT) ?_;refine bW rfl (cs:=aD ve vp vu vs vl) rfl (xH A) one bE fun w3 q6 oV=> ?_;obtain⟨N,S⟩:=mk w3 q6 oV;have S3:SB 2 (MG (aD ae ap au F al)) M N w w3 A.heap.size h ve vp vu vs vl:=S;clear mk one q6 oV S B;refine bn ?_;refine CW.sl [1,2,3,6,8] ?_;refine aO ?_;refine ah aI ?_;refine dD (aH.calls (Dj r) S3.H.cM (vs:=[.slice ra r.length rc]) ⟨_,[],rfl,S3.kp hr,rfl⟩) ?_;rintro _ w4 ⟨vq,rfl,G,hb4⟩;obtain rfl:=acv G;refine⟨_,rfl,?_⟩;have S4:=S3.below hb4;clear S3 hb4 G;refine ah aI ?_;refine ah fG ?_;refine ah fG ?_;refine ah bN ?_;refine ah bN ?_;refine bn ?_;refine CW.sl [1,2,3,6,8,10] ?_;refine CW.seq (aO ?_);refine ah (bF cN S4.b0 bE) ?_;refine ah aI ?_;refine dD (S4.ask (MQ h s hh) ⟨_,_,rfl,S4.kp hv,_,[],rfl,⟨rfl,hs⟩,rfl⟩) ?_;rintro _ w5 ⟨rfl,S5⟩;refine⟨_,rfl,?_⟩;clear S4;refine ah qE ?_;refine ah aI ?_;rcases hm:gW h s with _|_
 ·refine dO (b:=true) ?_;refine dO (b:=true) ?_;refine ah (nu rfl rfl rfl) ?_;refine ah aI ?_;refine dO (b:=true) ?_;refine dO (b:=true) ?_;refine dO (b:=true) ?_;refine dO (b:=true) ?_;refine ah (nu rfl rfl rfl) ?_;refine WL.nil (aL (eC ?_));refine aO ?_;refine ah (bF cN S5.q6 bE) ?_;refine bW rfl (cs:=aD ve vp vu vs vl) rfl S5.b1 S5.one bE fun wz z4 oa=> ?_;refine ah bN ?_;obtain⟨hR,q,_⟩:=S5.ans T (by decide) oa;have H:rF h s r=false:=by unfold rF;rw[hm];simp
  refine WL.nil (aL (CW.ret (NX.ret (qf rfl rfl rfl z4 cN rfl bE ⟨_,rfl,?_,q⟩))));have hd:rE h s r=h:=by unfold rE;rw[aw (by rw[H];decide)]
  rw[hd,H];exact⟨_,rfl,_,_,rfl,hR,_,_,rfl,rfl,rfl⟩
 refine fY (b:=false) aI ?_;refine fY (b:=false) qE ?_;refine ah (pR rfl rfl rfl) ?_;refine ah aI ?_;rcases hok:jH r with _|_
 ·refine dO (b:=true) ?_;refine dO (b:=true) ?_;refine dO (b:=true) ?_;refine dO (b:=true) ?_;refine ah (nu rfl rfl rfl) ?_;refine WL.nil (aL (eC ?_));refine aO ?_;refine ah (bF cN S5.q6 bE) ?_;refine bW rfl (cs:=aD ve vp vu vs vl) rfl S5.b1 S5.one bE fun wz z4 oa=> ?_;refine ah bN ?_;obtain⟨hR,q,_⟩:=S5.ans T (by decide) oa;have H:rF h s r=false:=by unfold rF;rw[hok];simp
  refine WL.nil (aL (CW.ret (NX.ret (qf rfl rfl rfl z4 cN rfl bE ⟨_,rfl,?_,q⟩))));have hd:rE h s r=h:=by unfold rE;rw[aw (by rw[H];decide)]
  rw[hd,H];exact⟨_,rfl,_,_,rfl,hR,_,_,rfl,rfl,rfl⟩
 refine fY (b:=false) (br zN) ?_;refine fY (b:=false) (bz eX (v:=F) ((S5.b0.cell 3).trans rfl)) ?_;refine fY (b:=false) aI ?_;refine wN (b:=false) (S5.ask (nM h.shut s) ⟨_,_,rfl,S5.kp has,_,[],rfl,⟨rfl,hs⟩,rfl⟩) ?_;rintro _ w6 ⟨rfl,S6⟩;refine⟨_,rfl,?_⟩;clear S5;refine ah (pR rfl rfl rfl) ?_;refine bn ?_;rcases hsh:hasB h.shut s with _|_
 rotate_left
 ·refine eC ?_;refine aO ?_;refine ah (bF cN S6.q6 bE) ?_;refine bW rfl (cs:=aD ve vp vu vs vl) rfl S6.b1 S6.one bE fun wz z4 oa=> ?_;refine ah bN ?_;obtain⟨hR,q,_⟩:=S6.ans T (by decide) oa;have H:rF h s r=false:=by unfold rF;rw[hsh];simp
  refine WL.nil (aL (CW.ret (NX.ret (qf rfl rfl rfl z4 cN rfl bE ⟨_,rfl,?_,q⟩))));have hd:rE h s r=h:=by unfold rE;rw[aw (by rw[H];decide)]
  rw[hd,H];exact⟨_,rfl,_,_,rfl,hR,_,_,rfl,rfl,rfl⟩
 refine CW.no (CW.skip (aL ?_));refine CW.sl [1,2,3,6,8] ?_;have hO:wJ h:=DD.1 (by unfold gW at hm;simp only[aX]at hm;exact hm.1.1);have BA:h.log.length<24:=by unfold gW at hm;simp only[aX,du]at hm;exact hm.2
 have hfs:0<=cV h.entries s:=by unfold gW at hm;simp only[aX,qi,oH]at hm;have:=hm.1.2;omega
 have uy:cV h.entries s=((cO h s:Nat):Int):=(Md hfs).symm;have hi:cO h s<h.parts.length:=by obtain⟨i,h1,h2,_⟩:=vF hfs;unfold cO;rw[h1,hO.len];simpa using h2
 have tv:=uz hO _ (gK hi);have vQ:=Cc tv;obtain⟨i,hid⟩:∃i,cO h s=i:=⟨_,rfl⟩;rw[hid]at uy hi vQ tv;have hie:i<h.entries.length:=by rw[<-hO.len];exact hi
 refine aO ?_;refine ah (br qq) ?_;refine ah (bz mR (v:=ae) ((S6.b0.cell 0).trans rfl)) ?_;refine ah aI ?_;refine dD (aH.calls (qR h.entries s) S6.H.cM (vs:=[ae,.string s]) ⟨_,_,rfl,S6.kp mE,_,[],rfl,⟨rfl,hs⟩,rfl⟩) ?_;rintro _ w7 ⟨_,rfl,hfi,iN⟩;obtain⟨rfl, -⟩:=hfi;rw[uy];refine⟨_,rfl,?_⟩;have S7:=S6.below iN;clear S6 iN;refine ah bN ?_;refine bn ?_;refine aO ?_;refine ah (br qq) ?_;refine ah (bz mR (v:=ae) ((S7.b0.cell 0).trans rfl)) ?_;refine dD (aK0 S7.H.cM (S7.kp mE) hh.el hh.ef) ?_;rintro _ w8 ⟨Na,t,rfl,C⟩;refine⟨_,rfl,?_⟩;have S8:=S7.new (N':=Na) C.bw C.n2 C.n1 C.n3;have onw:=C.ow;have h7z:=S7.bw.size;have Qp:∀x,KV vp vl x->x<w7.heap.size:=fun x d=>d.elim (fun e=>(S7.H.p.lt x e).2) fun e=>(S7.H.l.lt x e).2;have h76:=S7.q6.lt;have h71:=S7.b1.lt;have X:=C.o;rw[uY]at X;clear S7 C;refine ah bN ?_;refine bn ?_;refine CW.sl [1,2,3,6,8,11,12] ?_;obtain⟨nb,nc,_,BK,_⟩:=X.row (get_map h.entries hie);rw[di]at BK;subst BK;refine aO ?_;refine ah aI ?_;refine ah aI ?_;refine ah aI ?_;refine dD (aH.calls (aH.eB (MO r (by omega))) S8.H.cM (vs:=[.slice ra r.length rc]) ⟨_,[],rfl,S8.kp hr,rfl⟩) ?_;rintro _ w9 ⟨vr,rfl,eZ,jP⟩;refine⟨_,rfl,?_⟩;have S9:=S8.below jP;have Uk:=X.below jP (N':=Na) (fun x d=>.inl d) fun x d=>d;clear S8 X jP;have or:vr.oneCell'=true:=kY (show R w9 _ (.sl (r.map aB.cells)) vr from eZ);have akk:(h.entries.map (aB.cells (α:=Entry))).length=h.entries.length:=di _;rw[<-akk]at Uk;obtain⟨z,nr,⟨u0,hu0⟩,hfr⟩:=Uk.aFu (j:=1) (get_map h.entries hie) (by decide) or eZ;refine ah (yU rfl rfl rfl hie M7) ?_;refine ah (br aaT) ?_;refine qO (pS rfl rfl rfl (by kernel_rfl) or hu0 hfr) ?_;generalize w9.setCell ⟨nb,i*5+1,none⟩ vr=wa at z nr ⊢;have aBQ:=(Uk.lt nb rfl).1;have nbw:=onw nb rfl;have Im:=S9.wr T nr aBQ (fun hk=>by have:=Qp _ hk;omega) (by omega) (by omega);rw[akk]at z;have hnext:(h.entries.map aB.cells).set i ((aB.cells (nth h.entries i)).set 1 (aj r))=(B6 h s r).map aB.cells:=by unfold B6;rw[hid,Rk];rfl
 rw[hnext]at z;clear Uk S9 nr hu0 hfr eZ;obtain⟨next,hnx⟩:∃next,B6 h s r=next:=⟨_,rfl⟩
 have hnl:next.length=h.entries.length:=by rw[<-hnx];simp[B6]
 rw[hnx]at z;obtain⟨I,iM⟩:∃I:Nat->Prop,I=fun x=>Na x/\x≠nb:=⟨_,rfl⟩;have Sa:SB 2 (MG (aD ae ap au F al)) M I w wa A.heap.size h ve vp vu vs vl:=Im.less (fun x d=>by rw[iM]at d;exact d.1) (fun x d=>by rw[iM];exact⟨d.elim (fun e=>(Im.H.p.lt x e).1) fun e=>(Im.H.l.lt x e).1,fun e=>by have:=Qp x d;omega⟩) (fun k hk=>by rw[iM];exact⟨Im.nb k hk,by omega⟩) (by rw[iM];exact⟨Im.n6,by omega⟩);have Nr:R wa (BM M I) (aj next) (.slice (some ⟨nb,0,none⟩) h.entries.length nc):=z.GV (fun x d=>by rw[iM]at d;exact d.1) fun x d=>⟨fun G=>by rw[iM]at G;exact G.2 (iR d).symm,fun o hm=>by have e:=iR d;have h2:x<w.heap.size:=T.1 _ hm;have e:nb=x:=e;omega⟩
 clear Im z;obtain⟨t,BK⟩:∃t:Value,.slice (some ⟨nb,0,none⟩) h.entries.length nc=t:=⟨_,rfl⟩;rw[BK]at Nr ⊢;refine bn ?_;refine CW.sl [1,2,3,6,8,11,12] ?_;refine CW.seq (CW.seq (CW.any (fun W=>aA W w.heap.size 29 (aD ae ap au F al)) 12 mo fun wb hwd n=>⟨(Sa.below n).b0,?_⟩));have Y:=Sa.below n;have ez:=db (N':=I) Nr n fun x d=>.inl d;clear Sa Nr n;refine bf 0 rfl (fun W hW=>aI) Y.b0 ?_;refine bf 2 rfl (fun W hW=>br qq) Y.b0 ?_;refine bf 3 rfl (fun W hW=>bz mR (v:=ae) ((hW.cell 0).trans rfl)) Y.b0 ?_;refine qK 1 rfl (aH.calls (aH.eB (Fw next)) Y.H.cM (vs:=[t]) ⟨_,[],rfl,ez,rfl⟩) ?_;rintro _ wc ⟨v1,rfl,hv1,hbc⟩;have Z:=Y.below hbc;have TF:=db (N':=I) ez hbc fun x d=>.inl d;clear Y ez hbc;refine⟨_,rfl,fun _=>Z.b0,?_⟩;refine qK 4 rfl (aH.calls (aH.eB (Fw h.entries)) Z.H.cM (vs:=[ae]) ⟨_,[],rfl,Z.kp mE,rfl⟩) ?_;rintro _ wd ⟨v2,rfl,hv2,n⟩;have Sd:=Z.below n;have U1:=db (N':=I) TF n fun x d=>.inl d;have hv1:=db (N':=I) hv1 n fun x d=>.inl d;clear Z TF n;refine⟨_,rfl,fun _=>Sd.b0,?_⟩;refine qK 5 rfl (aH.calls (ayK (gq next) (gq h.entries)) Sd.H.cM (vs:=[v1,v2]) ⟨_,_,rfl,hv1,_,[],rfl,hv2,rfl⟩) ?_;rintro _ we ⟨_,rfl,V,NH⟩;obtain rfl:=V;have U:=Sd.below NH;have fg:=db (N':=I) U1 NH fun x d=>.inl d;clear Sd U1 NH hv1 hv2;refine⟨_,rfl,fun _=>U.b0,?_⟩;refine gP 6 rfl qE (fun _=>U.b0) ?_;refine gP 7 rfl aI (fun _=>U.b0) ?_;obtain⟨sl,hsl⟩:∃sl,decide (gq next=gq h.entries)=sl:=⟨_,rfl⟩;rw[hsl];cases sl
 ·refine AU.no (b:=true) 8 rfl (by kernel_rfl) rfl rfl rfl rfl (by decide) (fun _=>U.b0) ?_;refine AU.no (b:=true) 9 rfl (by kernel_rfl) rfl rfl rfl rfl (by decide) (fun _=>U.b0) ?_;refine AU.no (b:=true) 10 rfl (by kernel_rfl) rfl rfl rfl rfl (by decide) (fun _=>U.b0) ?_;refine AU.no (b:=true) 11 rfl (by kernel_rfl) rfl rfl rfl rfl (by decide) (fun _=>U.b0) ?_;refine gP 12 rfl (nu rfl rfl rfl) (fun _=>U.b0) ?_;refine iH (by kernel_rfl) (aL (eC ?_));refine aO ?_;refine ah (bF cN U.q6 bE) ?_;refine bW rfl (cs:=aD ve vp vu vs vl) rfl U.b1 U.one bE fun wz z4 oa=> ?_;refine ah bN ?_;obtain⟨hR,q,_⟩:=U.ans T (by decide) oa;have H:rF h s r=false:=by unfold rF;rw[hnx,hsl];simp
  refine WL.nil (aL (CW.ret (NX.ret (qf rfl rfl rfl z4 cN rfl bE ⟨_,rfl,?_,q⟩))));have hd:rE h s r=h:=by unfold rE;rw[aw (by rw[H];decide)]
  rw[hd,H];exact⟨_,rfl,_,_,rfl,hR,_,_,rfl,rfl,rfl⟩
 refine Yq (b:=false) 8 rfl (by kernel_rfl) rfl rfl rfl rfl aI (by decide) (fun _=>U.b0) ?_;refine avj (b:=false) 9 (args:=#[t]) rfl (by kernel_rfl) rfl rfl rfl rfl (sE (by kernel_rfl) rfl rfl rfl) (by decide) (aH.calls (aH.eB (Tq next)) U.H.cM (vs:=[t]) ⟨_,[],rfl,fg,rfl⟩) ?_;rintro _ wf ⟨vk,rfl,Va,hbf⟩;obtain⟨ka,kc,FT,_⟩:=mA (ma (n:=1) (fun _=>rfl) (pU next)) Va;rw[di]at FT;subst FT;have Sf:=U.below hbf;have hEg:=db (N':=I) fg hbf fun x d=>.inl d;clear U fg hbf Va;refine⟨_,rfl,fun _=>Sf.b0,?_⟩;refine Yq (b:=false) 10 rfl (by kernel_rfl) rfl rfl rfl rfl (yV rfl rfl rfl rfl eX rfl) (by decide) (fun _=>Sf.b0) ?_;refine Yq (b:=false) 11 rfl (by kernel_rfl) rfl rfl rfl rfl (gX (hb:=aD5)) (by decide) (fun _=>Sf.b0) ?_;refine gP 12 rfl (pR rfl rfl rfl) (fun _=>Sf.b0) ?_;obtain⟨sk,Gk⟩:∃sk,decide ((pU next).length=0)=sk:=⟨_,rfl⟩;rw[Gk];cases sk
 ·refine iH (by kernel_rfl) (aL (eC ?_));refine aO ?_;refine ah (bF cN Sf.q6 bE) ?_;refine bW rfl (cs:=aD ve vp vu vs vl) rfl Sf.b1 Sf.one bE fun wz z4 oa=> ?_;refine ah bN ?_;obtain⟨hR,q,_⟩:=Sf.ans T (by decide) oa;have H:rF h s r=false:=by unfold rF;rw[hnx,Gk];simp
  refine WL.nil (aL (CW.ret (NX.ret (qf rfl rfl rfl z4 cN rfl bE ⟨_,rfl,?_,q⟩))));have hd:rE h s r=h:=by unfold rE;rw[aw (by rw[H];decide)]
  rw[hd,H];exact⟨_,rfl,_,_,rfl,hR,_,_,rfl,rfl,rfl⟩
 refine iH (by kernel_rfl) (aL (CW.no (CW.skip (aL ?_))));have H:rF h s r=true:=by unfold rF;rw[hm,hok,hsh,hnx,hsl,Gk];rfl
 refine CW.sl [1,2,3,6,8,11,12] ?_;refine aO ?_;refine ah aI ?_;refine dD (aH.calls (aH.eB (Tn r)) Sf.H.cM (vs:=[.slice ra r.length rc]) ⟨_,[],rfl,Sf.kp hr,rfl⟩) ?_;rintro _ wg ⟨vm,rfl,hmk,hbg⟩;obtain⟨ms,rfl,hms,lM,m⟩:=OU hmk;refine⟨_,rfl,?_⟩;have Sg:=Sf.below hbg;have hEh:=db (N':=I) hEg hbg fun x d=>.inl d;clear Sf hEg hbg hmk;refine ah aI ?_;refine ah fG ?_;refine ah fG ?_;refine ah (eQ rfl Oy) ?_;have hb1:=iA wg tO 87;have hz1:=gb wg (.cells tO 87);obtain⟨Sh,f⟩:=Sg.alloc tO 87;have fo:=db (N':=fun x=>I x\/x=wg.heap.size) hEh hb1 fun x d=>d.imp id fun e=>by omega
 have m:=db (N':=fun x=>I x\/x=wg.heap.size) m hb1 fun x d=>d.imp id fun e=>by omega
 clear Sg hEh hb1;change WL _ _ _ _ _ _ (wg.alloc (.cells tO 87));generalize wg.alloc (.cells tO 87)=wh at hz1 Sh f fo m ⊢;refine ah (eQ rfl mJ) ?_;have hb2:=iA wh eW 102;have hz2:=gb wh (.cells eW 102);obtain⟨Si,P2⟩:=Sh.alloc eW 102;have f:=f.below hb2 (N':=fun x=>(I x\/x=wg.heap.size)\/x=wh.heap.size) fun x d=>.inl d;have Ul:=db (N':=fun x=>(I x\/x=wg.heap.size)\/x=wh.heap.size) fo hb2 fun x d=>d.imp id fun e=>by omega
 have m:=db (N':=fun x=>(I x\/x=wg.heap.size)\/x=wh.heap.size) m hb2 fun x d=>d.imp id fun e=>by omega
 clear Sh fo hb2;change WL _ _ _ _ _ _ (wh.alloc (.cells eW 102));generalize wh.alloc (.cells eW 102)=wi at hz2 Si f P2 Ul m ⊢;obtain⟨p,zR⟩:∃p:Nat->Prop,(fun x=>(I x\/x=wg.heap.size)\/x=wh.heap.size)=p:=⟨_,rfl⟩;rw[zR]at Si f P2 Ul m;obtain⟨g1,hg1⟩:∃g1,wg.heap.size=g1:=⟨_,rfl⟩;rw[hg1]at f hz1 ⊢;refine bW rfl (cs:=ms) rfl f.b (hC:=(by rw[hms];rfl)) lM (by rw[hms];exact lZ) fun wj R1 O1=> ?_;have Sj:=Si.EM T f O1;have P2:=P2.DU O1 (by omega);have hEk:=iC Ul O1 f.n;have m:=iC m O1 f.n;have f:=f.put R1;clear Si Ul R1 O1;refine bW rfl (cs:=fN (dZ r).2) rfl P2.b (Pf _) cz fun wk R2 O2=> ?_;have Sk:=Sj.EM T P2 O2;have f:=f.DU O2 (by omega);have hEl:=iC hEk O2 P2.n;have m:=iC m O2 P2.n;clear Sj hEk R2 O2 P2 hz1 hz2 zR;refine bn ?_;refine CW.sl [1,2,3,6,8,11,12,13] ?_;obtain⟨ea,ec,Dn,_,NM⟩:=mA (ma (n:=5) (fun _=>rfl) h.entries) mE;rw[di]at Dn;obtain⟨eb,eo,es,rfl,hes,⟨c0,_,hcc,⟨rfl,_⟩,c1,_,rfl,N9,_⟩,abz⟩:=NM i _ (get_map h.entries hie);subst Dn;have N9:R w M (aj (nth h.entries i).recipe) c1:=N9;have hrec:wk.cell? ⟨eb,eo+i*5+1,none⟩=some c1:=by have hc:=abz 1 c1 (by rw[hcc];rfl);rw[Sk.bw.cell (gm hc)];exact hc
 have hro:jH (nth h.entries i).recipe=true:=by have h1:=(qG hO.qF).2 i hie;unfold mC at h1;simp only[aX]at h1;have h2:=h1.1;unfold mT at h2;simp only[aX]at h2;exact h2.1.1.1.1
 have hpos:∀{l:List ByteArray},jH l=true->0<l.length:=fun {l} hl=>am7 hl;obtain⟨xa,xc,M4,_,aCB⟩:=mA (ma (n:=1) (fun _=>rfl) (nth h.entries i).recipe) N9;rw[di]at M4;obtain⟨xb,xo,xs,rfl,hxs,⟨d0,_,rfl,⟨rfl,hk0⟩,_⟩,aCA⟩:=aCB 0 _ (get_map (nth h.entries i).recipe (hpos hro));subst M4;have hx0:wk.cell? ⟨xb,xo+0*1,none⟩=some (.string (nth (nth h.entries i).recipe 0)):=by have hc:=aCA 0 _ rfl;rw[Sk.bw.cell (gm hc)];exact hc
 refine aO ?_;refine ah (br qq) ?_;refine ah (bz mR (v:=.slice (some ⟨eb,eo,none⟩) h.entries.length ec) ((Sk.b0.cell 0).trans rfl)) ?_;refine ah aI ?_;refine ah (nZ hie M7) ?_;refine ah (br aaT) ?_;refine ah (bz eX (v:=.slice (some ⟨xb,xo,none⟩) (nth h.entries i).recipe.length xc) hrec) ?_;refine ah (nZ (i:=0) (hpos hro) Bj) ?_;refine ah (bz iz (v:=.string (nth (nth h.entries i).recipe 0)) hx0) ?_;refine dD (aH.calls (I5 (nth (nth h.entries i).recipe 0)) Sk.H.cM (vs:=[.string (nth (nth h.entries i).recipe 0)]) ⟨_,[],rfl,⟨rfl,hk0⟩,rfl⟩) ?_;rintro _ wl ⟨vq,rfl,G,hbl⟩;obtain rfl:=acv G;refine⟨_,rfl,?_⟩;have Sl:=Sk.below hbl;have f:=f.below hbl (N':=p) fun x d=>d;have hEm:=db (N':=p) hEl hbl fun x d=>.inl d;have m:=db (N':=p) m hbl fun x d=>.inl d;clear Sk hEl hbl G;refine ah aI ?_;refine ah fG ?_;refine ah fG ?_;refine ah bN ?_;refine ah bN ?_;refine bn ?_;refine CW.sl [1,2,3,6,8,11,12,13,15] ?_;obtain⟨yb,yo,ys,rfl,hys,⟨d1,_,rfl,⟨rfl,hk1⟩,_⟩,aCF⟩:=hrel 0 _ (get_map r (hpos hok));have hy0:wl.cell? ⟨yb,yo+0*1,none⟩=some (.string (nth r 0)):=by have hc:=aCF 0 _ rfl;rw[Sl.bw.cell (gm hc)];exact hc
 refine aO ?_;refine ah aI ?_;refine ah (nZ (i:=0) (hpos hok) Bj) ?_;refine ah (bz iz (v:=.string (nth r 0)) hy0) ?_;refine dD (aH.calls (I5 (nth r 0)) Sl.H.cM (vs:=[.string (nth r 0)]) ⟨_,[],rfl,⟨rfl,hk1⟩,rfl⟩) ?_;rintro _ wm ⟨vq,rfl,G,yz⟩;obtain rfl:=acv G;refine⟨_,rfl,?_⟩;have Sm:=Sl.below yz;have f:=f.below yz (N':=p) fun x d=>d;have jb:=db (N':=p) hEm yz fun x d=>.inl d;have m:=db (N':=p) m yz fun x d=>.inl d;clear Sl hEm yz G;refine ah aI ?_;refine ah fG ?_;refine ah fG ?_;refine ah bN ?_;refine ah bN ?_;refine bn ?_;refine CW.sl [1,2,3,6,8,11,12,13,15,17] ?_;obtain⟨J,hkp⟩:∃J,(cw (fR (nth (nth h.entries i).recipe 0)) 2&&cw (fR (nth r 0)) 2)=J:=⟨_,rfl⟩;obtain⟨p1,Q⟩:∃p1:Part,(if J=true then {(dZ r).1 with core:={(dZ r).1.core with cells:=(nth h.parts i).core.cells}} else(dZ r).1)=p1:=⟨_,rfl⟩;have hI:∀{W:World} {k:Int} {N:Nat->Prop},True:=fun {_ _ _}=>trivial;have hil:∀s:ByteArray,IntKind.i64.min<=((fR s:Nat):Int)/\((fR s:Nat):Int)<=IntKind.i64.max:=fun s=>by
  have:=DN s;have e1:IntKind.i64.min= -9223372036854775808:=by decide
  have e2:IntKind.i64.max=9223372036854775807:=by decide
  omega
 have i2:IntKind.i64.min<=(2:Int)/\(2:Int)<=IntKind.i64.max:=by decide
 refine CW.seq (QS (fun E' W=>∃(N:Nat->Prop) (cs:Array Value),E'=[(1,.string s),(2,.slice (some ⟨yb,yo,none⟩) r.length rc),(3,PH w.heap.size),(6,PH (w.heap.size+1)),(8,PH A.heap.size),(11,.int .i64 ((i:Nat):Int)),(12,t),(13,PH g1)] /\
  SB 2 (MG (aD (.slice (some ⟨eb,eo,none⟩) h.entries.length ec) ap au F al)) M N w W A.heap.size h ve vp vu vs vl/\NB 2 N w W A.heap.size vp vl g1 87 cs/\QO M N W (p1,default) cs/\R W (BM M N) (aj next) t) ?_ ?_)
 ·refine aO ?_;refine ah aI ?_;refine dD (aH.calls (wW (fR (nth (nth h.entries i).recipe 0)) 2) Sm.H.cM (vs:=[.int .i64 (fR (nth (nth h.entries i).recipe 0)),.int .i64 2]) ⟨_,_,rfl,⟨rfl,hil _⟩,_,[],rfl,⟨rfl,i2⟩,rfl⟩) ?_;rintro _ wn ⟨_,rfl,V,zT⟩;obtain rfl:=V;refine⟨_,rfl,?_⟩;have Sn:=Sm.below zT;have f:=f.below zT (N':=p) fun x d=>d;have j3:=db (N':=p) jb zT fun x d=>.inl d;have m:=db (N':=p) m zT fun x d=>.inl d;clear Sm jb zT;refine ah aI ?_;cases ha:cw (fR (nth (nth h.entries i).recipe 0)) 2
  ·refine dO (b:=false) ?_;refine dO (b:=false) ?_;refine ah (pR rfl rfl rfl) ?_;refine WL.nil (aL (CW.no (CW.skip ?_)));rw[ha]at hkp;have:J=false:=by rw[<-hkp];rfl
   subst this;rw[aw (by decide)]at Q;exact AW ⟨p,ms,rfl,Sn,f,⟨hms,lM,by rw[<-Q];exact m,fun _ _=>Pc (Ai (k:=0) (v:=0) (w:=w) (M:=M) (by decide) (by decide)) _ _⟩,j3⟩ ⟨rfl,rfl,rfl,rfl,rfl,rfl,rfl,rfl,trivial⟩
  refine fY (b:=true) aI ?_;refine wN (b:=true) (aH.calls (wW (fR (nth r 0)) 2) Sn.H.cM (vs:=[.int .i64 (fR (nth r 0)),.int .i64 2]) ⟨_,_,rfl,⟨rfl,hil _⟩,_,[],rfl,⟨rfl,i2⟩,rfl⟩) ?_;rintro _ wo ⟨_,rfl,V,Dy⟩;obtain rfl:=V;refine⟨_,rfl,?_⟩;have So:=Sn.below Dy;have f:=f.below Dy (N':=p) fun x d=>d;have j4:=db (N':=p) j3 Dy fun x d=>.inl d;have m:=db (N':=p) m Dy fun x d=>.inl d;clear Sn j3 Dy;refine ah (nu rfl rfl rfl) ?_;rw[ha,oC]at hkp;rw[hkp];refine bn ?_;cases J
  ·refine CW.no (CW.skip ?_);rw[aw (by decide)]at Q;exact AW ⟨p,ms,rfl,So,f,⟨hms,lM,by rw[<-Q];exact m,fun _ _=>Pc (Ai (k:=0) (v:=0) (w:=w) (M:=M) (by decide) (by decide)) _ _⟩,j4⟩ ⟨rfl,rfl,rfl,rfl,rfl,rfl,rfl,rfl,trivial⟩
  refine eC ?_;rw[aC rfl]at Q;obtain⟨aa,ac,Dp,_,Gg⟩:=mA (ma (n:=6) (fun _=>rfl) h.parts) hap;rw[di]at Dp;obtain⟨pb,po,us,rfl,jq,hRs,hcell⟩:=Gg i _ (get_map h.parts hi);subst Dp;have hR0:R w M (enc (nth h.parts i)) (.agg us.toArray):=⟨_,rfl,hRs⟩;obtain⟨T1,T2,M8,ht1,UX,hkz,hct⟩:=DW hR0;have M8:us.toArray=#[.string (nth h.parts i).core.kind,.bool (nth h.parts i).core.on,.bool (nth h.parts i).core.broken,T1,.int .i64 (nth h.parts i).core.count,T2]:=by injection M8
  have M8:us=[.string (nth h.parts i).core.kind,.bool (nth h.parts i).core.on,.bool (nth h.parts i).core.broken,T1,.int .i64 (nth h.parts i).core.count,T2]:=by have:=congrArg Array.toList M8;simpa using this
  obtain⟨c5,Dz⟩:∃c5:List Value,c5=[.string (nth h.parts i).core.kind,.bool (nth h.parts i).core.on,.bool (nth h.parts i).core.broken,T1,.int .i64 (nth h.parts i).core.count]:=⟨_,rfl⟩;have qw:R w M (enc (nth h.parts i).core) (.agg c5.toArray):=by rw[Dz];exact⟨_,rfl,_,_,rfl,⟨rfl,hkz⟩,_,_,rfl,rfl,_,_,rfl,rfl,_,_,rfl,ht1,_,_,rfl,⟨rfl,hct⟩,rfl⟩
  have xn:∀(j:Nat) (u:Value),c5[j]? =some u->wo.cell? ((⟨pb,po+i*6+0,none⟩:Addr).add j)=some u:=fun j u y=>by
   rw[tU,rT];have hj:us[j]? =some u:=by
    rw[M8];rw[Dz]at y
    match j,y with
    |0,y=>exact y
    |1,y=>exact y
    |2,y=>exact y
    |3,y=>exact y
    |4,y=>exact y
    |j+5,y=>simp at y
   have hc:=hcell j u hj;rw[So.bw.cell (gm hc)];exact hc
  refine aO ?_;refine ah (br sj) ?_;refine ah (bz ql (v:=.slice (some ⟨pb,po,none⟩) h.parts.length ac) ((So.b0.cell 1).trans rfl)) ?_;refine ah aI ?_;refine ah (nZ hi FM) ?_;refine ah (br Ni) ?_;refine ah (yX (cs:=c5) rfl rfl Zr rfl (by rw[Dz];exact alc) xn) ?_;refine dD (aH.calls (aH.eB (ZZ (nth h.parts i).core (by have:=vQ.1;omega))) So.H.cM (vs:=[.agg c5.toArray]) ⟨_,[],rfl,So.kp qw,rfl⟩) ?_;rintro _ wp ⟨vq,rfl,G,NJ⟩;obtain⟨X1,rfl,hX⟩:=ay7 G;refine⟨_,rfl,?_⟩;have Sp:=So.below NJ;have f:=f.below NJ (N':=p) fun x d=>d;have hEq:=db (N':=p) j4 NJ fun x d=>.inl d;have m:=db (N':=p) m NJ fun x d=>.inl d;have oX:X1.oneCell'=true:=kY (show R wp _ (.sl ((nth h.parts i).core.cells.map aB.cells)) X1 from hX);clear So j4 NJ G;refine ah (eQ rfl aCT) ?_;have hb3:=iA wp LN 84;have hz3:=gb wp (.cells LN 84);obtain⟨Sq,P3⟩:=Sp.alloc LN 84;have aLW:=f.b.lt;have f:=f.below hb3 (N':=fun x=>p x\/x=wp.heap.size) fun x d=>.inl d;have j5:=db (N':=fun x=>p x\/x=wp.heap.size) hEq hb3 fun x d=>d.imp id fun e=>by omega
  have m:=db (N':=fun x=>p x\/x=wp.heap.size) m hb3 fun x d=>d.imp id fun e=>by omega
  have hX:=db (N':=fun x=>p x\/x=wp.heap.size) hX hb3 fun x d=>d.imp id fun e=>by omega
  clear Sp hEq hb3;change WL _ _ _ _ _ _ (wp.alloc (.cells LN 84));generalize wp.alloc (.cells LN 84)=wq at hz3 Sq f P3 j5 m hX ⊢;refine bW rfl (cs:=#[.string (nth h.parts i).core.kind,.bool (nth h.parts i).core.on,.bool (nth h.parts i).core.broken,X1,.int .i64 (nth h.parts i).core.count]) rfl P3.b (by intro u y;simp at y;rcases y with rfl|rfl|rfl|rfl|rfl<;>first|rfl|exact oX) alc fun wr R3 O3=> ?_;have Sr:=Sq.EM T P3 O3;have f:=f.DU O3 (by omega);have hEs:=iC j5 O3 P3.n;have m:=iC m O3 P3.n;have hX:=iC hX O3 P3.n;clear Sq j5 O3 P3;refine bn ?_;refine CW.region ?_;refine ah (br ai1) ?_;refine ah (bz Tryz.underlying82 (v:=X1) ((R3.cell 3).trans rfl)) ?_;refine ah (br Ni) ?_;refine ah (br ai1) ?_;obtain⟨Y1,Y2,dx,hy1,xw,hyz,hyc⟩:=DW m;have dx:ms=#[.string (dZ r).1.core.kind,.bool (dZ r).1.core.on,.bool (dZ r).1.core.broken,Y1,.int .i64 (dZ r).1.core.count,Y2]:=by injection dx
  subst dx;refine qO (pS rfl rfl rfl (by kernel_rfl) oX ((f.b.cell 3).trans rfl) (f.b.frozen 3)) ?_;have R4:aA (wr.setCell ⟨g1,0+0+3,none⟩ X1) g1 87 #[.string (dZ r).1.core.kind,.bool (dZ r).1.core.on,.bool (dZ r).1.core.broken,X1,.int .i64 (dZ r).1.core.count,Y2]:=f.b.xN 3 X1;have O4:bU wr (wr.setCell ⟨g1,0+0+3,none⟩ X1) g1:=(bU.refl wr g1).set (0+0+3) X1;generalize wr.setCell ⟨g1,0+0+3,none⟩ X1=ws at R4 O4 ⊢;have Ss:=Sr.EM T f O4;have hEt:=iC hEs O4 f.n;have hX:=iC hX O4 f.n;have xw:=iC xw O4 f.n;have f:=f.put R4;refine WL.nil ?_;refine AW ⟨_,_,rfl,Ss,f,⟨rfl,?_,?_,fun _ _=>Pc (Ai (k:=0) (v:=0) (w:=w) (M:=M) (by decide) (by decide)) _ _⟩,hEt⟩ ⟨rfl,rfl,rfl,rfl,rfl,rfl,rfl,rfl,trivial⟩
  ·have oY:Y2.oneCell'=true:=kY (show R ws _ (.sl ((dZ r).1.ak.map aB.cells)) Y2 from xw);intro u y;simp at y;rcases y with rfl|rfl|rfl|rfl|rfl|rfl<;>first|rfl|assumption
  ·rw[<-Q];exact⟨_,rfl,_,_,rfl,⟨rfl,hyz⟩,_,_,rfl,rfl,_,_,rfl,rfl,_,_,rfl,hX,_,_,rfl,⟨rfl,hyc⟩,_,_,rfl,xw,rfl⟩
 clear Sm f jb m;rintro E' W ⟨N,cs,rfl,S,P,O,X⟩;refine aL ?_;have akx:p1.core.cells.length<=4/\p1.ak.length<=3:=by
  rw[<-Q];have h1:=alQ r;split
  ·exact⟨vQ.1,h1.2⟩
  ·exact h1
 obtain⟨p2,lX⟩:∃p2:Part,(if hasB h.up s=true then nz p1 mStart else p1)=p2:=⟨_,rfl⟩;refine CW.seq (QS (fun E' W=>∃(cs:Array Value),E'=[(1,.string s),(2,.slice (some ⟨yb,yo,none⟩) r.length rc),(6,PH (w.heap.size+1)),(8,PH A.heap.size),(11,.int .i64 ((i:Nat):Int)),(12,t),(13,PH g1)] /\
  SB 2 (MG (aD (.slice (some ⟨eb,eo,none⟩) h.entries.length ec) ap au F al)) M N w W A.heap.size h ve vp vu vs vl/\NB 2 N w W A.heap.size vp vl g1 87 cs/\QO M N W (p2,default) cs/\R W (BM M N) (aj next) t) ?_ ?_)
 ·refine aO ?_;refine ah (br qt) ?_;refine ah (bz eX (v:=au) ((S.b0.cell 2).trans rfl)) ?_;refine ah aI ?_;refine dD (aH.calls (nM h.up s) S.H.cM (vs:=[au,.string s]) ⟨_,_,rfl,S.kp qX,_,[],rfl,⟨rfl,hs⟩,rfl⟩) ?_;rintro _ wa ⟨_,rfl,V,NF⟩;obtain rfl:=V;refine⟨_,rfl,?_⟩;have Sa:=S.below NF;have Pa:=P.below NF fun x d=>d;have Oa:=O.below (N':=N) NF fun x d=>.inl d;have z:=db (N':=N) X NF fun x d=>.inl d;clear S P O X NF;refine bn ?_;cases ni:hasB h.up s
  ·refine CW.no (CW.skip ?_);rw[ni,aw (by decide)]at lX;subst lX;exact AW ⟨cs,rfl,Sa,Pa,Oa,z⟩ ⟨rfl,rfl,rfl,rfl,rfl,rfl,rfl,trivial⟩
  refine eC (CW.region ?_);rw[ni,aC rfl]at lX;refine ah (bF dF Pa.b (by rw[Oa.s];exact lZ)) ?_;refine dD (aH.calls (Tt p1 mStart (by have:=akx.1;omega) (by have:=akx.2;omega)) Sa.H.cM (vs:=[.agg cs,.string mStart]) ⟨_,_,rfl,Oa.r,_,[],rfl,⟨rfl,by decide⟩,rfl⟩) ?_;rintro _ wb ⟨vq,rfl,G,qY⟩;obtain⟨ds,rfl,hds,hone,Bu⟩:=VP G;refine⟨_,rfl,?_⟩;have Y:=Sa.below qY;have Pb:=Pa.below qY fun x d=>d;have Nr:=db (N':=N) z qY fun x d=>.inl d;refine bW rfl (cs:=ds) rfl Pb.b (hC:=(by rw[hds,Oa.s])) hone (by rw[hds];exact lZ) fun wc R1 O1=> ?_;refine WL.nil ?_;exact AW ⟨ds,rfl,Y.EM T Pb O1,Pb.put R1,⟨hds,hone,by rw[<-lX];exact iC G O1 Pb.n,fun _ _=>Pc (Ai (k:=0) (v:=0) (w:=w) (M:=M) (by decide) (by decide)) _ _⟩,iC Nr O1 Pb.n⟩ ⟨rfl,rfl,rfl,rfl,rfl,rfl,rfl,trivial⟩
 clear S P O X cs;rintro E' W ⟨cs,rfl,S,P,O,X⟩;refine aL ?_;have hsw:Kt h s r=p2:=by unfold Kt;simp only[hid];rw[hkp,Q];exact lX
 have on:t.oneCell'=true:=kY (show R W _ (.sl (next.map aB.cells)) t from X);refine aO ?_;refine ah aI ?_;refine ah (br qq) ?_;refine qO (pS rfl rfl rfl (by kernel_rfl) on ((S.q6.cell 0).trans rfl) (S.q6.frozen 0)) ?_;have z6:aA (W.setCell ⟨A.heap.size,0+0,none⟩ t) A.heap.size 29 (aD t vp vu vs vl):=S.q6.xN 0 t;have v8:bU W (W.setCell ⟨A.heap.size,0+0,none⟩ t) A.heap.size:=(bU.refl W A.heap.size).set (0+0) t;generalize W.setCell ⟨A.heap.size,0+0,none⟩ t=Wa at z6 v8 ⊢;have Sa:SB 2 (MG (aD (.slice (some ⟨eb,eo,none⟩) h.entries.length ec) ap au F al)) M N w Wa A.heap.size {h with entries:=next} t vp vu vs vl :=
  S.box T v8 (fun x d=>d) (fun x d=>d.elim (fun e=>(S.H.p.lt x e).1) fun e=>(S.H.l.lt x e).1) S.nb S.n6 ⟨rfl,rfl⟩ X S.U S.H.s z6
 have Pa:=P.DU v8 P.ne;have Oa:=O.one v8 S.n6;clear S P O X v8 z6;refine bn ?_;have kr:(h.parts.map (aB.cells (α:=Part))).length=h.parts.length:=di _;obtain⟨b,cap,_,uB,_⟩:=Sa.H.p.row (get_map h.parts hi);rw[show(({h with entries:=next}:Host).parts.map (aB.cells (α:=Part))).length=h.parts.length from kr]at uB;subst uB;have Bu:Rs Wa (BM M N) (aB.cells p2) cs.toList:=by obtain⟨cs',e,hR⟩:=Oa.r;cases e;exact hR
 refine aO ?_;refine ah (br sj) ?_;refine ah (bz ql (v:=.slice (some ⟨b,0,none⟩) h.parts.length cap) ((Sa.q6.cell 1).trans rfl)) ?_;refine ah aI ?_;refine ah (bF dF Pa.b (by rw[Oa.s];exact lZ)) ?_;refine ah (yU rfl rfl rfl hi FN) ?_;obtain⟨Wb,hst,mZ,Ca⟩:=VS (n:=133) (P:=Tryz.prog) (E:=[(122,.pointer (some ⟨b,i*6,none⟩)),(121,.agg cs)]) (o:=opAt (GY Tryz.f116 19) 5) (T:=87) (x:=.tmp 122) (y:=.tmp 121) (by kernel_rfl) rfl rfl Sa.H.p (by rw[di];exact hi) rfl Oa.s Oa.o Bu lZ;refine qO (fun a X=>hst a (X.sub ⟨rfl,rfl,trivial⟩)) ?_;have Y:=Sa.part (g:={h with entries:=next}) mZ Ca;clear Sa Pa Oa mZ hst Bu Ca;refine bn ?_;obtain⟨g,hgg⟩:∃g:Host,{({h with entries:=next}:Host)with parts:=({h with entries:=next}:Host).parts.set i p2}=g:=⟨_,rfl⟩;rw[hgg]at Y;have hgl:g.log=h.log:=by rw[<-hgg]
 obtain⟨vp,uB⟩:∃vp:Value,.slice (some ⟨b,0,none⟩) h.parts.length cap=vp:=⟨_,rfl⟩;rw[show(.slice (some ⟨b,0,none⟩) ({h with entries:=next}:Host).parts.length cap:Value)=vp from uB]at Y;refine CW.sl [1,2,6,8] ?_;refine CW.seq (CW.any (fun W=>aA W A.heap.size 29 (aD t vp vu vs vl)) 9 mo fun Wc hwd n=>⟨(Y.below n).q6,?_⟩);have Z:=Y.below n;clear Y n;refine bf 0 rfl (fun W hW=>br tj) Z.q6 ?_;refine bf 1 rfl (fun W hW=>bz vc (v:=vl) ((hW.cell 4).trans rfl)) Z.q6 ?_;refine bf 2 rfl (fun W hW=>aI) Z.q6 ?_;refine bf 3 rfl (fun W hW=>aI) Z.q6 ?_;refine qK 4 rfl (aH.calls (aH.eB (MO r (by omega))) Z.H.cM (vs:=[.slice (some ⟨yb,yo,none⟩) r.length rc]) ⟨_,[],rfl,Z.kp hr,rfl⟩) ?_;rintro _ Wd ⟨vr,rfl,eZ,n⟩;obtain⟨za,zc,M5,_⟩:=mA (ma (n:=1) (fun _=>rfl) r) eZ;rw[di]at M5;subst M5;have Sd:=Z.below n;clear Z n;refine⟨_,rfl,fun _=>Sd.q6,?_⟩;refine gP 5 rfl (kF (vs:=[(0,.int .i64 5),(1,.string s),(3,.slice za r.length zc)]) (axH s za r.length zc)) (fun _=>Sd.q6) ?_;obtain⟨cY,Wf,p,ND,yO,x6,_,_,Sk⟩:=Sd.lg T (e:=⟨5,s,oo,r⟩) (az1 hs eZ) (by rw[hgl];omega);refine gP 6 rfl Ki (fun _=>(Sd.below (iA _ _ _)).q6) ?_;refine gP 7 rfl (rB rfl rfl rfl ND) (fun _=>x6) ?_;refine gP 8 rfl (br tj) (fun _=>x6) ?_;refine AJ 9 rfl (by kernel_rfl) rfl rfl (pS rfl rfl rfl (by kernel_rfl) yO ((x6.cell 4).trans rfl) (x6.frozen 4)) (fun h=>absurd rfl h) ?_;generalize Wf.setCell ⟨A.heap.size,0+4,none⟩ cY=Wg at Sk ⊢;clear Sd x6;refine iH (by kernel_rfl) (aL ?_);refine CW.sl [6,8] ?_;refine aO ?_;refine ah (bF cN Sk.q6 bE) ?_;refine bW rfl (cs:=aD t vp vu vs cY) rfl Sk.b1 Sk.one bE fun Wh z4 oa=> ?_;refine ah bN ?_;obtain⟨hR,q,_⟩:=Sk.ans T (by decide) oa;have hd:rE h s r=qB g ⟨5,s,oo,r⟩:=by unfold rE;rw[aC H,hsw,hid,hnx, <-hgg]
 refine WL.nil (aL (CW.ret (qf rfl rfl rfl z4 cN rfl bE ⟨_,rfl,?_,q⟩)));rw[hd,H];exact⟨_,rfl,_,_,rfl,hR,_,_,rfl,rfl,rfl⟩
def ayw(h:Host)(s:ByteArray)(r:List ByteArray)(l:r.length<=1000)(d:oz h):aH Tryz.prog 116 none [enc h,.str s,aj r] (.aU [enc (rE h s r),.bool (rF h s r)]) [] :=
 CO (by kernel_rfl) fun w M vs G e=>by obtain⟨v,_,rfl,f,j,_,rfl,⟨rfl,i⟩,m,_,rfl,a,rfl⟩:=e;exact aKT G f i a l d
end
variable {cs:List D}{l:List Entry}{cap:Nat}{a:Option Addr}{w':World}
section
open Go.RowKit Go
variable [GC]
def axx:∀k:Nat,k<64->cw (k:Int) 2=true->k.testBit 1=true:=by decide +kernel
def avg(l:List ByteArray):∀k,(gO l k).core=vZ (nth l 0)
 |0=>rfl
 |k+1=>by
  have:(kJ (gO l k) (nth l (k+1))).1.core=(gO l k).core:=by
   unfold kJ;split
   ·rfl
   split
   ·rfl
   split
   ·rfl
   ·rfl
  exact this.trans (avg l k)
def aEP{s:ByteArray}(h:kindOk s=true):dC (rA s)=true:=by
 have a:vZ s=⟨s,false,false,[],0⟩:=by unfold vZ;rw[aC h]
 rw[pQ];refine⟨?_,fW _,fun i d=>absurd d (Nat.not_lt_zero i)⟩;show oK (vZ s)=true;rw[a,rY];exact⟨h,rfl,.inl rfl,(show gL 0=true by decide),by simp,.inr ⟨rfl,rfl⟩⟩
def Vw{l:List ByteArray}(h:jH l=true):dC (dZ l).1=true/\(dZ l).1.core=⟨nth l 0,false,false,[],0⟩/\kindOk (nth l 0)=true:=by
 unfold jH at h;have h:(dZ l).2.code=0:=by simpa using h
 unfold dZ at h ⊢;split at h
 ·simp[rep]at h
 rename_i d;rw[aw d];have a:kindOk (nth l 0)=true:=by
  cases e:kindOk (nth l 0)with
  |true=>rfl
  |false=>exact absurd (.inr e) d
 cases f:eA (fun k=> !decide ((tN l k).code=0)) (l.length-1)with
 |some k=> rw[f]at h;have i:=(vG f).2.1;simp at i;exact absurd h i
 |none=>
  have n:=aaQ f;have p:∀k,k<=l.length-1->dC (gO l k)=true:=by
   intro k;induction k with
   |zero=>intro _;exact aEP a
   |succ k ih=>
    intro o;have j:=n k (by omega);have q:(kJ (gO l k) (nth l (k+1))).2.code=0:=by simp[tN]at j;exact SV j
    have m:=aLc q;show dC (kJ (gO l k) (nth l (k+1))).1=true;rw[m.2.2.2.2.1];exact m.2.2.2.2.2
  refine⟨p _ (bM _),?_,a⟩;show(gO l (l.length-1)).core=_;rw[avg];unfold vZ;rw[aC a]
def aDt{c:List Cell}(h:jH r=true)(a:iS c=true)(ho:cw (fR (nth r 0)) 2=true):dC {(dZ r).1 with core:={(dZ r).1.core with cells:=c}}=true:=by obtain⟨d,e,f⟩:=Vw h;obtain⟨_,q2,q3⟩:=pQ.1 d;have j:∀i,fP {(dZ r).1 with core:={(dZ r).1.core with cells:=c}} i=fP (dZ r).1 i:=fun i=>rfl;refine pQ.2 ⟨?_,q2,fun i l=>by rw[j];exact q3 i l⟩;rw[e,rY];exact⟨f,a,.inr (axx _ (DN _) ho),(show gL 0=true by decide),by simp,.inr ⟨rfl,rfl⟩⟩
structure HW(h:Host):Prop where
 e6:h.entries.length<=6
 pe:h.parts.length=h.entries.length
 er:∀e∈h.entries,jH e.recipe=true/\e.needs.length<=3
 pp:∀p∈h.parts,dC p=true
 nk:h.log.length<=24
 u:h.up.length<=6*h.log.length
 s:h.shut.length<=h.log.length
 lr:∀e∈h.log,e.recipe.length<=1000
def HW.fit(H:HW h):oz h:=by
 have f:=H.e6;have i:=H.pe;have j:=H.nk;have l:=H.u;have m:=H.s;refine⟨by omega,fun e a=> ?_,by omega,by omega,by omega,fun p d=> ?_,by omega,fun e a=>dK (H.lr e a) (by decide)⟩
 ·have q1:=(adn (H.er e a).1).1;have q2:=(H.er e a).2;exact⟨by omega,by omega⟩
 ·have:=Cc (H.pp p d);exact⟨by have:=this.1;omega,by have:=this.2;omega⟩
def HW.logged{g:Host}{ev:Event}(H:HW h)(l:g.log=h.log)(t:h.log.length<24)(j:g.entries.length=h.entries.length)(d:∀e∈g.entries,jH e.recipe=true/\e.needs.length<=3)(m:g.parts.length=h.parts.length)(f:∀p∈g.parts,dC p=true)(u:g.up.length<=h.up.length+6)(s:g.shut.length<=h.shut.length+1)(r:ev.recipe.length<=1000):HW (qB g ev):=by
 have n:=H.e6;have o:=H.pe;have q:=H.u;have x:=H.s;have i:(qB g ev).log.length=h.log.length+1:=by show(g.log++[ev]).length=_;rw[l];simp
 refine⟨by show g.entries.length<=6;omega,by show g.parts.length=g.entries.length;omega,d,f,by omega,by show g.up.length<=_;omega,by show g.shut.length<=_;omega,fun e a=> ?_⟩;have a:e∈g.log++[ev]:=a;rcases iJ.1 a with a|a
 ·rw[l]at a;exact H.lr e a
 ·simp at a;rw[a];exact r
def Wj{α:Type}{P:α->Prop}{l:List α}{i:Nat}{x:α}(h:∀y∈l,P y)(hx:P x):∀y∈l.set i x,P y:=fun y d=>by
 rcases sZ d with a|a
 ·exact h y a
 ·rw[a];exact hx
def amA(h:cm l=true):(bR l).length<=6:=by unfold bR;rw[aC h,v7];have a:=amu l;have d:=(qG h).1;omega
def aHo(H:HW h)(s:ByteArray):HW (gM h s):=by
 unfold gM;split
 ·rename_i o;have m:gW h s=true:=by unfold lO at o;simp only[aX]at o;exact o.1.1
  obtain⟨O,_,l,_⟩:=z7 m;have r:=V2 O (nK h s) (bR h.entries).length (bM _);have a:=amA O.qF;exact H.logged r.l l (by rw[r.e]) (by rw[r.e];exact H.er) r.n r.p (by have:=r.u;omega) (by rw[r.s];omega) (by simp[jm])
 ·exact H
def aHr(H:HW h)(s:ByteArray):HW (Al h s):=by
 unfold Al;split
 ·rename_i o;have m:gW h s=true:=by unfold zg at o;simp only[aX]at o;exact o.1
  obtain⟨O,_,l,_⟩:=z7 m;have f:=Nh (uz O) (fun x a=>(WA O x a).2) (kA (rz h.entries s) s) h.up.length (bM _);have n:=Jt h (kA (rz h.entries s) s) h.up.length;exact H.logged (g:=mV h s) rfl l rfl H.er n.1 f (by show(gy h _ _).2.length<=_;omega) (by show h.shut.length<=_;omega) (by simp[jm])
 ·exact H
def aFv(l:List ByteArray)(s:ByteArray):(kA l s).length<=l.length+1:=amU l s
def az4{g:Host}{s:ByteArray}(h:∀p∈g.parts,dC p=true)(a:∀x∈g.up,cO g x<g.parts.length):(mV g s).parts.length=g.parts.length/\(∀p∈(mV g s).parts,dC p=true)/\(mV g s).up.length<=g.up.length :=
 ⟨(Jt g _ _).1,Nh h a _ _ (bM _),(Jt g _ _).2⟩
def ayP(H:HW h)(s:ByteArray)(x:Call):HW (oI h s x).1:=by
 unfold oI;split
 ·exact H
 rename_i h1;split
 ·exact H
 simp only;split
 ·exact H
 have hm:gW h s=true:=by
  cases e:gW h s with
  |true=>rfl
  |false=>exact absurd (.inl e) h1
 obtain⟨hO,_,hl,hi⟩:=z7 hm;obtain⟨q,hq⟩:∃q,gJ (nth h.parts (cO h s)) x=q:=⟨_,rfl⟩;rw[hq];have hq1:dC q.1=true:=by rw[<-hq];exact(MS (uz hO _ (gK hi)) x).1
 have hg:=Wj (i:=cO h s) (uz hO) hq1;split
 ·obtain⟨f1,f2,f3⟩:=az4 (g:={h with parts:=h.parts.set (cO h s) q.1}) (s:=s) hg fun y hy=>by show(cV h.entries y).toNat<(h.parts.set (cO h s) q.1).length;rw[uX];exact(WA hO y hy).2
  refine H.logged (g:={mV {h with parts:=h.parts.set (cO h s) q.1} s with shut:=kA h.shut s}) rfl hl rfl H.er (by show(mV _ _).parts.length=_;rw[f1];simp) f2 (by show(mV _ _).up.length<=_;exact dK f3 (by simp)) (aFv _ _) (by simp)
 ·exact H.logged (g:={h with parts:=h.parts.set (cO h s) q.1}) rfl hl rfl H.er (by simp) hg (by simp) (by simp) (by simp)
def aBb(H:HW h)(s:ByteArray):HW (uw h s).1:=by
 unfold uw;split
 ·exact H
 rename_i a;split
 ·exact H
 simp only;have m:gW h s=true:=by simpa using a
 obtain⟨O,_,l,i⟩:=z7 m;refine H.logged (g:={h with parts:=_,shut:=_}) rfl l rfl H.er (by simp) (Wj (uz O) (V9 ?_ _)) (by simp) (dK (Rh _ _) (by simp)) (by simp[jm]);split
 ·exact(MS (uz O _ (gK i)) _).1
 ·refine(Vw ?_).1;exact(H.er _ (gK (by rw[<-O.len];exact i))).1
def aHw{s:ByteArray}(O:wJ h)(i:cO h s<h.parts.length)(a:jH r=true):dC (Kt h s r)=true:=by
 have d:dC (if cw (fR (nth (nth h.entries (cO h s)).recipe 0)) 2&&cw (fR (nth r 0)) 2 then {(dZ r).1 with core:={(dZ r).1.core with cells:=(nth h.parts (cO h s)).core.cells}} else(dZ r).1)=true:=by
  split
  ·rename_i o;simp only[aX]at o;exact aDt a (rY.1 (pQ.1 (uz O _ (gK i))).1).2.1 o.2
  ·exact(Vw a).1
 unfold Kt;simp only;split
 ·exact V9 d _
 ·exact d
def aHx(H:HW h)(s:ByteArray)(r:List ByteArray):HW (rE h s r):=by
 unfold rE;split
 ·rename_i o;have m:gW h s=true/\jH r=true:=by unfold rF at o;simp only[aX]at o;exact o.1.1.1
  obtain⟨O,_,l,i⟩:=z7 m.1;have a:=(adn m.2).1;refine H.logged (g:={h with entries:=B6 h s r,parts:=h.parts.set (cO h s) (Kt h s r)}) rfl l (by simp[B6]) (Wj H.er ⟨m.2,?_⟩) (by simp) (Wj (uz O) (aHw O i m.2)) (by simp) (by simp) (by simp only;omega);exact(H.er _ (gK (by rw[<-O.len];exact i))).2
 ·exact H
def aFs(H:HW h)(e:Event):HW (xE h e).1:=by
 unfold xE;split
 ·exact aHo H _
 split
 ·exact aHr H _
 split
 ·exact ayP H _ _
 split
 ·exact aBb H _
 ·exact aHx H _ _
def DC(l:List Entry)(ps:List Part):Host:=⟨l,ps,[],[],[]⟩
def GD(l:List Entry):Bool:=cm l&&decide ((pU l).length=0)
def partsOf(l:List Entry):List Part:=l.map fun e=>(dZ e.recipe).1
def Kb(l:List Entry):List Entry:=if GD l then l else []
def Kc(l:List Entry):List Part:=if GD l then partsOf l else []
def aFm{k:Nat}(h:k<l.length):(partsOf l).take (k+1)=(partsOf l).take k++[(dZ (nth l k).recipe).1]:=by rw[Mi];congr 1;simp[partsOf,nth,h]
def aym(l:List Entry)(d:l.length<=1048576)(i:∀e∈l,e.fit):dJ Tryz.prog 33 none [aj l] (.aU [enc (DC (Kb l) (Kc l)),.bool (GD l)]) [] [(0,5),(1,6),(2,1),(3,1),(4,7)]:=by
 refine gh aqp aJn ⟨mh l,trivial⟩ fun f=> ?_;unfold aqp;refine aF (I4 l) ?_;refine aF (aH.eB (Tq l)) ?_;apply ai<;>intro h<;>simp only[eS]at h
 ·have o:GD l=false:=by
   unfold GD;simp at h;rcases h with h|h
   ·simp[h]
   ·simp;intro _ a;rw[a]at h;simp at h
  refine ay ?_;simp only[eS];simp[Kb,Kc,o,DC,enc,aZ,aj]
 have o:GD l=true:=by unfold GD;simp at h;rw[h.1];simpa using h.2
 refine dU (ahN l d i) (hty:=mh _) ?_;refine cQ l.length (fun k=>[.int .i64 k,aj l,aj ((partsOf l).take k),aj ([]:List ByteArray),aj ([]:List ByteArray),aj ([]:List Event)]) (fun _=>True) (by simp only[eS];rfl) trivial ?_;intro k j _ _;simp only[cA];apply ai<;>intro a<;>simp only[eS]at a
 ·have a:k<l.length:=by simpa using a
  refine eu ?_;refine dU (Tn (nth l k).recipe) (hty:=⟨kH _,wC _,trivial⟩) ?_;refine aM (fun _=> ?_) ?_
  ·simp only[eS];simp[aj];omega
  refine cK a ?_ trivial;rw[aFm a];simp only[eS];rw[bC];simp[aj]
 ·obtain rfl:k=l.length:=by simp at a;omega
  have t:(partsOf l).take l.length=partsOf l:=A7 (by simp[partsOf]);rw[t];refine ay ?_;simp only[eS];simp[Kb,Kc,o,DC,enc,aZ,aj]
def ayJ(h:Host)(e:Event)(j:oz h)(hx:e.call.text.size<4294967281)(r:e.recipe.length<=1000):aH Tryz.prog 71 none [enc h,enc e] (.aU [enc (xE h e).1,.bool (xE h e).2]) []:=by
 refine cu arq aKj ⟨mN h,Cr e,trivial⟩ fun t=> ?_;unfold arq;apply ai<;>intro a<;>simp only[eS,rX]at a
 ·have a:e.kind=1:=by simpa using a
  refine aF (Tp h e.name j) (hty:=⟨mN _,trivial,trivial⟩) ?_;refine ay ?_;simp only[eS];unfold xE;rw[aC a]
 have a:e.kind≠1:=by simpa using a
 apply ai<;>intro d<;>simp only[eS,rX]at d
 ·have d:e.kind=2:=by simpa using d
  refine aF (ayv h e.name j) (hty:=⟨mN _,trivial,trivial⟩) ?_;refine ay ?_;simp only[eS];unfold xE;rw[aw a,aC d]
 have d:e.kind≠2:=by simpa using d
 apply ai<;>intro f<;>simp only[eS,rX]at f
 ·have f:e.kind=3:=by simpa using f
  refine aF (ayH h e.name e.call hx j) (hty:=⟨mN _,wC _,trivial,trivial⟩) ?_;refine ay ?_;simp only[eS];unfold xE;rw[aw a,aw d,aC f]
 have f:e.kind≠3:=by simpa using f
 apply ai<;>intro i<;>simp only[eS,rX]at i
 ·have i:e.kind=4:=by simpa using i
  refine aF (ayf h e.name j) (hty:=⟨mN _,wC _,trivial⟩) ?_;refine ay ?_;simp only[eS,Bc];unfold xE;rw[aw a,aw d,aw f,aC i];rfl
 have i:e.kind≠4:=by simpa using i
 refine aF (ayw h e.name e.recipe r j) (hty:=⟨mN _,trivial,trivial⟩) ?_;refine ay ?_;simp only[eS];unfold xE;rw[aw a,aw d,aw f,aw i]
def acS(r:cm l=true):HW (DC (Kb l) (Kc l)):=by
 unfold Kb Kc;split
 ·have m:=qG r;have h:∀e∈l,jH e.recipe=true/\e.needs.length<=3:=fun e h=>by obtain⟨i,n,rfl⟩:=Mg.1 h;have d:=m.2 i n;unfold mC at d;simp only[aX]at d;have a:=d.1;rw[show nth l i=l[i] by rw[nth,List.getD,bX n];rfl]at a;unfold mT at a;simp only[aX,du]at a;exact⟨a.1.1.1.1,a.1.2⟩
  refine⟨m.1,by show(partsOf l).length=l.length;simp[partsOf],h,fun p f=> ?_,fW _,fW _,fW _,fun e h=>(by cases h)⟩;obtain⟨e,j,rfl⟩:=fJ.1 (show p∈l.map fun e=>(dZ e.recipe).1 from f);exact(Vw (h e j).1).1
 ·exact⟨fW _,rfl,fun e h=>(by cases h),fun p f=>(by cases f),fW _,fW _,fW _,fun e h=>(by cases h)⟩
def Vk(o:List (List D))(r:D):Prop:=∃s:ByteArray,r=.str s/\[.str s]∈o
def Vk.ty{o:List (List D)}{r:D}(h:Vk o r):bG aJ.tab (.one (.c .str)) r:=by obtain⟨x,rfl,_⟩:=h;trivial
def ah9(o:List (List D))(n:ByteArray)(B:0<o.length)(l:[.str n]∈o)(q:o.all adR=true):Dr 47 [.sl o] (Vk o):=by
 have d:∀r∈o,∃s,r=[.str s]:=fun r a=>an6 (fH.1 q r a);have t:bG aJ.tab (.one (.c (.sl 9))) (.sl o):=by show dc _ (aJ.tab _) _;rw[Pq];exact sW fun r a=>by obtain⟨s,rfl⟩:=d r a;exact⟨trivial,trivial⟩
 refine lD Ek Wx (fun C h=>by exact⟨t,jl h⟩) (.str n) ⟨_,rfl,l⟩ fun f i u y F a p=> ?_;(simp only[cA]);unfold Ek;have G:(o.length:Int)<=9223372036854775807:=by simp[dI,Fits,maxLen]at y;omega
 (refine bY (mB o.length) (fun _ h=>jF.ty h) ?_ (hb:=by(simp only[gS,cG];try exact rfl)) (ha:=by(simp only[gS,cG];try exact rfl));rintro _ f i u ⟨x,rfl,z⟩ a p)
 refine aM (fun _=> ?_) ?_
 ·simp[E.den,cG];omega
 have A:=z.2 (by omega);have e:o[x.toNat]? =some o[x.toNat]:=bX (by omega);have m:=qj (show x.toNat<o.length by omega);obtain⟨s,j⟩:=d _ m;rw[j]at m;refine⟨⟨s,?_,m⟩,_,_,_,rfl,a,p⟩;simp[E.den,e,j]
def Vi(r:D):Prop:=∃l:List ByteArray,r=aj l/\l.length<=5/\jH l=true
def Vi.ty{r:D}(h:Vi r):bG aJ.tab (.one (.c (.sl 9))) r:=by obtain⟨l,rfl,_⟩:=h;exact jW l
def DZ:ByteArray:=⟨#[114,111,98,111,116]⟩
def azm:wI 45 [] Vi [(0,1)]:=by
 refine EO WE aoX (fun p h=>by exact jl h) (aj [DZ]) ⟨_,rfl,by simp,by kernel_rfl⟩ fun r i e q t a d=> ?_;(simp only[cA]);unfold WE;refine qo wM wM.lay (fun s=>s.k<=4/\dc aJ.tab [.int .u8] s.rows/\0<=s.i) (fun s=>4-s.k) ⟨0,r,i,e⟩ (fun s u h=>by simp[wM.lay]at h;omega) rfl ⟨by simp,a,d⟩ ?_;rintro⟨k,r,i,e⟩ ⟨n,a,d⟩ -;simp only at n a d;simp only[wM.lay,ia,iy];apply ai<;>intro h
 ·simp[E.den,bg]at h
  (refine zL (aid) (fun _ h=>DL.ty h) ?_;rintro _ r i e ⟨l,rfl,f⟩ a d)
  refine aF (Dj l) ?_;apply ai<;>intro j
  ·simp only[eS]at j;have o:jH l=true:=by simp at j;exact j.1
   exact⟨⟨l,rfl,f,o⟩,_,_,_,rfl,a,d⟩
  refine⟨⟨k+1,r,i,e⟩,?_,⟨by simp only;omega,a,d⟩,by simp only;omega⟩;simp[E.den,wM.lay];rw[bC]
 ·(apply vB;(focus (simp only[gS];try exact rfl));(focus (simp only[gS];try exact rfl));(focus (exact⟨_,_,_,rfl,by assumption,by assumption⟩));(focus (first|exact ah9 _ DZ (by decide) (List.mem_cons_self ..) rfl|exact Dr.eB (ah9 _ DZ (by decide) (List.mem_cons_self ..) rfl)));(focus (exact fun _ h=>Vk.ty h));rintro _ r i e ⟨s,rfl,m⟩ a d;(simp only[cA]))
  refine⟨⟨[s],rfl,by simp,?_⟩,_,_,_,rfl,a,d⟩;simp at m;rcases m with rfl|rfl|rfl<;>kernel_rfl
def isOk(n:ByteArray)(r:D):Prop:=∃e:Entry,r=enc e/\(e.recipe.length<=5/\e.needs.length<=3)/\(kX n=true->mT e=true/\e.name=n)
def isOk.ty{m:ByteArray}{r:D}(h:isOk m r):bG aJ.tab (.one (.agg [.str,.sl 9,.int .i64,.int .i64,.sl 98])) r:=by obtain⟨n,rfl,_⟩:=h;exact Ao n
def ok0(n:ByteArray):isOk n (enc (⟨n,[DZ],⟨1,0⟩,[]⟩:Entry)):=⟨_,rfl,by simp,fun h=>⟨by unfold mT;simp only[show jH [DZ]=true by kernel_rfl,h];rfl,rfl⟩⟩
def azk(p:ByteArray):wI 112 [.str p] (isOk p) [(1,1),(4,4)]:=by
 refine EO ard aJ9 (fun V h=>by exact⟨trivial,jl h⟩) (enc (⟨p,[DZ],⟨1,0⟩,[]⟩:Entry)) (ok0 p) fun r i o X Y d f=> ?_;(simp only[cA]);unfold ard
 (refine zL (azm) (fun _ h=>Vi.ty h) ?_;rintro _ r i o ⟨A,rfl,t,e⟩ d f)
 (refine bY (mB _) (fun _ h=>jF.ty h) ?_;rintro _ r i o ⟨y,rfl,J⟩ d f)
 have O:=J.2 (by omega);have P:=J.1
 (refine bY (ah8 [0,1,1,2,3] (by decide)) (fun _ h=>Ov.ty h) ?_;rintro _ r i o ⟨n,rfl,Q⟩ d f)
 have G:0<=n/\n<=3:=by simp at Q;omega
 refine qo CN CN.lay (fun s=>dc aJ.tab [.int .u8] s.rows/\0<=s.i/\0<=s.n/\(s.e.needs.length:Int)+s.n<=3/\s.e.recipe.length<=5/\s.e.name=p/\jH s.e.recipe=true/\s.e.jw.ok=true/\∀x∈s.e.needs,BZ x=true/\x.ko≠p) (fun s=>s.n.toNat) ⟨n,r,i,o,⟨p,A,⟨1,y⟩,[]⟩⟩ (fun s Z h=>by simp[CN.lay]at h;rw[h.1]) rfl ⟨d,f,G.1,by simp;omega,t,rfl,e,by simp[lQ.ok];omega,by simp⟩ ?_;rintro⟨m,r,i,o,⟨j,A,q,H⟩⟩ ⟨d,f,S,I,t,B,e,a,l⟩ -;simp only at d f S I t B e a l;subst B;simp only[CN.lay,ia,iy];apply ai<;>intro h
 ·simp[E.den,bg]at h
  (refine bY (azl) (fun _ h=>Vh.ty h) ?_;rintro _ r i o ⟨x,rfl⟩ d f)
  refine aF (ZX x) ?_;have C:dL .sub .i64 m 1=m-1:=mz;apply ai<;>intro F
  ·simp only[eS,zJ]at F;have F:BZ x=true/\x.ko≠j:=by simpa using F
   refine aM (fun _=> ?_) ?_
   ·simp[E.den];omega
   refine⟨⟨m-1,r,i,o,⟨j,A,q,H++[x]⟩⟩,?_,⟨d,f,by simp only;omega,by simp;omega,t,rfl,e,a,fun z u=> ?_⟩,by simp only;omega⟩
   ·simp[E.den,CN.lay,C,aj]
   ·rcases iJ.1 u with u|u
    ·exact l z u
    ·simp at u;subst u;exact F
  ·refine⟨⟨m-1,r,i,o,⟨j,A,q,H⟩⟩,?_,⟨d,f,by simp only;omega,by simp only;omega,t,rfl,e,a,l⟩,by simp only;omega⟩;simp[E.den,CN.lay,C]
 ·refine⟨⟨⟨j,A,q,H⟩,rfl,⟨t,by simp only;omega⟩,fun T=>⟨?_,rfl⟩⟩,_,_,_,rfl,d,f⟩;unfold mT;simp only[aX,du,jC];refine⟨⟨⟨⟨e,T⟩,a⟩,by omega⟩,fun k U=> ?_⟩;have:=l _ (gK U);unfold rp;simp[this.1,this.2]
def Ow(r:D):Prop:=∃l:List Entry,r=aj l/\cm l=true/\∀e∈l,e.recipe.length<=5/\e.needs.length<=3
def Ow.ty{r:D}(h:Ow r):bG aJ.tab (.one (.c (.sl 59))) r:=by obtain⟨n,rfl,_⟩:=h;exact mh n
def anZ:∀i,i<6->kX (nth xO i)=true/\(0<i->dz (nth xO (i-1)) (nth xO i)=true):=by
 intro i a
 match i,a with
 |0,_=>exact⟨by kernel_rfl,fun h=>absurd h (by omega)⟩
 |1,_=>exact⟨by kernel_rfl,fun _=>by kernel_rfl⟩
 |2,_=>exact⟨by kernel_rfl,fun _=>by kernel_rfl⟩
 |3,_=>exact⟨by kernel_rfl,fun _=>by kernel_rfl⟩
 |4,_=>exact⟨by kernel_rfl,fun _=>by kernel_rfl⟩
 |5,_=>exact⟨by kernel_rfl,fun _=>by kernel_rfl⟩
def aHh{k:Nat}(h:k<n):nth (xO.take n) k=nth xO k:=by unfold nth;simp only[jZ,qk,aC h]
def aEX{α:Type}[Inhabited α](l:List α)(x:α)(i:Nat):nth (l++[x]) i=if i=l.length then x else nth l i:=by
 unfold nth;simp only[jZ];rcases E8 i l.length with h|h|h
 ·rw[mP h,aw (by omega)]
 ·subst h;simp
 ·rw[aw (by omega),nI (by simp;omega),nI (by omega)]
def aHg(d:l.length<=6)(h:∀i,i<l.length->mT (nth l i)=true/\(nth l i).name=nth xO i):cm l=true:=by
 unfold cm;rw[aX,du,jC];refine⟨d,fun i a=> ?_⟩;unfold mC;rw[(h i a).1,(h i a).2,oC];rcases rU i with rfl|p
 ·rfl
 ·rw[(h (i-1) (by omega)).2,(anZ i (by omega)).2 p];simp
def azn:wI 70 [] Ow [(0,5)]:=by
 refine EO arj aKd (fun O h=>by exact jl h) (aj ([]:List Entry)) ⟨_,rfl,rfl,by simp⟩ fun r i q P Q o d=> ?_;(simp only[cA]);unfold arj
 (refine bY (mB _) (fun _ h=>jF.ty h) ?_;rintro _ r i q ⟨n,rfl,A⟩ o d)
 have B:=A.2 (by omega);obtain⟨n,rfl⟩:∃m:Nat,n=m:=⟨n.toNat,by omega⟩;have C:n<=6:=by omega
 have u:qn (.sl [[.str ⟨#[97]⟩],[.str ⟨#[98]⟩],[.str ⟨#[99]⟩],[.str ⟨#[100]⟩],[.str ⟨#[101]⟩],[.str ⟨#[102]⟩]]) 0 (n:Int)=aj (xO.take n):=by simp[qn,xO,aj,eO,E7]
 refine aM (fun _=> ?_) ?_
 ·simp[E.den,cG];omega
 refine qo EP EP.lay (fun s=>dc aJ.tab [.int .u8] s.rows/\0<=s.i/\s.k<=n/\s.l.length=s.k/\(∀e∈s.l,e.recipe.length<=5/\e.needs.length<=3)/\∀i,i<s.l.length->mT (nth s.l i)=true/\(nth s.l i).name=nth xO i) (fun s=>n-s.k) ⟨[],0,r,i,q⟩ (fun s S h=>by simp[EP.lay]at h;omega) rfl ⟨o,d,by simp,rfl,by simp,fun i d=>absurd d (by simp)⟩ ?_;rintro⟨l,k,r,i,q⟩ ⟨o,d,F,t,f,p⟩ -;simp only at o d F t f p;simp only[EP.lay,ia,iy];have a:(xO.take n).length=n:=by simp[xO];omega
 apply ai<;>intro h
 ·simp only[eS,iy,jA,qQ,u,a]at h;have y:k<n:=by simp at h;exact h
  refine aM (fun _=> ?_) ?_
  ·simp only[eS,iy,jA,qQ,u,a];simp;omega
  (refine zL (azk (nth (xO.take n) k)) (fun _ h=>isOk.ty h) ?_ (hb:=by(simp only[gS,iy,u,a,gZ,eO];try exact rfl)) (ha:=by(simp only[gS,iy,u,a,gZ,eO];try exact rfl));rintro _ r i q ⟨e,rfl,G,x⟩ o d)
  rw[aHh y]at x;have x:=x (anZ k (by omega)).1;refine aM (fun _=> ?_) ?_
  ·simp[E.den];omega
  refine⟨⟨l++[e],k+1,r,i,q⟩,?_,⟨o,d,by simp only;omega,by simp;omega,?_,?_⟩,by simp only;omega⟩
  ·simp[E.den,EP.lay,aj];rw[bC]
  ·intro H z;rcases iJ.1 z with h|h
   ·exact f H h
   ·simp at h;subst h;exact G
  ·intro j I;simp only[iZ,dR,oD]at I;rw[aEX];split
   ·rename_i J;rw[J,t];exact x
   ·exact p j (by omega)
 ·exact⟨⟨l,rfl,aHg (by omega) p,f⟩,_,_,_,rfl,o,d⟩
def OI(w:World)(a:Option Addr)(n:Nat):Nat:=match a with
 |none=>0
 |some p=>((List.range n).map fun k=>match w.cell? ⟨p.block,p.off+k*5+4,none⟩with|some (.slice _ m _)=>m|_=>0).sum
def aD3(e:Entry):(aB.cells e).length=5:=rfl
def adu(l:List Entry):∀r∈l.map aB.cells,r.length=5:=fun r h=>by obtain⟨e,_,rfl⟩:=fJ.1 h;rfl
def al7{b o len k:Nat}{s:Option Nat}(h:R w M (aj l) (.slice (some ⟨b,o,s⟩) len cap))(a:k<l.length) :
  ∃u,w.cell? ⟨b,o+k*5+4,none⟩=some u/\¬M ⟨b,o+k*5+4,none⟩/\R w M (aj (nth l k).needs) u :=
 Jw (adu l) h (i:=k) (j:=4) (get_map l a) rfl
def alV{len:Nat}(h:R w M (aj l) (.slice a len cap)):OI w a len=tot l:=by
 have j:=h;obtain⟨y,n,p,e,f,z,A,m,B⟩:=h;cases e;rw[di]at f;subst f;rcases a with _|⟨b,o,s⟩
 ·have:l=[]:=mO (by have:=m rfl;omega);subst this;rfl
 ·unfold OI tot;dsimp only;congr 1;apply List.ext_getElem
  ·simp
  ·intro k d q;have i:k<l.length:=by simpa using d
   obtain⟨u,r,_,t⟩:=al7 j i;obtain⟨C,F,x,rfl,q1,_⟩:=t;simp only[List.getElem_map,List.getElem_range,r];rw[q1,di];congr 2;simp[nth,jZ,i]
def OC{rows:List (List D)}(q:∀r∈rows,r.length=n)(l:∀r∈rows,∀d∈r,Gx d=true)(h:R w M (.sl rows) v)
  (F:∀p u,w.cell? p=some u->(∀a m c,u≠.slice a m c)->w'.cell? p=some u):R w' M (.sl rows) v:=by
 have G:=h;obtain⟨a,len,cap,rfl,t,x,y,z,H⟩:=h;rcases a with _|⟨b,o,s⟩
 ·have:rows=[]:=mO (by have:=z rfl;omega);subst this;exact⟨none,len,cap,rfl,t,x,y,z,fun b o s e=>by cases e⟩
 ·refine Jx q t x y (H b o s rfl).1 fun i j r d A B=> ?_;obtain⟨u,I,J,f⟩:=Jw q G A B;have C:=l r (jB A) d (jB B);refine⟨u,F _ _ I fun a m c e=> ?_,J,aD0 C f⟩;subst e;cases d<;>simp[Gx]at C
  ·cases (show Value.slice a m c=.bool _ from f)
  ·cases f.1
  ·cases f.1
def aD1{r:List D}(h:bD aJ.tab [.int .u8] r){d:D}(hd:d∈r):Gx d=true:=by
 match r,h with
 |[x],h=> simp at hd;subst hd;obtain⟨n,rfl⟩:=zS h.1;rfl
def aDs{d:Addr}{m c:Nat}(f:w.cell? d=some (.slice a m c)):∀p u,w.cell? p=some u->(∀a m c,u≠.slice a m c)->(w.setCell d v).cell? p=some u:=by
 intro p u h i;have s:=Tv f;rcases Tu (w:=w) (v:=v) (p:=p) (a:=d) (fun e=>by subst e;rw[f]at h;cases h;exact i _ _ _ rfl) s (.inr trivial)with j|⟨j,l⟩
 ·rw[j];exact h
 ·have n:=Tv h;have:p=d:=by cases p;cases d;simp_all
  subst this;rw[f]at h;cases h;exact absurd rfl (i _ _ _)
def alD(l:List ByteArray):∀r∈l.map aB.cells,∀d∈r,Gx d=true:=fun r a d h=>by obtain⟨x,_,rfl⟩:=fJ.1 a;simp[eO]at h;subst h;rfl
def alB(l:List mr):∀r∈l.map aB.cells,∀d∈r,Gx d=true:=fun r a d h=>by obtain⟨x,_,rfl⟩:=fJ.1 a;simp[zJ]at h;rcases h with rfl|rfl|rfl|rfl<;>rfl
def acJ(l:List ByteArray):∀r∈l.map aB.cells,r.length=1:=fun r h=>by obtain⟨x,_,rfl⟩:=fJ.1 h;rfl
def Vu(l:List mr):∀r∈l.map aB.cells,r.length=4:=fun r h=>by obtain⟨x,_,rfl⟩:=fJ.1 h;rfl
def aHX{b o len k:Nat}{s:Option Nat}{a2:Option Addr}{m c2:Nat}(h:R w M (aj l) (.slice (some ⟨b,o,s⟩) len cap))(hk:k<l.length)
  (J:w.cell? ⟨b,o+k*5+4,none⟩=some (.slice a2 m c2)) (hm:0<m):R (w.setCell ⟨b,o+k*5+4,none⟩ (.slice a2 (m-1) c2)) M (aj (tG l k)) (.slice (some ⟨b,o,s⟩) len cap):=by
 have q:=h;obtain⟨a,T,U,e,t,x,y,f,z⟩:=h;cases e;have f:∀p u,w.cell? p=some u->(∀a m c,u≠.slice a m c)->(w.setCell ⟨b,o+k*5+4,none⟩ (.slice a2 (m-1) c2)).cell? p=some u:=by
  intro p u C V;rcases Tu (w:=w) (v:=.slice a2 (m-1) c2) (p:=p) (a:=⟨b,o+k*5+4,none⟩) (fun e=>by subst e;rw[J]at C;cases C;exact V _ _ _ rfl) rfl (.inr trivial)with F|⟨F,O⟩
  ·rw[F];exact C
  ·have j:=Tv C;have:p=⟨b,o+k*5+4,none⟩:=by cases p;simp_all
   subst this;rw[J]at C;cases C;exact absurd rfl (V _ _ _)
 show R _ M (.sl ((tG l k).map aB.cells)) _;refine Jx (adu _) (by rw[di,Ws];simpa using t) x y (z b o s rfl).1 fun i j r d P n=> ?_;have G:i<l.length:=by have:=(dh.1 P).1;rw[di,Ws]at this;exact this
 rw[get_map _ (by rw[Ws];exact G)]at P;cases P;have t:=fun X p (Q:(aB.cells (nth l i))[X]? =some p)=>Jw (adu l) q (i:=i) (j:=X) (get_map l G) Q;rw[acU hk]at n;by_cases z:i=k
 ·subst z;rw[aC rfl]at n
  match j,n with
  |0,n=>obtain⟨u,y,q,x⟩:=t 0 _ rfl;cases n;exact⟨u,f _ _ y (fun a m c e=>by subst e;cases x.1),q,x⟩
  |1,n=>
   obtain⟨u,y,q,x⟩:=t 1 _ rfl;cases n;have A:=OC (acJ _) (alD _) x f;refine⟨u,?_,q,A⟩;rcases Tu (w:=w) (v:=.slice a2 (m-1) c2) (p:=⟨b,o+i*5+1,none⟩) (a:=⟨b,o+i*5+4,none⟩) (fun e=>by simp at e) rfl (.inr trivial)with F|⟨_,O⟩
   ·rw[F];exact y
   ·simp at O
  |2,n=>obtain⟨u,y,q,x⟩:=t 2 _ rfl;cases n;exact⟨u,f _ _ y (fun a m c e=>by subst e;cases x.1),q,x⟩
  |3,n=>obtain⟨u,y,q,x⟩:=t 3 _ rfl;cases n;exact⟨u,f _ _ y (fun a m c e=>by subst e;cases x.1),q,x⟩
  |4,n=>
   obtain⟨u,y,q,x⟩:=t 4 _ rfl;cases n;rw[J]at y;cases y;refine⟨_,ayW J,q,?_⟩;have A:=OC (Vu _) (alB _) x f;obtain⟨B,C,p,r,q1,q2,q3,q4,q5⟩:=A;cases r;rw[di]at q1;refine⟨a2,m-1,c2,rfl,?_,by omega,q3,q4,fun Y Z p r=>⟨fun h=>(q5 Y Z p r).1 (by omega),?_⟩⟩
   ·show m-1=((nth l i).needs.dropLast.map aB.cells).length;rw[di,Iy];omega
   ·have A:=(q5 Y Z p r).2;refine AZ (n:=4) (Vu _) fun p r H=>A.get (Vu _) ?_;have S:=(dh.1 H).1;rw[di]at S;have r:p<(nth l i).needs.length-1:=by have:(Eh (nth l i)).needs.length=(nth l i).needs.length-1:=Iy;omega
    rw[<-H,iw,iw];show _=Option.map _ ((nth l i).needs.dropLast[p]?);rw[List.getElem?_dropLast,aC r]
 ·rw[aw z]at n;obtain⟨u,y,q,x⟩:=t j d n;have I:∀j,j<5->o+i*5+j≠o+k*5+4:=fun j B e=>z (by omega);have B:j<5:=by have:=(dh.1 n).1;simpa[aD3]using this
  refine⟨u,?_,q,?_⟩
  ·rcases Tu (w:=w) (v:=.slice a2 (m-1) c2) (p:=⟨b,o+i*5+j,none⟩) (a:=⟨b,o+k*5+4,none⟩) (fun e=>I j B (congrArg Addr.off e)) rfl (.inr trivial)with F|⟨_,O⟩
   ·rw[F];exact y
   ·exact absurd O (I j B)
  ·match j,n with
   |0,n=>cases n;exact x
   |1,n=>cases n;exact OC (acJ _) (alD _) x f
   |2,n=>cases n;exact x
   |3,n=>cases n;exact x
   |4,n=>cases n;exact OC (Vu _) (alB _) x f
structure zy(w:World)(M:Addr->Prop)(g:Nat)(cs:List D)(R0:List Entry)(a:Option Addr)(len cap:Nat)(wr:World)(l:List Entry):Prop where
 fr:Fr w.heap.size (some g) w wr
 bx:∃us T,wr.heap[g]? =some (.cells us.toArray T (0,0))/\Rs wr M cs us
 rd:R wr M (aj l) (.slice a len cap)
 qF:cm l=true
 rr:wB (tot l) l=R0
 live:∀b o s,a=some ⟨b,o,s⟩->0<cap->s=none/\w.heap.size<=b/\∃cells T,wr.heap[b]? =some (.cells cells T (0,0))/\o+cap*5<=cells.size
def zy.below{g:Nat}{j:List Entry}{len:Nat}{wr:World}(h:zy w M g cs j a len cap wr l)(hb:Below wr.heap.size wr w'):zy w M g cs j a len cap w' l:=by
 have p:bQ wr M w' M:=bQ.below hb fun _ _ h=>h;refine⟨h.fr.trans (zt hb h.fr.size),?_,R.keep p _ _ h.rd,h.qF,h.rr,fun b o s e n=> ?_⟩
 ·obtain⟨u,T,d,f⟩:=h.bx;have q:g<wr.heap.size:=(rS.1 d).1;exact⟨u,T,by rw[hb.block g q];exact d,Rs.keep p _ _ f⟩
 ·obtain⟨d,f,cells,T,m,r⟩:=h.live b o s e n;have i:b<wr.heap.size:=(rS.1 m).1;exact⟨d,f,cells,T,by rw[hb.block b i];exact m,r⟩
def zy.cM{g:Nat}{d:List Entry}{len:Nat}{wr:World}(h:zy w M g cs d a len cap wr l)(G:ek w M)(hg:NG<=g):ek wr M :=
 ⟨fun p f=>dS (G.1 p f) h.fr.size,G.2.1.keep fun k i=>h.fr.block k (dS i G.2.2) (fun e=>by cases e;omega),dK G.2.2 h.fr.size⟩
set_option maxHeartbeats 1000000 in
def azp:Dr 34 [] Ow:=by
 intro cs hc;obtain⟨r0,i,⟨B,rfl,O,xp⟩,P,hF⟩:=azn cs hc;have n:=aom (l:=B) (n:=tot B) O xp;refine⟨aj (wB (tot B) B),i,⟨_,rfl,n.1,n.2⟩,P,by kernel_rfl,fun w M g vs hG hvs hbx=> ?_⟩;obtain rfl:vs=[]:=hvs;obtain⟨us,T,hb,jq,q9,hMg⟩:=hbx cs rfl;have hgl:g<w.heap.size:=(rS.1 hb).1;have hM:=hG.1;have hC:=hF.2 w M g [] hG rfl hbx;show Calls Tryz.prog 34 #[.pointer (some ⟨g,0,none⟩)] w _;generalize hR0:wB (tot B) B=R0;have HC:=wR hC;go_enter Tryz.func34,Tryz.ntmps34;go_wp2_with fail;refine HC.out.mono ?_;rintro e w1 ⟨v1,rfl,hr1,hf1,Q,S⟩;obtain⟨us1,T1,hb1,U⟩:=S rfl;have aBF:∀p,M p->M p\/rR v1 [(0,5)] p:=fun p hp=>.inl hp;have q:R w1 M (aj B) v1:=R.less hr1 aBF;have u:Rs w1 M i us1:=Rs.keep (fun p v hp hn=>⟨hp,fun hm=>hn (.inl hm)⟩) _ _ U;have hlv:=Q.1 (0,5) (by simp);obtain⟨a,len,cap,hv1, -⟩:=(show R w1 M (.sl (B.map aB.cells)) v1 from q);subst hv1;have hI0:zy w M g i R0 a len cap w1 B:=⟨hf1,⟨us1,T1,hb1,u⟩,q,O,hR0,fun b o s e hc=>hlv b o s len cap (by rw[e];rfl) hc⟩;have HI0:=wR hI0;clear hI0 hr1 q U u hlv Q S hb1 hf1;go_wp2;go_loopw [4] (fun kk wr=>∃l,zy w M g i R0 a len cap wr l) (fun kk wr=>OI wr a len)
 case atStart=>exact⟨B,HI0.out⟩
 case round=>
  obtain⟨l,hI⟩:=hrel;have HI:=wR hI;have H:=wR (show l.length=len by obtain⟨a',V,X,e,h1,_⟩:=hI.rd;cases e;rw[h1,di])
  have hS:∀t:World,zy w M g i R0 a len cap t l->Calls Tryz.prog 68 #[.slice a len cap] t fun e w'=>∃v,e=.returned v/\R w' M (aj (pU l)) v/\Below t.heap.size t w' :=
   fun t h=>aH.calls (.eB (Tq l)) (vs:=[.slice a len cap]) (h.cM hG q9) ⟨_,[],rfl,h.rd,rfl⟩
  have HS:=wR hS;clear hS hI;go_wp2_with fail;refine(HS.out _ HI.out).mono ?_;rintro e w2 ⟨v2,rfl,hr2,hf2⟩;have HI2:=wR (HI.out.below hf2);obtain⟨a2,Y,cap2,rfl,x,h22,h23,h24,M6⟩:=(show R w2 M (.sl ((pU l).map aB.cells)) v2 from hr2);rw[di]at x;cases C:pU l with
  |nil=>
   rw[C]at x;obtain rfl:Y=0:=x;have HE:=wR C;clear hr2 M6 h22 h23 h24 C hf2;go_wp2;go_ret;have G:=HI2.out;have e1:l=R0:=by rw[<-G.rr,aHV HE.out]
   subst e1;obtain⟨us2,T2,q1,q2⟩:=G.bx;exact⟨_,rfl,G.rd,G.fr,fun _=>⟨us2,T2,q1,q2⟩⟩
  |cons s r=>
   obtain⟨k,m,hki,hkn⟩:=an7 HI.out.qF C;rw[C]at x;have aL4:(0:Int)<(Y:Int):=by simp at x;omega
   clear hr2 M6;go_wp2_with fail;refine(HS.out _ HI2.out).mono ?_;rintro e w3 ⟨v3,rfl,J,hf3⟩;have HI3:=wR (HI2.out.below hf3);obtain⟨a3,aD2,aLz,hv3,JK,_,_,h34,P1⟩:=(show R w3 M (.sl ((pU l).map aB.cells)) v3 from J);subst hv3;rw[di,C]at JK;have aL5:(0:Int)<(aD2:Int):=by simp at JK;omega
   obtain⟨b3,o3,s3,rfl⟩:∃b3 o3 s3,a3=some ⟨b3,o3,s3⟩:=by
    rcases a3 with _|⟨b3,o3,s3⟩
    ·have:=h34 rfl;simp at JK;omega
    ·exact⟨b3,o3,s3,rfl⟩
   have hs3:=(P1 b3 o3 s3 rfl).1 (by omega);subst hs3;rw[C]at J;obtain⟨u3,c31,_,ZH⟩:=Jw (acJ _) J (i:=0) (j:=0) (r:=[.str s]) rfl rfl;have hu3:u3=.string s:=ZH.1;subst hu3;have hsz:=ZH.2;simp only[Nat.zero_mul,rT]at c31;clear J P1 ZH;have hF4:∀t:World,zy w M g i R0 a len cap t l->Calls Tryz.prog 40 #[.slice a len cap,.string s] t fun e w'=>∃v,e=.returned v/\R w' M (.int .i64 (cV l s)) v/\Below t.heap.size t w' :=
    fun t h=>aH.calls (qR l s) (vs:=[.slice a len cap,.string s]) (h.cM hG q9) ⟨_,_,rfl,h.rd,_,[],rfl,⟨rfl,hsz⟩,rfl⟩
   have HF4:=wR hF4;clear hF4;go_wp2_with fail;refine(HF4.out _ HI3.out).mono ?_;rintro e F ⟨v4,rfl,hr4,hf4⟩;have hv4:v4=.int .i64 (k:Int):=by rw[<-hki];exact hr4.1
   subst hv4;have I:=HI3.out.below hf4;obtain⟨b,o,sp,rfl⟩:∃b o sp,a=some ⟨b,o,sp⟩:=by
    rcases a with _|⟨b,o,sp⟩
    ·obtain⟨a',V,X,e,h1,h2,h3,h4,_⟩:=I.rd;cases e;have:=h4 rfl;have:=H.out;omega
    ·exact⟨b,o,sp,rfl⟩
   obtain⟨u5,c51,c52,c53⟩:=al7 I.rd m;obtain⟨a5,aML,f,rfl,UD,aBB,_⟩:=c53;rw[di]at UD;subst UD;have hcap:0<cap:=by obtain⟨a',V,X,e,h1,h2,h3,h4,_⟩:=I.rd;cases e;have:=H.out;omega
   obtain⟨hsp,hwb,cells,TT,hbl,z⟩:=I.live b o sp rfl hcap;subst hsp;have aBg:F.frozen? ⟨b,o+k*5+4,none⟩=false:=by unfold World.frozen?;rw[hbl];simp
   have hi0:(0:Int)<=(k:Int):=by omega
   have hi1:(k:Int)<(len:Int):=by have:=H.out;omega
   have N8:(0:Int)<((nth l k).needs.length:Int):=by omega
   have hn5:((nth l k).needs.length:Int)<=3:=by have:=O7 I.qF m;omega
   obtain⟨y,lM⟩:∃y,(nth l k).needs.length-1=y:=⟨_,rfl⟩;have hw1:IntKind.i64.wrap (((nth l k).needs.length:Int)-1)=(y:Int):=by rw[wrap_i64 (by omega) (by omega)];omega
   have aLO:(0:Int)<=(y:Int):=by omega
   have Dz:(y:Int)<=(f:Int):=by omega
   have aLP:¬((y:Int)<0):=by omega
   have aLQ:¬((f:Int)<(y:Int)):=by omega
   have j:=I.below ((dQ _ F).drew);have Z:F.drew.cell? ⟨b,o+k*5+4,none⟩=some (.slice a5 (nth l k).needs.length f):=c51;have aLV:F.drew.frozen? ⟨b,o+k*5+4,none⟩=false:=aBg;have ajK:F.drew.heap[b]? =some (.cells cells TT (0,0)):=hbl;have A:=aHX j.rd m Z (by omega);rw[lM]at A;have ke:zy w M g i R0 (some ⟨b,o,none⟩) len cap (F.drew.setCell ⟨b,o+k*5+4,none⟩ (.slice a5 y f)) (tG l k):=by
    have mI:bU F.drew (F.drew.setCell ⟨b,o+k*5+4,none⟩ (.slice a5 y f)) b:=(bU.refl F.drew b).set _ _;refine⟨j.fr.trans (Ih mI (.inl hwb)),?_,A,aoo j.qF m,(aHW j.qF C hki m hkn).symm.trans j.rr,fun b' o' s' e _=> ?_⟩
    ·obtain⟨us4,T4,q1,q2⟩:=j.bx;obtain⟨rows,ci,ch,rfl,eY,_⟩:=P;obtain⟨v0,r0,rfl,q3,q4⟩:=q2;refine⟨_,T4,by rw[mI.block g (by omega)];exact q1,v0,r0,rfl,?_,q4⟩;exact OC (n:=1) (fun r hr=>(eY.mem r hr).length) (fun r hr d hd=>aD1 (eY.mem r hr) hd) q3 (aDs Z)
    ·cases e;refine⟨rfl,hwb,cells.setIfInBounds (o+k*5+4) (.slice a5 y f),TT,?_,by simpa using z⟩;unfold World.setCell;simp[Iu,ajK]
   have hmu:OI (F.drew.setCell ⟨b,o+k*5+4,none⟩ (.slice a5 y f)) (some ⟨b,o,none⟩) len<OI wr (some ⟨b,o,none⟩) len:=by rw[alV ke.rd,alV HI.out.rd];have:=aol m hkn;omega
   have HIn:=wR ke;have HMu:=wR hmu;have HS5:=wR C;clear I j ke A hmu hbl ajK z C aBB lM;go_wp2
   (refine aFX 15 (by kernel_rfl) (by kernel_rfl) ?_;simp only[Rp,Rt,List.drop_succ_cons,Iw];(repeat still_step));refine wpStill_nil ?_
   go_wp2;exact⟨⟨tG l k,HIn.out⟩,HMu.out⟩
end
end Go.Proofs.YtoomhbopolalnabGreatDoor
