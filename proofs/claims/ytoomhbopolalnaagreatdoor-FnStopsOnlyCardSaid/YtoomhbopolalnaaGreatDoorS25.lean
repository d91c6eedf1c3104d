/- Walk: a part of a host is swapped (the reference's SwapPart). -/
import Derived.Test.YtoomhbopolalnaaGreatDoorS24
set_option linter.all false
set_option maxRecDepth 100000
namespace Go.Proofs.YtoomhbopolalnaaGreatDoor
variable {M:Addr->Prop}{h:Host}{r:List ByteArray}{l:List Entry}{v:Value}
section
open Go.RowKit Go
variable [GC]
def axU(l a:List ik):aG az 143 none [ak l,ak a] (.bool (decide (l=a))) []:=by
 refine bZ aqA aJL ⟨Ai l,Ai a,trivial⟩ fun f=> ?_;have q:l.length<=9223372036854775807:=kF f.1;unfold aqA;apply aj<;>intro h
 ·simp[E.den,bg]at h;refine ay ?_;have:l≠a:=fun e=>h (by rw[e]);simp[E.den,this]
 simp[E.den,bg]at h;have h:l.length=a.length:=by omega
 refine cU l.length (fun k=>[.int .i64 k]) (fun k=>∀i,i<k->nth l i=nth a i) rfl (by omega) ?_;intro k r I _;simp only[cA];apply aj<;>intro j
 ·simp[E.den,bg]at j;refine aQ (fun n=> ?_) (aQ (fun n=> ?_) ?_)
  ·simp[E.den];omega
  ·simp[E.den];omega
  apply aj<;>intro d
  ·refine ay ?_;have:l≠a:=fun e=>by subst e;simp only[eS,xH,vF,gX]at d;simp[kU,Dl]at d
   simp[E.den,this]
  refine cJ j ?_ fun i s=> ?_
  ·simp[E.den];rw[bF]
  rcases dO i k with m|m
  ·exact I i m
  ·obtain rfl:i=k:=by omega
   simp only[eS,xH,vF,gX]at d;simp[kU,Dl]at d;cases o:nth l i;cases p:nth a i;rw[o,p]at d;obtain⟨q1,q2,q3⟩:=d;simp only[ik.mk.injEq];exact⟨toList_inj q1,toList_inj q2,q3⟩
 ·simp[E.den,bg]at j;obtain rfl:k=l.length:=by omega
  exact ay (by simp[E.den,Jz h I])
def amh{l:List ByteArray}(h:jq l=true):0<l.length:=by
 unfold jq dX at h;split at h
 ·simp[rep]at h
 ·rename_i a;exact Nat.pos_of_ne_zero fun e=>a (.inl e)
def aku:(az.info? 48).map (·.size)=some 5:=by kernel_rfl
def LI:Array Value:=#[.string ⟨#[]⟩,.bool false,.bool false,aN,.int .i64 0]
def aCb:(az.info? 48).bind (·.zero)=some (.agg LI):=by kernel_rfl
def aio:mC az 48 3=some 3:=by kernel_rfl
def My(arg:Array Value):List (Nat×TypeId×Array Value):=[(0,29,arg),(1,29,#[aN,aN,aN,aN,aN])]
section
variable {L:Nat}{bx:List (Nat×TypeId×Array Value)}{M:Addr->Prop}{N N':Nat->Prop}{w W:World}{b6:Nat}{g:Host}{ve vp vu vs vl:Value}{k:Int}{b:Bool}{v:Value}{c:Core}
def SB.less(S:SB L bx M N w W b6 g ve vp vu vs vl)(h1:∀x,N' x->N x)(h2:∀x,KV vp vl x->N' x)(h:∀k,k<L->N' (w.heap.size+k))(a:N' b6):SB L bx M N' w W b6 g ve vp vu vs vl :=
 {S with H:=S.H.less h1 h2,U:=R.less S.U fun q d=>d.imp id (h1 _),nb:=h,n6:=a,nw:=fun x e=>S.nw x (h1 x e)}
def abN(h:R W M (.aU [.int .i64 k,.bool b]) v):v=.tuple #[.int .i64 k,.bool b]:=by obtain⟨t,rfl,a,r0,e,⟨rfl,d⟩,f,r1,rfl,rfl,rfl⟩:=h;rw[show t=#[_,_]from by rw[<-iT,e]]
def ayh(h:R W M (enc c) v):∃S1,v=.agg #[.string c.kind,.bool c.on,.bool c.broken,S1,.int .i64 c.count]/\R W M (ak c.cells) S1:=by
 obtain⟨s,rfl,v0,r0,e,⟨rfl,f⟩,v1,r1,rfl,rfl,i,r2,rfl,rfl,a,r3,rfl,d,v4,r4,rfl,⟨rfl,j⟩,rfl⟩:=h;have:s=#[.string c.kind,.bool c.on,.bool c.broken,a,.int .i64 c.count]:=by rw[<-iT,e]
 exact⟨a,by rw[this],d⟩
def aDq{n:Nat}:bg .gtr ((n:Nat):Int) 0= !decide (n=0):=by cases n<;>simp[bg]<;>omega
end
def awL(s:ByteArray)(a:Option Addr)(n c:Nat):um az 33 [(0,.int .i64 5),(1,.string s),(3,.slice a n c)]=some #[.int .i64 5,.string s,.string ⟨#[]⟩,.string ⟨#[]⟩,.int .i64 0,.string ⟨#[]⟩,.slice a n c]:=by kernel_rfl
def azk{W:World}{s:ByteArray}(h:s.size<=maxLen)(a:R W M (ak r) v):Rs W M (aB.cells (⟨5,s,nV,r⟩:Event)) [.int .i64 5,.string s,.string ⟨#[]⟩,.string ⟨#[]⟩,.int .i64 0,.string ⟨#[]⟩,v]:=by
 have e:(⟨#[]⟩:ByteArray).size<=maxLen:=by decide
 have i:IntKind.i64.min<=(0:Int)/\(0:Int)<=IntKind.i64.max:=by decide
 have d:IntKind.i64.min<=(5:Int)/\(5:Int)<=IntKind.i64.max:=by decide
 exact⟨_,_,rfl,⟨rfl,d⟩,_,_,rfl,⟨rfl,h⟩,_,_,rfl,⟨rfl,e⟩,_,_,rfl,⟨rfl,e⟩,_,_,rfl,⟨rfl,i⟩,_,_,rfl,⟨rfl,e⟩,_,_,rfl,a,rfl⟩
set_option maxHeartbeats 8000000 in
def aKh{w:World}{s:ByteArray}{rv:Value}(U:dZ w M)(hv:R w M (enc h) v)(hs:s.size<=maxLen)(hr:R w M (ak r) rv)(hrl:r.length<=1000)(hh:ny h) :
  Calls az 109 #[v,.string s,rv] w fun e w'=>∃r',e=.returned r'/\R w' M (.aU [enc (rD h s r),.bool (rE h s r)]) r'/\Below w.heap.size w w':=by
 obtain⟨ae,ap,au,G,al,rfl,pE,hap,tu,has,hal⟩:=Gl hv;obtain⟨ra,F,wA,_,hrel⟩:=mQ (mI (n:=1) (fun _=>rfl) r) hr;rw[dq]at wA;subst wA;refine oz (E:=[(0,.agg (aC ae ap au G al)),(1,.string s),(2,.slice ra r.length F)]) Tryz.func109 rfl Tryz.ntmps109 (by simp) (by simp) ?_;refine aO ?_;refine CV B0.nil fun _ B=> ?_;refine CU B oM fun w1 B=> ?_;refine ah bO ?_;refine bq ?_;refine bA (E':=[(1,.string s),(2,.slice ra r.length F),(3,PH w.heap.size),(6,PH (w.heap.size+1))]) ?_;refine aO ?_;refine ah (bG cX B.q0 bI) ?_;refine dE (XM B U hv hh) ?_;rintro _ p ⟨ve,vp,vu,vs,vl,rfl,one,mk⟩;refine⟨_,rfl,?_⟩;refine ah (eV rfl oM) ?_;refine bW rfl (cs:=aC ve vp vu vs vl) rfl (xG p) one bI fun w3 q6 ma=> ?_;obtain⟨N,S⟩:=mk w3 q6 ma;have S3:SB 2 (My (aC ae ap au G al)) M N w w3 p.heap.size h ve vp vu vs vl:=S;clear mk one q6 ma S B;refine bq ?_;refine bA (E':=[(1,.string s),(2,.slice ra r.length F),(3,PH w.heap.size),(6,PH (w.heap.size+1)),(8,PH p.heap.size)]) ?_;refine aO ?_;refine ah aI ?_;refine dE (aG.calls (Dg r) S3.H.cF (vs:=[.slice ra r.length F]) ⟨_,[],rfl,S3.kp hr,rfl⟩) ?_;rintro _ w4 ⟨vq,rfl,H,hb4⟩;obtain rfl:=abN H;refine⟨_,rfl,?_⟩;have S4:=S3.below hb4;clear S3 hb4 H;refine ah aI ?_;refine ah eA ?_;refine ah eA ?_;refine ah bO ?_;refine ah bO ?_;refine bq ?_;refine bA (E':=[(1,.string s),(2,.slice ra r.length F),(3,PH w.heap.size),(6,PH (w.heap.size+1)),(8,PH p.heap.size),(10,.bool (jq r))]) ?_;refine CW.seq (aO ?_);refine ah (bG cX S4.b0 bI) ?_;refine ah aI ?_;refine dE (S4.ask (MI h s hh) ⟨_,_,rfl,S4.kp hv,_,[],rfl,⟨rfl,hs⟩,rfl⟩) ?_;rintro _ w5 ⟨rfl,S5⟩;refine⟨_,rfl,?_⟩;clear S4;refine ah rp ?_;refine ah aI ?_;rcases hm:gV h s with _|_
 ·refine fL (b:=true) ?_;refine fL (b:=true) ?_;refine ah (ru rfl rfl rfl) ?_;refine ah aI ?_;refine fL (b:=true) ?_;refine fL (b:=true) ?_;refine fL (b:=true) ?_;refine fL (b:=true) ?_;refine ah (ru rfl rfl rfl) ?_;refine WL.nil (aM (eG ?_));refine aO ?_;refine ah (bG cX S5.q6 bI) ?_;refine bW rfl (cs:=aC ve vp vu vs vl) rfl S5.b1 S5.one bI fun wz z4 oa=> ?_;refine ah bO ?_;obtain⟨hR,y,_⟩:=S5.ans U (by decide) oa;have I:rE h s r=false:=by unfold rE;rw[hm];simp
  refine WL.nil (aM (CW.ret (NX.ret (rL rfl rfl rfl z4 cX rfl bI ⟨_,rfl,?_,y⟩))));have hd:rD h s r=h:=by unfold rD;rw[aw (by rw[I];decide)]
  rw[hd,I];exact⟨_,rfl,_,_,rfl,hR,_,_,rfl,rfl,rfl⟩
 refine iL (b:=false) aI ?_;refine iL (b:=false) rp ?_;refine ah (sD rfl rfl rfl) ?_;refine ah aI ?_;rcases hok:jq r with _|_
 ·refine fL (b:=true) ?_;refine fL (b:=true) ?_;refine fL (b:=true) ?_;refine fL (b:=true) ?_;refine ah (ru rfl rfl rfl) ?_;refine WL.nil (aM (eG ?_));refine aO ?_;refine ah (bG cX S5.q6 bI) ?_;refine bW rfl (cs:=aC ve vp vu vs vl) rfl S5.b1 S5.one bI fun wz z4 oa=> ?_;refine ah bO ?_;obtain⟨hR,y,_⟩:=S5.ans U (by decide) oa;have I:rE h s r=false:=by unfold rE;rw[hok];simp
  refine WL.nil (aM (CW.ret (NX.ret (rL rfl rfl rfl z4 cX rfl bI ⟨_,rfl,?_,y⟩))));have hd:rD h s r=h:=by unfold rD;rw[aw (by rw[I];decide)]
  rw[hd,I];exact⟨_,rfl,_,_,rfl,hR,_,_,rfl,rfl,rfl⟩
 refine iL (b:=false) (br Ds) ?_;refine iL (b:=false) (bB fz (v:=G) ((S5.b0.cell 3).trans rfl)) ?_;refine iL (b:=false) aI ?_;refine CX (b:=false) (S5.ask (nE h.shut s) ⟨_,_,rfl,S5.kp has,_,[],rfl,⟨rfl,hs⟩,rfl⟩) ?_;rintro _ w6 ⟨rfl,S6⟩;refine⟨_,rfl,?_⟩;clear S5;refine ah (sD rfl rfl rfl) ?_;refine bq ?_;rcases hsh:hasB h.shut s with _|_
 rotate_left
 ·refine eG ?_;refine aO ?_;refine ah (bG cX S6.q6 bI) ?_;refine bW rfl (cs:=aC ve vp vu vs vl) rfl S6.b1 S6.one bI fun wz z4 oa=> ?_;refine ah bO ?_;obtain⟨hR,y,_⟩:=S6.ans U (by decide) oa;have I:rE h s r=false:=by unfold rE;rw[hsh];simp
  refine WL.nil (aM (CW.ret (NX.ret (rL rfl rfl rfl z4 cX rfl bI ⟨_,rfl,?_,y⟩))));have hd:rD h s r=h:=by unfold rD;rw[aw (by rw[I];decide)]
  rw[hd,I];exact⟨_,rfl,_,_,rfl,hR,_,_,rfl,rfl,rfl⟩
 refine CW.no (CW.skip (aM ?_));refine bA (E':=[(1,.string s),(2,.slice ra r.length F),(3,PH w.heap.size),(6,PH (w.heap.size+1)),(8,PH p.heap.size)]) ?_;have hO:uS h:=DC.1 (by unfold gV at hm;simp only[aY]at hm;exact hm.1.1);have Bu:h.log.length<24:=by unfold gV at hm;simp only[aY,dr]at hm;exact hm.2
 have hfs:0<=cN h.entries s:=by unfold gV at hm;simp only[aY,qH,qK]at hm;have:=hm.1.2;omega
 have uA:cN h.entries s=((cD h s:Nat):Int):=(IA hfs).symm;have hi:cD h s<h.parts.length:=by obtain⟨i,h1,h2,_⟩:=vK hfs;unfold cD;rw[h1,hO.len];simpa using h2
 have tC:=tA hO _ (gF hi);have vR:=B6 tC;obtain⟨i,hid⟩:∃i,cD h s=i:=⟨_,rfl⟩;rw[hid]at uA hi vR tC;have hie:i<h.entries.length:=by rw[<-hO.len];exact hi
 refine aO ?_;refine ah (br rY) ?_;refine ah (bB pj (v:=ae) ((S6.b0.cell 0).trans rfl)) ?_;refine ah aI ?_;refine dE (aG.calls (qM h.entries s) S6.H.cF (vs:=[ae,.string s]) ⟨_,_,rfl,S6.kp pE,_,[],rfl,⟨rfl,hs⟩,rfl⟩) ?_;rintro _ w7 ⟨_,rfl,hfi,jm⟩;obtain⟨rfl, -⟩:=hfi;rw[uA];refine⟨_,rfl,?_⟩;have S7:=S6.below jm;clear S6 jm;refine ah bO ?_;refine bq ?_;refine aO ?_;refine ah (br rY) ?_;refine ah (bB pj (v:=ae) ((S7.b0.cell 0).trans rfl)) ?_;refine dE (aKo S7.H.cF (S7.kp pE) hh.el hh.ef) ?_;rintro _ w8 ⟨Na,q,rfl,C⟩;refine⟨_,rfl,?_⟩;have S8:=S7.new (N':=Na) C.bw C.n2 C.n1 C.n3;have onw:=C.ow;have h7z:=S7.bw.size;have E2:∀x,KV vp vl x->x<w7.heap.size:=fun x d=>d.elim (fun e=>(S7.H.p.lt x e).2) fun e=>(S7.H.l.lt x e).2;have h76:=S7.q6.lt;have h71:=S7.b1.lt;have Z:=C.o;rw[wU]at Z;clear S7 C;refine ah bO ?_;refine bq ?_;refine bA (E':=[(1,.string s),(2,.slice ra r.length F),(3,PH w.heap.size),(6,PH (w.heap.size+1)),(8,PH p.heap.size),(11,.int .i64 ((i:Nat):Int)),(12,q)]) ?_;obtain⟨nb,nc,_,BG,_⟩:=Z.row (get_map h.entries hie);rw[dq]at BG;subst BG;refine aO ?_;refine ah aI ?_;refine ah aI ?_;refine ah aI ?_;refine dE (aG.calls (aG.fZ (MG r (by omega))) S8.H.cF (vs:=[.slice ra r.length F]) ⟨_,[],rfl,S8.kp hr,rfl⟩) ?_;rintro _ w9 ⟨vr,rfl,eT,jB⟩;refine⟨_,rfl,?_⟩;have S9:=S8.below jB;have Tv:=Z.below jB (N':=Na) (fun x d=>.inl d) fun x d=>d;clear S8 Z jB;have or:vr.oneCell'=true:=mf (show R w9 _ (.sl (r.map aB.cells)) vr from eT);have ajE:(h.entries.map (aB.cells (α:=Entry))).length=h.entries.length:=dq _;rw[<-ajE]at Tv;obtain⟨A,l6,⟨u0,hu0⟩,hfr⟩:=Tv.aET (j:=1) (get_map h.entries hie) (by decide) or eT;refine ah (yS rfl rfl rfl hie Ti) ?_;refine ah (br aaj) ?_;refine qG (pM rfl rfl rfl (by kernel_rfl) or hu0 hfr) ?_;generalize w9.setCell ⟨nb,i*5+1,none⟩ vr=wa at A l6 ⊢;have aA7:=(Tv.lt nb rfl).1;have nbw:=onw nb rfl;have Ir:=S9.wr U l6 aA7 (fun hk=>by have:=E2 _ hk;omega) (by omega) (by omega);rw[ajE]at A;have hnext:(h.entries.map aB.cells).set i ((aB.cells (nth h.entries i)).set 1 (ak r))=(BV h s r).map aB.cells:=by unfold BV;rw[hid,QR];rfl
 rw[hnext]at A;clear Tv S9 l6 hu0 hfr eT;obtain⟨next,qW⟩:∃next,BV h s r=next:=⟨_,rfl⟩
 have hnl:next.length=h.entries.length:=by rw[<-qW];simp[BV]
 rw[qW]at A;obtain⟨J,iI⟩:∃J:Nat->Prop,J=fun x=>Na x/\x≠nb:=⟨_,rfl⟩;have Sa:SB 2 (My (aC ae ap au G al)) M J w wa p.heap.size h ve vp vu vs vl:=Ir.less (fun x d=>by rw[iI]at d;exact d.1) (fun x d=>by rw[iI];exact⟨d.elim (fun e=>(Ir.H.p.lt x e).1) fun e=>(Ir.H.l.lt x e).1,fun e=>by have:=E2 x d;omega⟩) (fun k hk=>by rw[iI];exact⟨Ir.nb k hk,by omega⟩) (by rw[iI];exact⟨Ir.n6,by omega⟩);have Nf:R wa (BM M J) (ak next) (.slice (some ⟨nb,0,none⟩) h.entries.length nc):=A.GY (fun x d=>by rw[iI]at d;exact d.1) fun x d=>⟨fun H=>by rw[iI]at H;exact H.2 (jy d).symm,fun o hm=>by have e:=jy d;have h2:x<w.heap.size:=U.1 _ hm;have e:nb=x:=e;omega⟩
 clear Ir A;obtain⟨q,BG⟩:∃q:Value,.slice (some ⟨nb,0,none⟩) h.entries.length nc=q:=⟨_,rfl⟩;rw[BG]at Nf ⊢;refine bq ?_;refine bA (E':=[(1,.string s),(2,.slice ra r.length F),(3,PH w.heap.size),(6,PH (w.heap.size+1)),(8,PH p.heap.size),(11,.int .i64 ((i:Nat):Int)),(12,q)]) ?_;refine CW.seq (CW.seq (CW.any (fun W=>aA W w.heap.size 29 (aC ae ap au G al)) 12 mo fun wb hwd n=>⟨(Sa.below n).b0,?_⟩));have Sb:=Sa.below n;have dx:=dH (N':=J) Nf n fun x d=>.inl d;clear Sa Nf n;refine aX 0 rfl (fun W hW=>aI) Sb.b0 ?_;refine aX 2 rfl (fun W hW=>br rY) Sb.b0 ?_;refine aX 3 rfl (fun W hW=>bB pj (v:=ae) ((hW.cell 0).trans rfl)) Sb.b0 ?_;refine p9 1 rfl (aG.calls (aG.fZ (FD next)) Sb.H.cF (vs:=[q]) ⟨_,[],rfl,dx,rfl⟩) ?_;rintro _ wc ⟨v1,rfl,hv1,hbc⟩;have Sc:=Sb.below hbc;have Hr:=dH (N':=J) dx hbc fun x d=>.inl d;clear Sb dx hbc;refine⟨_,rfl,fun _=>Sc.b0,?_⟩;refine p9 4 rfl (aG.calls (aG.fZ (FD h.entries)) Sc.H.cF (vs:=[ae]) ⟨_,[],rfl,Sc.kp pE,rfl⟩) ?_;rintro _ wd ⟨v2,rfl,hv2,n⟩;have Sd:=Sc.below n;have H9:=dH (N':=J) Hr n fun x d=>.inl d;have hv1:=dH (N':=J) hv1 n fun x d=>.inl d;clear Sc Hr n;refine⟨_,rfl,fun _=>Sd.b0,?_⟩;refine p9 5 rfl (aG.calls (axU (gr next) (gr h.entries)) Sd.H.cF (vs:=[v1,v2]) ⟨_,_,rfl,hv1,_,[],rfl,hv2,rfl⟩) ?_;rintro _ we ⟨_,rfl,X,Nw⟩;obtain rfl:=X;have V:=Sd.below Nw;have ed:=dH (N':=J) H9 Nw fun x d=>.inl d;clear Sd H9 Nw hv1 hv2;refine⟨_,rfl,fun _=>V.b0,?_⟩;refine gI 6 rfl rp (fun _=>V.b0) ?_;refine gI 7 rfl aI (fun _=>V.b0) ?_;obtain⟨sl,hsl⟩:∃sl,decide (gr next=gr h.entries)=sl:=⟨_,rfl⟩;rw[hsl];cases sl
 ·refine AU.no (b:=true) 8 rfl (by kernel_rfl) rfl rfl rfl rfl (by decide) (fun _=>V.b0) ?_;refine AU.no (b:=true) 9 rfl (by kernel_rfl) rfl rfl rfl rfl (by decide) (fun _=>V.b0) ?_;refine AU.no (b:=true) 10 rfl (by kernel_rfl) rfl rfl rfl rfl (by decide) (fun _=>V.b0) ?_;refine AU.no (b:=true) 11 rfl (by kernel_rfl) rfl rfl rfl rfl (by decide) (fun _=>V.b0) ?_;refine gI 12 rfl (ru rfl rfl rfl) (fun _=>V.b0) ?_;refine ij (by kernel_rfl) (aM (eG ?_));refine aO ?_;refine ah (bG cX V.q6 bI) ?_;refine bW rfl (cs:=aC ve vp vu vs vl) rfl V.b1 V.one bI fun wz z4 oa=> ?_;refine ah bO ?_;obtain⟨hR,y,_⟩:=V.ans U (by decide) oa;have I:rE h s r=false:=by unfold rE;rw[qW,hsl];simp
  refine WL.nil (aM (CW.ret (NX.ret (rL rfl rfl rfl z4 cX rfl bI ⟨_,rfl,?_,y⟩))));have hd:rD h s r=h:=by unfold rD;rw[aw (by rw[I];decide)]
  rw[hd,I];exact⟨_,rfl,_,_,rfl,hR,_,_,rfl,rfl,rfl⟩
 refine XU (b:=false) 8 rfl (by kernel_rfl) rfl rfl rfl rfl aI (by decide) (fun _=>V.b0) ?_;refine aum (b:=false) 9 (args:=#[q]) rfl (by kernel_rfl) rfl rfl rfl rfl (pL (by kernel_rfl) rfl rfl rfl) (by decide) (aG.calls (aG.fZ (Sz next)) V.H.cF (vs:=[q]) ⟨_,[],rfl,ed,rfl⟩) ?_;rintro _ wf ⟨vk,rfl,Uq,hbf⟩;obtain⟨ka,kc,vw,_⟩:=mQ (mI (n:=1) (fun _=>rfl) (pP next)) Uq;rw[dq]at vw;subst vw;have Sf:=V.below hbf;have M3:=dH (N':=J) ed hbf fun x d=>.inl d;clear V ed hbf Uq;refine⟨_,rfl,fun _=>Sf.b0,?_⟩;refine XU (b:=false) 10 rfl (by kernel_rfl) rfl rfl rfl rfl (Aa rfl rfl rfl rfl fz rfl) (by decide) (fun _=>Sf.b0) ?_;refine XU (b:=false) 11 rfl (by kernel_rfl) rfl rfl rfl rfl (iB (hb:=aDq)) (by decide) (fun _=>Sf.b0) ?_;refine gI 12 rfl (sD rfl rfl rfl) (fun _=>Sf.b0) ?_;obtain⟨sk,Gq⟩:∃sk,decide ((pP next).length=0)=sk:=⟨_,rfl⟩;rw[Gq];cases sk
 ·refine ij (by kernel_rfl) (aM (eG ?_));refine aO ?_;refine ah (bG cX Sf.q6 bI) ?_;refine bW rfl (cs:=aC ve vp vu vs vl) rfl Sf.b1 Sf.one bI fun wz z4 oa=> ?_;refine ah bO ?_;obtain⟨hR,y,_⟩:=Sf.ans U (by decide) oa;have I:rE h s r=false:=by unfold rE;rw[qW,Gq];simp
  refine WL.nil (aM (CW.ret (NX.ret (rL rfl rfl rfl z4 cX rfl bI ⟨_,rfl,?_,y⟩))));have hd:rD h s r=h:=by unfold rD;rw[aw (by rw[I];decide)]
  rw[hd,I];exact⟨_,rfl,_,_,rfl,hR,_,_,rfl,rfl,rfl⟩
 refine ij (by kernel_rfl) (aM (CW.no (CW.skip (aM ?_))));have I:rE h s r=true:=by unfold rE;rw[hm,hok,hsh,qW,hsl,Gq];rfl
 refine bA (E':=[(1,.string s),(2,.slice ra r.length F),(3,PH w.heap.size),(6,PH (w.heap.size+1)),(8,PH p.heap.size),(11,.int .i64 ((i:Nat):Int)),(12,q)]) ?_;refine aO ?_;refine ah aI ?_;refine dE (aG.calls (aG.fZ (Sy r)) Sf.H.cF (vs:=[.slice ra r.length F]) ⟨_,[],rfl,Sf.kp hr,rfl⟩) ?_;rintro _ wg ⟨vm,rfl,hmk,hbg⟩;obtain⟨ms,rfl,hms,lK,m⟩:=DV hmk;refine⟨_,rfl,?_⟩;have Sg:=Sf.below hbg;have M4:=dH (N':=J) M3 hbg fun x d=>.inl d;clear Sf M3 hbg hmk;refine ah aI ?_;refine ah eA ?_;refine ah eA ?_;refine ah (eV rfl Gz) ?_;have hb1:=gh wg gW 51;have hz1:=eB wg (.cells gW 51);obtain⟨Sh,f⟩:=Sg.alloc gW 51;have ez:=dH (N':=fun x=>J x\/x=wg.heap.size) M4 hb1 fun x d=>d.imp id fun e=>by omega
 have m:=dH (N':=fun x=>J x\/x=wg.heap.size) m hb1 fun x d=>d.imp id fun e=>by omega
 clear Sg M4 hb1;change WL _ _ _ _ _ _ (wg.alloc (.cells gW 51));generalize wg.alloc (.cells gW 51)=wh at hz1 Sh f ez m ⊢;refine ah (eV rfl mW) ?_;have hb2:=gh wh cQ 110;have hz2:=eB wh (.cells cQ 110);obtain⟨Si,P2⟩:=Sh.alloc cQ 110;have f:=f.below hb2 (N':=fun x=>(J x\/x=wg.heap.size)\/x=wh.heap.size) fun x d=>.inl d;have Tw:=dH (N':=fun x=>(J x\/x=wg.heap.size)\/x=wh.heap.size) ez hb2 fun x d=>d.imp id fun e=>by omega
 have m:=dH (N':=fun x=>(J x\/x=wg.heap.size)\/x=wh.heap.size) m hb2 fun x d=>d.imp id fun e=>by omega
 clear Sh ez hb2;change WL _ _ _ _ _ _ (wh.alloc (.cells cQ 110));generalize wh.alloc (.cells cQ 110)=wi at hz2 Si f P2 Tw m ⊢;obtain⟨t,zJ⟩:∃t:Nat->Prop,(fun x=>(J x\/x=wg.heap.size)\/x=wh.heap.size)=t:=⟨_,rfl⟩;rw[zJ]at Si f P2 Tw m;obtain⟨Y,hg1⟩:∃Y,wg.heap.size=Y:=⟨_,rfl⟩;rw[hg1]at f hz1 ⊢;refine bW rfl (cs:=ms) rfl f.b (hC:=(by rw[hms];rfl)) lK (by rw[hms];exact l8) fun wj R1 O1=> ?_;have Sj:=Si.ES U f O1;have P2:=P2.DT O1 (by omega);have M5:=iO Tw O1 f.n;have m:=iO m O1 f.n;have f:=f.put R1;clear Si Tw R1 O1;refine bW rfl (cs:=eY (dX r).2) rfl P2.b (OH _) cw fun wk R2 O2=> ?_;have Sk:=Sj.ES U P2 O2;have f:=f.DT O2 (by omega);have M6:=iO M5 O2 P2.n;have m:=iO m O2 P2.n;clear Sj M5 R2 O2 P2 hz1 hz2 zJ;refine bq ?_;refine bA (E':=[(1,.string s),(2,.slice ra r.length F),(3,PH w.heap.size),(6,PH (w.heap.size+1)),(8,PH p.heap.size),(11,.int .i64 ((i:Nat):Int)),(12,q),(13,PH Y)]) ?_;obtain⟨ea,ec,MT,_,aaW⟩:=mQ (mI (n:=5) (fun _=>rfl) h.entries) pE;rw[dq]at MT;obtain⟨eb,eo,es,rfl,hes,⟨c0,_,hcc,⟨rfl,_⟩,c1,_,rfl,NP,_⟩,aaV⟩:=aaW i _ (get_map h.entries hie);subst MT;have NP:R w M (ak (nth h.entries i).recipe) c1:=NP;have hrec:wk.cell? ⟨eb,eo+i*5+1,none⟩=some c1:=by have hc:=aaV 1 c1 (by rw[hcc];rfl);rw[Sk.bw.cell (gf hc)];exact hc
 have hro:jq (nth h.entries i).recipe=true:=by have h1:=(qt hO.rz).2 i hie;unfold mB at h1;simp only[aY]at h1;have h2:=h1.1;unfold mR at h2;simp only[aY]at h2;exact h2.1.1.1.1
 have hpos:∀{l:List ByteArray},jq l=true->0<l.length:=fun {l} hl=>amh hl;obtain⟨xa,xc,AA,_,aBU⟩:=mQ (mI (n:=1) (fun _=>rfl) (nth h.entries i).recipe) NP;rw[dq]at AA;obtain⟨xb,xo,xs,rfl,hxs,⟨d0,_,rfl,⟨rfl,hk0⟩,_⟩,aBT⟩:=aBU 0 _ (get_map (nth h.entries i).recipe (hpos hro));subst AA;have hx0:wk.cell? ⟨xb,xo+0*1,none⟩=some (.string (nth (nth h.entries i).recipe 0)):=by have hc:=aBT 0 _ rfl;rw[Sk.bw.cell (gf hc)];exact hc
 refine aO ?_;refine ah (br rY) ?_;refine ah (bB pj (v:=.slice (some ⟨eb,eo,none⟩) h.entries.length ec) ((Sk.b0.cell 0).trans rfl)) ?_;refine ah aI ?_;refine ah (oO hie Ti) ?_;refine ah (br aaj) ?_;refine ah (bB fz (v:=.slice (some ⟨xb,xo,none⟩) (nth h.entries i).recipe.length xc) hrec) ?_;refine ah (oO (i:=0) (hpos hro) zE) ?_;refine ah (bB iy (v:=.string (nth (nth h.entries i).recipe 0)) hx0) ?_;refine dE (aG.calls (Jc (nth (nth h.entries i).recipe 0)) Sk.H.cF (vs:=[.string (nth (nth h.entries i).recipe 0)]) ⟨_,[],rfl,⟨rfl,hk0⟩,rfl⟩) ?_;rintro _ wl ⟨vq,rfl,H,hbl⟩;obtain rfl:=abN H;refine⟨_,rfl,?_⟩;have Sl:=Sk.below hbl;have f:=f.below hbl (N':=t) fun x d=>d;have P1:=dH (N':=t) M6 hbl fun x d=>.inl d;have m:=dH (N':=t) m hbl fun x d=>.inl d;clear Sk M6 hbl H;refine ah aI ?_;refine ah eA ?_;refine ah eA ?_;refine ah bO ?_;refine ah bO ?_;refine bq ?_;refine bA (E':=[(1,.string s),(2,.slice ra r.length F),(3,PH w.heap.size),(6,PH (w.heap.size+1)),(8,PH p.heap.size),(11,.int .i64 ((i:Nat):Int)),(12,q),(13,PH Y),(15,.int .i64 (fg (nth (nth h.entries i).recipe 0)))]) ?_;obtain⟨yb,yo,ys,rfl,hys,⟨d1,_,rfl,⟨rfl,hk1⟩,_⟩,aBW⟩:=hrel 0 _ (get_map r (hpos hok));have hy0:wl.cell? ⟨yb,yo+0*1,none⟩=some (.string (nth r 0)):=by have hc:=aBW 0 _ rfl;rw[Sl.bw.cell (gf hc)];exact hc
 refine aO ?_;refine ah aI ?_;refine ah (oO (i:=0) (hpos hok) zE) ?_;refine ah (bB iy (v:=.string (nth r 0)) hy0) ?_;refine dE (aG.calls (Jc (nth r 0)) Sl.H.cF (vs:=[.string (nth r 0)]) ⟨_,[],rfl,⟨rfl,hk1⟩,rfl⟩) ?_;rintro _ wm ⟨vq,rfl,H,yx⟩;obtain rfl:=abN H;refine⟨_,rfl,?_⟩;have Sm:=Sl.below yx;have f:=f.below yx (N':=t) fun x d=>d;have eW:=dH (N':=t) P1 yx fun x d=>.inl d;have m:=dH (N':=t) m yx fun x d=>.inl d;clear Sl P1 yx H;refine ah aI ?_;refine ah eA ?_;refine ah eA ?_;refine ah bO ?_;refine ah bO ?_;refine bq ?_;refine bA (E':=[(1,.string s),(2,.slice (some ⟨yb,yo,none⟩) r.length F),(3,PH w.heap.size),(6,PH (w.heap.size+1)),(8,PH p.heap.size),(11,.int .i64 ((i:Nat):Int)),(12,q),(13,PH Y),(15,.int .i64 (fg (nth (nth h.entries i).recipe 0))),(17,.int .i64 (fg (nth r 0)))]) ?_;obtain⟨Q,hkp⟩:∃Q,(cm (fg (nth (nth h.entries i).recipe 0)) 2&&cm (fg (nth r 0)) 2)=Q:=⟨_,rfl⟩;obtain⟨p1,T⟩:∃p1:Part,(if Q=true then {(dX r).1 with core:={(dX r).1.core with cells:=(nth h.parts i).core.cells}} else(dX r).1)=p1:=⟨_,rfl⟩;have hI:∀{W:World} {k:Int} {N:Nat->Prop},True:=fun {_ _ _}=>trivial;have hil:∀s:ByteArray,IntKind.i64.min<=((fg s:Nat):Int)/\((fg s:Nat):Int)<=IntKind.i64.max:=fun s=>by
  have:=DK s;have e1:IntKind.i64.min= -9223372036854775808:=by decide
  have e2:IntKind.i64.max=9223372036854775807:=by decide
  omega
 have i2:IntKind.i64.min<=(2:Int)/\(2:Int)<=IntKind.i64.max:=by decide
 refine CW.seq (Qu (fun E' W=>∃(N:Nat->Prop) (cs:Array Value),E'=[(1,.string s),(2,.slice (some ⟨yb,yo,none⟩) r.length F),(3,PH w.heap.size),(6,PH (w.heap.size+1)),(8,PH p.heap.size),(11,.int .i64 ((i:Nat):Int)),(12,q),(13,PH Y)] /\
  SB 2 (My (aC (.slice (some ⟨eb,eo,none⟩) h.entries.length ec) ap au G al)) M N w W p.heap.size h ve vp vu vs vl/\NB 2 N w W p.heap.size vp vl Y 51 cs/\QO M N W (p1,default) cs/\R W (BM M N) (ak next) q) ?_ ?_)
 ·refine aO ?_;refine ah aI ?_;refine dE (aG.calls (wX (fg (nth (nth h.entries i).recipe 0)) 2) Sm.H.cF (vs:=[.int .i64 (fg (nth (nth h.entries i).recipe 0)),.int .i64 2]) ⟨_,_,rfl,⟨rfl,hil _⟩,_,[],rfl,⟨rfl,i2⟩,rfl⟩) ?_;rintro _ wn ⟨_,rfl,X,zL⟩;obtain rfl:=X;refine⟨_,rfl,?_⟩;have Sn:=Sm.below zL;have f:=f.below zL (N':=t) fun x d=>d;have fo:=dH (N':=t) eW zL fun x d=>.inl d;have m:=dH (N':=t) m zL fun x d=>.inl d;clear Sm eW zL;refine ah aI ?_;cases ha:cm (fg (nth (nth h.entries i).recipe 0)) 2
  ·refine fL (b:=false) ?_;refine fL (b:=false) ?_;refine ah (sD rfl rfl rfl) ?_;refine WL.nil (aM (CW.no (CW.skip ?_)));rw[ha]at hkp;have:Q=false:=by rw[<-hkp];rfl
   subst this;rw[aw (by decide)]at T;exact AG ⟨t,ms,rfl,Sn,f,⟨hms,lK,by rw[<-T];exact m,fun _ _=>DZ (Ac (k:=0) (v:=0) (w:=w) (M:=M) (by decide) (by decide)) _ _⟩,fo⟩ ⟨rfl,rfl,rfl,rfl,rfl,rfl,rfl,rfl,trivial⟩
  refine iL (b:=true) aI ?_;refine CX (b:=true) (aG.calls (wX (fg (nth r 0)) 2) Sn.H.cF (vs:=[.int .i64 (fg (nth r 0)),.int .i64 2]) ⟨_,_,rfl,⟨rfl,hil _⟩,_,[],rfl,⟨rfl,i2⟩,rfl⟩) ?_;rintro _ wo ⟨_,rfl,X,Dx⟩;obtain rfl:=X;refine⟨_,rfl,?_⟩;have So:=Sn.below Dx;have f:=f.below Dx (N':=t) fun x d=>d;have jb:=dH (N':=t) fo Dx fun x d=>.inl d;have m:=dH (N':=t) m Dx fun x d=>.inl d;clear Sn fo Dx;refine ah (ru rfl rfl rfl) ?_;rw[ha,qI]at hkp;rw[hkp];refine bq ?_;cases Q
  ·refine CW.no (CW.skip ?_);rw[aw (by decide)]at T;exact AG ⟨t,ms,rfl,So,f,⟨hms,lK,by rw[<-T];exact m,fun _ _=>DZ (Ac (k:=0) (v:=0) (w:=w) (M:=M) (by decide) (by decide)) _ _⟩,jb⟩ ⟨rfl,rfl,rfl,rfl,rfl,rfl,rfl,rfl,trivial⟩
  refine eG ?_;rw[aD rfl]at T;obtain⟨aa,ac,Dk,_,Gm⟩:=mQ (mI (n:=6) (fun _=>rfl) h.parts) hap;rw[dq]at Dk;obtain⟨pb,po,us,rfl,jO,lW,hcell⟩:=Gm i _ (get_map h.parts hi);subst Dk;have nO:R w M (enc (nth h.parts i)) (.agg us.toArray):=⟨_,rfl,lW⟩;obtain⟨T1,T2,MU,ht1,Ul,hkz,hct⟩:=DW nO;have MU:us.toArray=#[.string (nth h.parts i).core.kind,.bool (nth h.parts i).core.on,.bool (nth h.parts i).core.broken,T1,.int .i64 (nth h.parts i).core.count,T2]:=by injection MU
  have MU:us=[.string (nth h.parts i).core.kind,.bool (nth h.parts i).core.on,.bool (nth h.parts i).core.broken,T1,.int .i64 (nth h.parts i).core.count,T2]:=by have:=congrArg Array.toList MU;simpa using this
  obtain⟨c5,Dy⟩:∃c5:List Value,c5=[.string (nth h.parts i).core.kind,.bool (nth h.parts i).core.on,.bool (nth h.parts i).core.broken,T1,.int .i64 (nth h.parts i).core.count]:=⟨_,rfl⟩;have ql:R w M (enc (nth h.parts i).core) (.agg c5.toArray):=by rw[Dy];exact⟨_,rfl,_,_,rfl,⟨rfl,hkz⟩,_,_,rfl,rfl,_,_,rfl,rfl,_,_,rfl,ht1,_,_,rfl,⟨rfl,hct⟩,rfl⟩
  have zN:∀(j:Nat) (u:Value),c5[j]? =some u->wo.cell? ((⟨pb,po+i*6+0,none⟩:Addr).add j)=some u:=fun j u z=>by
   rw[tY,rS];have hj:us[j]? =some u:=by
    rw[MU];rw[Dy]at z
    match j,z with
    |0,z=>exact z
    |1,z=>exact z
    |2,z=>exact z
    |3,z=>exact z
    |4,z=>exact z
    |j+5,z=>simp at z
   have hc:=hcell j u hj;rw[So.bw.cell (gf hc)];exact hc
  refine aO ?_;refine ah (br rZ) ?_;refine ah (bB qf (v:=.slice (some ⟨pb,po,none⟩) h.parts.length ac) ((So.b0.cell 1).trans rfl)) ?_;refine ah aI ?_;refine ah (oO hi FR) ?_;refine ah (br M8) ?_;refine ah (Ab (cs:=c5) rfl rfl YT rfl (by rw[Dy];exact aku) zN) ?_;refine dE (aG.calls (aG.fZ (Zr (nth h.parts i).core (by have:=vR.1;omega))) So.H.cF (vs:=[.agg c5.toArray]) ⟨_,[],rfl,So.kp ql,rfl⟩) ?_;rintro _ wp ⟨vq,rfl,H,Ny⟩;obtain⟨X1,rfl,hX⟩:=ayh H;refine⟨_,rfl,?_⟩;have Sp:=So.below Ny;have f:=f.below Ny (N':=t) fun x d=>d;have Qp:=dH (N':=t) jb Ny fun x d=>.inl d;have m:=dH (N':=t) m Ny fun x d=>.inl d;have oX:X1.oneCell'=true:=mf (show R wp _ (.sl ((nth h.parts i).core.cells.map aB.cells)) X1 from hX);clear So jb Ny H;refine ah (eV rfl aCb) ?_;have hb3:=gh wp LI 48;have hz3:=eB wp (.cells LI 48);obtain⟨Sq,P3⟩:=Sp.alloc LI 48;have aLl:=f.b.lt;have f:=f.below hb3 (N':=fun x=>t x\/x=wp.heap.size) fun x d=>.inl d;have j3:=dH (N':=fun x=>t x\/x=wp.heap.size) Qp hb3 fun x d=>d.imp id fun e=>by omega
  have m:=dH (N':=fun x=>t x\/x=wp.heap.size) m hb3 fun x d=>d.imp id fun e=>by omega
  have hX:=dH (N':=fun x=>t x\/x=wp.heap.size) hX hb3 fun x d=>d.imp id fun e=>by omega
  clear Sp Qp hb3;change WL _ _ _ _ _ _ (wp.alloc (.cells LI 48));generalize wp.alloc (.cells LI 48)=wq at hz3 Sq f P3 j3 m hX ⊢;refine bW rfl (cs:=#[.string (nth h.parts i).core.kind,.bool (nth h.parts i).core.on,.bool (nth h.parts i).core.broken,X1,.int .i64 (nth h.parts i).core.count]) rfl P3.b (by intro u z;simp at z;rcases z with rfl|rfl|rfl|rfl|rfl<;>first|rfl|exact oX) aku fun wr R3 O3=> ?_;have Sr:=Sq.ES U P3 O3;have f:=f.DT O3 (by omega);have hEs:=iO j3 O3 P3.n;have m:=iO m O3 P3.n;have hX:=iO hX O3 P3.n;clear Sq j3 O3 P3;refine bq ?_;refine CW.region ?_;refine ah (br aio) ?_;refine ah (bB Tryz.underlying46 (v:=X1) ((R3.cell 3).trans rfl)) ?_;refine ah (br M8) ?_;refine ah (br aio) ?_;obtain⟨Y1,Y2,Z9,hy1,xw,hyz,hyc⟩:=DW m;have Z9:ms=#[.string (dX r).1.core.kind,.bool (dX r).1.core.on,.bool (dX r).1.core.broken,Y1,.int .i64 (dX r).1.core.count,Y2]:=by injection Z9
  subst Z9;refine qG (pM rfl rfl rfl (by kernel_rfl) oX ((f.b.cell 3).trans rfl) (f.b.frozen 3)) ?_;have R4:aA (wr.setCell ⟨Y,0+0+3,none⟩ X1) Y 51 #[.string (dX r).1.core.kind,.bool (dX r).1.core.on,.bool (dX r).1.core.broken,X1,.int .i64 (dX r).1.core.count,Y2]:=f.b.xK 3 X1;have O4:bU wr (wr.setCell ⟨Y,0+0+3,none⟩ X1) Y:=(bU.refl wr Y).set (0+0+3) X1;generalize wr.setCell ⟨Y,0+0+3,none⟩ X1=ws at R4 O4 ⊢;have Ss:=Sr.ES U f O4;have hEt:=iO hEs O4 f.n;have hX:=iO hX O4 f.n;have xw:=iO xw O4 f.n;have f:=f.put R4;refine WL.nil ?_;refine AG ⟨_,_,rfl,Ss,f,⟨rfl,?_,?_,fun _ _=>DZ (Ac (k:=0) (v:=0) (w:=w) (M:=M) (by decide) (by decide)) _ _⟩,hEt⟩ ⟨rfl,rfl,rfl,rfl,rfl,rfl,rfl,rfl,trivial⟩
  ·have oY:Y2.oneCell'=true:=mf (show R ws _ (.sl ((dX r).1.ai.map aB.cells)) Y2 from xw);intro u z;simp at z;rcases z with rfl|rfl|rfl|rfl|rfl|rfl<;>first|rfl|assumption
  ·rw[<-T];exact⟨_,rfl,_,_,rfl,⟨rfl,hyz⟩,_,_,rfl,rfl,_,_,rfl,rfl,_,_,rfl,hX,_,_,rfl,⟨rfl,hyc⟩,_,_,rfl,xw,rfl⟩
 clear Sm f eW m;rintro E' W ⟨N,cs,rfl,S,P,O,Z⟩;refine aM ?_;have ajQ:p1.core.cells.length<=4/\p1.ai.length<=3:=by
  rw[<-T];have h1:=ak5 r;split
  ·exact⟨vR.1,h1.2⟩
  ·exact h1
 obtain⟨p2,oJ⟩:∃p2:Part,(if hasB h.up s=true then mZ p1 mStart else p1)=p2:=⟨_,rfl⟩;refine CW.seq (Qu (fun E' W=>∃(cs:Array Value),E'=[(1,.string s),(2,.slice (some ⟨yb,yo,none⟩) r.length F),(6,PH (w.heap.size+1)),(8,PH p.heap.size),(11,.int .i64 ((i:Nat):Int)),(12,q),(13,PH Y)] /\
  SB 2 (My (aC (.slice (some ⟨eb,eo,none⟩) h.entries.length ec) ap au G al)) M N w W p.heap.size h ve vp vu vs vl/\NB 2 N w W p.heap.size vp vl Y 51 cs/\QO M N W (p2,default) cs/\R W (BM M N) (ak next) q) ?_ ?_)
 ·refine aO ?_;refine ah (br qi) ?_;refine ah (bB fz (v:=au) ((S.b0.cell 2).trans rfl)) ?_;refine ah aI ?_;refine dE (aG.calls (nE h.up s) S.H.cF (vs:=[au,.string s]) ⟨_,_,rfl,S.kp tu,_,[],rfl,⟨rfl,hs⟩,rfl⟩) ?_;rintro _ wa ⟨_,rfl,X,Nv⟩;obtain rfl:=X;refine⟨_,rfl,?_⟩;have Sa:=S.below Nv;have Pa:=P.below Nv fun x d=>d;have Oa:=O.below (N':=N) Nv fun x d=>.inl d;have A:=dH (N':=N) Z Nv fun x d=>.inl d;clear S P O Z Nv;refine bq ?_;cases nR:hasB h.up s
  ·refine CW.no (CW.skip ?_);rw[nR,aw (by decide)]at oJ;subst oJ;exact AG ⟨cs,rfl,Sa,Pa,Oa,A⟩ ⟨rfl,rfl,rfl,rfl,rfl,rfl,rfl,trivial⟩
  refine eG (CW.region ?_);rw[nR,aD rfl]at oJ;refine ah (bG dF Pa.b (by rw[Oa.s];exact l8)) ?_;refine dE (aG.calls (SD p1 mStart (by have:=ajQ.1;omega) (by have:=ajQ.2;omega)) Sa.H.cF (vs:=[.agg cs,.string mStart]) ⟨_,_,rfl,Oa.r,_,[],rfl,⟨rfl,by decide⟩,rfl⟩) ?_;rintro _ wb ⟨vq,rfl,H,qU⟩;obtain⟨ds,rfl,hds,hone,Bq⟩:=Vi H;refine⟨_,rfl,?_⟩;have Sb:=Sa.below qU;have Pb:=Pa.below qU fun x d=>d;have Nf:=dH (N':=N) A qU fun x d=>.inl d;refine bW rfl (cs:=ds) rfl Pb.b (hC:=(by rw[hds,Oa.s])) hone (by rw[hds];exact l8) fun wc R1 O1=> ?_;refine WL.nil ?_;exact AG ⟨ds,rfl,Sb.ES U Pb O1,Pb.put R1,⟨hds,hone,by rw[<-oJ];exact iO H O1 Pb.n,fun _ _=>DZ (Ac (k:=0) (v:=0) (w:=w) (M:=M) (by decide) (by decide)) _ _⟩,iO Nf O1 Pb.n⟩ ⟨rfl,rfl,rfl,rfl,rfl,rfl,rfl,trivial⟩
 clear S P O Z cs;rintro E' W ⟨cs,rfl,S,P,O,Z⟩;refine aM ?_;have hsw:Kx h s r=p2:=by unfold Kx;simp only[hid];rw[hkp,T];exact oJ
 have on:q.oneCell'=true:=mf (show R W _ (.sl (next.map aB.cells)) q from Z);refine aO ?_;refine ah aI ?_;refine ah (br rY) ?_;refine qG (pM rfl rfl rfl (by kernel_rfl) on ((S.q6.cell 0).trans rfl) (S.q6.frozen 0)) ?_;have z6:aA (W.setCell ⟨p.heap.size,0+0,none⟩ q) p.heap.size 29 (aC q vp vu vs vl):=S.q6.xK 0 q;have wu:bU W (W.setCell ⟨p.heap.size,0+0,none⟩ q) p.heap.size:=(bU.refl W p.heap.size).set (0+0) q;generalize W.setCell ⟨p.heap.size,0+0,none⟩ q=Wa at z6 wu ⊢;have Sa:SB 2 (My (aC (.slice (some ⟨eb,eo,none⟩) h.entries.length ec) ap au G al)) M N w Wa p.heap.size {h with entries:=next} q vp vu vs vl :=
  S.box U wu (fun x d=>d) (fun x d=>d.elim (fun e=>(S.H.p.lt x e).1) fun e=>(S.H.l.lt x e).1) S.nb S.n6 ⟨rfl,rfl⟩ Z S.U S.H.s z6
 have Pa:=P.DT wu P.ne;have Oa:=O.one wu S.n6;clear S P O Z wu z6;refine bq ?_;have ko:(h.parts.map (aB.cells (α:=Part))).length=h.parts.length:=dq _;obtain⟨b,cap,_,uD,_⟩:=Sa.H.p.row (get_map h.parts hi);rw[show(({h with entries:=next}:Host).parts.map (aB.cells (α:=Part))).length=h.parts.length from ko]at uD;subst uD;have Bq:Rs Wa (BM M N) (aB.cells p2) cs.toList:=by obtain⟨cs',e,hR⟩:=Oa.r;cases e;exact hR
 refine aO ?_;refine ah (br rZ) ?_;refine ah (bB qf (v:=.slice (some ⟨b,0,none⟩) h.parts.length cap) ((Sa.q6.cell 1).trans rfl)) ?_;refine ah aI ?_;refine ah (bG dF Pa.b (by rw[Oa.s];exact l8)) ?_;refine ah (yS rfl rfl rfl hi FU) ?_;obtain⟨Wb,hst,mV,BW⟩:=Vl (n:=133) (P:=az) (E:=[(122,.pointer (some ⟨b,i*6,none⟩)),(121,.agg cs)]) (o:=opAt (G5 Tryz.f109 19) 5) (T:=51) (x:=.tmp 122) (y:=.tmp 121) (by kernel_rfl) rfl rfl Sa.H.p (by rw[dq];exact hi) rfl Oa.s Oa.o Bq l8;refine qG (fun a Z=>hst a (Z.sub ⟨rfl,rfl,trivial⟩)) ?_;have Sb:=Sa.part (g:={h with entries:=next}) mV BW;clear Sa Pa Oa mV hst Bq BW;refine bq ?_;obtain⟨g,hgg⟩:∃g:Host,{({h with entries:=next}:Host)with parts:=({h with entries:=next}:Host).parts.set i p2}=g:=⟨_,rfl⟩;rw[hgg]at Sb;have hgl:g.log=h.log:=by rw[<-hgg]
 obtain⟨vp,uD⟩:∃vp:Value,.slice (some ⟨b,0,none⟩) h.parts.length cap=vp:=⟨_,rfl⟩;rw[show(.slice (some ⟨b,0,none⟩) ({h with entries:=next}:Host).parts.length cap:Value)=vp from uD]at Sb;refine bA (E':=[(1,.string s),(2,.slice (some ⟨yb,yo,none⟩) r.length F),(6,PH (w.heap.size+1)),(8,PH p.heap.size)]) ?_;refine CW.seq (CW.any (fun W=>aA W p.heap.size 29 (aC q vp vu vs vl)) 9 mo fun Wc hwd n=>⟨(Sb.below n).q6,?_⟩);have Sc:=Sb.below n;clear Sb n;refine aX 0 rfl (fun W hW=>br tk) Sc.q6 ?_;refine aX 1 rfl (fun W hW=>bB vz (v:=vl) ((hW.cell 4).trans rfl)) Sc.q6 ?_;refine aX 2 rfl (fun W hW=>aI) Sc.q6 ?_;refine aX 3 rfl (fun W hW=>aI) Sc.q6 ?_;refine p9 4 rfl (aG.calls (aG.fZ (MG r (by omega))) Sc.H.cF (vs:=[.slice (some ⟨yb,yo,none⟩) r.length F]) ⟨_,[],rfl,Sc.kp hr,rfl⟩) ?_;rintro _ Wd ⟨vr,rfl,eT,n⟩;obtain⟨za,zc,Dd,_⟩:=mQ (mI (n:=1) (fun _=>rfl) r) eT;rw[dq]at Dd;subst Dd;have Sd:=Sc.below n;clear Sc n;refine⟨_,rfl,fun _=>Sd.q6,?_⟩;refine gI 5 rfl (kI (vs:=[(0,.int .i64 5),(1,.string s),(3,.slice za r.length zc)]) (awL s za r.length zc)) (fun _=>Sd.q6) ?_;obtain⟨cZ,Wf,t,Ns,yO,x6,_,_,Sk⟩:=Sd.lg U (e:=⟨5,s,nV,r⟩) (azk hs eT) (by rw[hgl];omega);refine gI 6 rfl Km (fun _=>(Sd.below (gh _ _ _)).q6) ?_;refine gI 7 rfl (rn rfl rfl rfl Ns) (fun _=>x6) ?_;refine gI 8 rfl (br tk) (fun _=>x6) ?_;refine Ax 9 rfl (by kernel_rfl) rfl rfl (pM rfl rfl rfl (by kernel_rfl) yO ((x6.cell 4).trans rfl) (x6.frozen 4)) (fun h=>absurd rfl h) ?_;generalize Wf.setCell ⟨p.heap.size,0+4,none⟩ cZ=Wg at Sk ⊢;clear Sd x6;refine ij (by kernel_rfl) (aM ?_);refine bA (E':=[(6,PH (w.heap.size+1)),(8,PH p.heap.size)]) ?_;refine aO ?_;refine ah (bG cX Sk.q6 bI) ?_;refine bW rfl (cs:=aC q vp vu vs cZ) rfl Sk.b1 Sk.one bI fun Wh z4 oa=> ?_;refine ah bO ?_;obtain⟨hR,y,_⟩:=Sk.ans U (by decide) oa;have hd:rD h s r=qo g ⟨5,s,nV,r⟩:=by unfold rD;rw[aD I,hsw,hid,qW, <-hgg]
 refine WL.nil (aM (CW.ret (rL rfl rfl rfl z4 cX rfl bI ⟨_,rfl,?_,y⟩)));rw[hd,I];exact⟨_,rfl,_,_,rfl,hR,_,_,rfl,rfl,rfl⟩
def axG(h:Host)(s:ByteArray)(r:List ByteArray)(l:r.length<=1000)(d:ny h):aG az 109 none [enc h,.str s,ak r] (.aU [enc (rD h s r),.bool (rE h s r)]) [] :=
 CL (by kernel_rfl) fun w M vs G e=>by obtain⟨v,_,rfl,f,j,_,rfl,⟨rfl,i⟩,m,_,rfl,a,rfl⟩:=e;exact aKh G f i a l d
def awB:∀k:Nat,k<64->cm (k:Int) 2=true->k.testBit 1=true:=by decide +kernel
def auj(l:List ByteArray):∀k,(gP l k).core=v7 (nth l 0)
 |0=>rfl
 |k+1=>by
  have:(kL (gP l k) (nth l (k+1))).1.core=(gP l k).core:=by
   unfold kL;split
   ·rfl
   split
   ·rfl
   split
   ·rfl
   ·rfl
  exact this.trans (auj l k)
def aEc{s:ByteArray}(h:kindOk s=true):dw (rl s)=true:=by
 have a:v7 s=⟨s,false,false,[],0⟩:=by unfold v7;rw[aD h]
 rw[pK];refine⟨?_,fO _,fun i d=>absurd d (Nat.not_lt_zero i)⟩;show oB (v7 s)=true;rw[a,rU];exact⟨h,rfl,.inl rfl,(show gM 0=true by decide),by simp,.inr ⟨rfl,rfl⟩⟩
def US{l:List ByteArray}(h:jq l=true):dw (dX l).1=true/\(dX l).1.core=⟨nth l 0,false,false,[],0⟩/\kindOk (nth l 0)=true:=by
 unfold jq at h;have h:(dX l).2.code=0:=by simpa using h
 unfold dX at h ⊢;split at h
 ·simp[rep]at h
 rename_i d;rw[aw d];have a:kindOk (nth l 0)=true:=by
  cases e:kindOk (nth l 0)with
  |true=>rfl
  |false=>exact absurd (.inr e) d
 cases f:eH (fun k=> !decide ((tT l k).code=0)) (l.length-1)with
 |some k=> rw[f]at h;have i:=(xg f).2.1;simp at i;exact absurd h i
 |none=>
  have n:=aag f;have p:∀k,k<=l.length-1->dw (gP l k)=true:=by
   intro k;induction k with
   |zero=>intro _;exact aEc a
   |succ k ih=>
    intro o;have j:=n k (by omega);have q:(kL (gP l k) (nth l (k+1))).2.code=0:=by simp[tT]at j;exact RR j
    have m:=aKB q;show dw (kL (gP l k) (nth l (k+1))).1=true;rw[m.2.2.2.2.1];exact m.2.2.2.2.2
  refine⟨p _ (bK _),?_,a⟩;show(gP l (l.length-1)).core=_;rw[auj];unfold v7;rw[aD a]
def aCN{c:List Cell}(h:jq r=true)(a:iM c=true)(ho:cm (fg (nth r 0)) 2=true):dw {(dX r).1 with core:={(dX r).1.core with cells:=c}}=true:=by obtain⟨d,e,f⟩:=US h;obtain⟨_,q2,q3⟩:=pK.1 d;have j:∀i,fQ {(dX r).1 with core:={(dX r).1.core with cells:=c}} i=fQ (dX r).1 i:=fun i=>rfl;refine pK.2 ⟨?_,q2,fun i l=>by rw[j];exact q3 i l⟩;rw[e,rU];exact⟨f,a,.inr (awB _ (DK _) ho),(show gM 0=true by decide),by simp,.inr ⟨rfl,rfl⟩⟩
structure HW(h:Host):Prop where
 e6:h.entries.length<=6
 pe:h.parts.length=h.entries.length
 er:∀e∈h.entries,jq e.recipe=true/\e.needs.length<=3
 pp:∀p∈h.parts,dw p=true
 l24:h.log.length<=24
 u:h.up.length<=6*h.log.length
 s:h.shut.length<=h.log.length
 lr:∀e∈h.log,e.recipe.length<=1000
def HW.fit(H:HW h):ny h:=by
 have f:=H.e6;have i:=H.pe;have j:=H.l24;have l:=H.u;have m:=H.s;refine⟨by omega,fun e a=> ?_,by omega,by omega,by omega,fun p d=> ?_,by omega,fun e a=>dV (H.lr e a) (by decide)⟩
 ·have q1:=(acK (H.er e a).1).1;have q2:=(H.er e a).2;exact⟨by omega,by omega⟩
 ·have:=B6 (H.pp p d);exact⟨by have:=this.1;omega,by have:=this.2;omega⟩
def HW.logged{g:Host}{ev:Event}(H:HW h)(l:g.log=h.log)(t:h.log.length<24)(j:g.entries.length=h.entries.length)(d:∀e∈g.entries,jq e.recipe=true/\e.needs.length<=3)(m:g.parts.length=h.parts.length)(f:∀p∈g.parts,dw p=true)(u:g.up.length<=h.up.length+6)(s:g.shut.length<=h.shut.length+1)(r:ev.recipe.length<=1000):HW (qo g ev):=by
 have n:=H.e6;have o:=H.pe;have q:=H.u;have x:=H.s;have i:(qo g ev).log.length=h.log.length+1:=by show(g.log++[ev]).length=_;rw[l];simp
 refine⟨by show g.entries.length<=6;omega,by show g.parts.length=g.entries.length;omega,d,f,by omega,by show g.up.length<=_;omega,by show g.shut.length<=_;omega,fun e a=> ?_⟩;have a:e∈g.log++[ev]:=a;rcases iV.1 a with a|a
 ·rw[l]at a;exact H.lr e a
 ·simp at a;rw[a];exact r
def VD{α:Type}{P:α->Prop}{l:List α}{i:Nat}{x:α}(h:∀y∈l,P y)(hx:P x):∀y∈l.set i x,P y:=fun y d=>by
 rcases sY d with a|a
 ·exact h y a
 ·rw[a];exact hx
def aEG(h:cG l=true):(wy l).length<=6:=by unfold wy;rw[aD h,Ou];have a:=alH l;have d:=(qt h).1;omega
def aGO(H:HW h)(s:ByteArray):HW (Af h s):=by
 unfold Af;split
 ·rename_i o;have m:gV h s=true:=by unfold wE at o;simp only[aY]at o;exact o.1.1
  obtain⟨O,_,l,_⟩:=BR m;have r:=acP O (FA h s) (wy h.entries).length (bK _);have a:=aEG O.rz;exact H.logged r.l l (by rw[r.e]) (by rw[r.e];exact H.er) r.n r.p (by have:=r.u;omega) (by rw[r.s];omega) (by simp[jj])
 ·exact H
def aGP(H:HW h)(s:ByteArray):HW (ku h s):=by
 unfold ku;split
 ·rename_i o;have m:gV h s=true:=by unfold nj at o;simp only[aY]at o;exact o.1
  obtain⟨O,_,l,_⟩:=BR m;have f:=JA (tA O) (fun x a=>(KG O x a).2) (jc (lL h.entries s) s) h.up.length (bK _);have n:=Dp h (jc (lL h.entries s) s) h.up.length;exact H.logged (g:=kD h s) rfl l rfl H.er n.1 f (by show(dc h _ _).2.length<=_;omega) (by show h.shut.length<=_;omega) (by simp[jj])
 ·exact H
def aEU(l:List ByteArray)(s:ByteArray):(jc l s).length<=l.length+1:=al4 l s
def azm{h g:Host}{s:ByteArray}(a:∀p∈g.parts,dw p=true)(d:∀x∈g.up,cD g x<g.parts.length):(kD g s).parts.length=g.parts.length/\(∀p∈(kD g s).parts,dw p=true)/\(kD g s).up.length<=g.up.length :=
 ⟨(Dp g _ _).1,JA a d _ _ (bK _),(Dp g _ _).2⟩
def axZ{h:Host}(H:HW h)(s:ByteArray)(x:Call):HW (ox h s x).1:=by
 unfold ox;split
 ·exact H
 rename_i h1;split
 ·exact H
 simp only;split
 ·exact H
 have hm:gV h s=true:=by
  cases e:gV h s with
  |true=>rfl
  |false=>exact absurd (.inl e) h1
 obtain⟨hO,_,hl,hi⟩:=BR hm;obtain⟨q,hq⟩:∃q,fX (nth h.parts (cD h s)) x=q:=⟨_,rfl⟩;rw[hq];have hq1:dw q.1=true:=by rw[<-hq];exact(MK (tA hO _ (gF hi)) x).1
 have hg:=VD (i:=cD h s) (tA hO) hq1;split
 ·obtain⟨f1,f2,f3⟩:=azm (h:=h) (g:={h with parts:=h.parts.set (cD h s) q.1}) (s:=s) hg fun y hy=>by show(cN h.entries y).toNat<(h.parts.set (cD h s) q.1).length;rw[vc];exact(KG hO y hy).2
  refine H.logged (g:={kD {h with parts:=h.parts.set (cD h s) q.1} s with shut:=jc h.shut s}) rfl hl rfl H.er (by show(kD _ _).parts.length=_;rw[f1];simp) f2 (by show(kD _ _).up.length<=_;exact dV f3 (by simp)) (aEU _ _) (by simp)
 ·exact H.logged (g:={h with parts:=h.parts.set (cD h s) q.1}) rfl hl rfl H.er (by simp) hg (by simp) (by simp) (by simp)
def aAs(H:HW h)(s:ByteArray):HW (uy h s).1:=by
 unfold uy;split
 ·exact H
 rename_i a;split
 ·exact H
 simp only;have m:gV h s=true:=by simpa using a
 obtain⟨O,_,l,i⟩:=BR m;refine H.logged (g:={h with parts:=_,shut:=_}) rfl l rfl H.er (by simp) (VD (tA O) (Vz ?_ _)) (by simp) (dV (Yy _ _) (by simp)) (by simp[jj]);split
 ·exact(MK (tA O _ (gF i)) _).1
 ·refine(US ?_).1;exact(H.er _ (gF (by rw[<-O.len];exact i))).1
def aGW{s:ByteArray}(O:uS h)(i:cD h s<h.parts.length)(a:jq r=true):dw (Kx h s r)=true:=by
 have d:dw (if cm (fg (nth (nth h.entries (cD h s)).recipe 0)) 2&&cm (fg (nth r 0)) 2 then {(dX r).1 with core:={(dX r).1.core with cells:=(nth h.parts (cD h s)).core.cells}} else(dX r).1)=true:=by
  split
  ·rename_i o;simp only[aY]at o;exact aCN a (rU.1 (pK.1 (tA O _ (gF i))).1).2.1 o.2
  ·exact(US a).1
 unfold Kx;simp only;split
 ·exact Vz d _
 ·exact d
def aGX(H:HW h)(s:ByteArray)(r:List ByteArray):HW (rD h s r):=by
 unfold rD;split
 ·rename_i o;have m:gV h s=true/\jq r=true:=by unfold rE at o;simp only[aY]at o;exact o.1.1.1
  obtain⟨O,_,l,i⟩:=BR m.1;have a:=(acK m.2).1;refine H.logged (g:={h with entries:=BV h s r,parts:=h.parts.set (cD h s) (Kx h s r)}) rfl l (by simp[BV]) (VD H.er ⟨m.2,?_⟩) (by simp) (VD (tA O) (aGW O i m.2)) (by simp) (by simp) (by simp only;omega);exact(H.er _ (gF (by rw[<-O.len];exact i))).2
 ·exact H
def aER(H:HW h)(e:Event):HW (xD h e).1:=by
 unfold xD;split
 ·exact aGO H _
 split
 ·exact aGP H _
 split
 ·exact axZ H _ _
 split
 ·exact aAs H _
 ·exact aGX H _ _
def DB(l:List Entry)(ps:List Part):Host:=⟨l,ps,[],[],[]⟩
def GJ(l:List Entry):Bool:=cG l&&decide ((pP l).length=0)
def partsOf(l:List Entry):List Part:=l.map fun e=>(dX e.recipe).1
def Kh(l:List Entry):List Entry:=if GJ l then l else []
def Ki(l:List Entry):List Part:=if GJ l then partsOf l else []
def aEN{k:Nat}(h:k<l.length):(partsOf l).take (k+1)=(partsOf l).take k++[(dX (nth l k).recipe).1]:=by rw[Ma];congr 1;simp[partsOf,nth,h]
def axw(l:List Entry)(d:l.length<=1048576)(i:∀e∈l,e.fit):dN az 30 none [ak l] (.aU [enc (DB (Kh l) (Ki l)),.bool (GJ l)]) [] [(0,5),(1,6),(2,1),(3,1),(4,7)]:=by
 refine gu apA aIN ⟨mL l,trivial⟩ fun f=> ?_;unfold apA;refine aH (Jb l) ?_;refine aH (aG.fZ (Sz l)) ?_;apply aj<;>intro h<;>simp only[eS]at h
 ·have o:GJ l=false:=by
   unfold GJ;simp at h;rcases h with h|h
   ·simp[h]
   ·simp;intro _ a;rw[a]at h;simp at h
  refine ay ?_;simp only[eS];simp[Kh,Ki,o,DB,enc,bo,ak]
 have o:GJ l=true:=by unfold GJ;simp at h;rw[h.1];simpa using h.2
 refine fD (ag8 l d i) (hty:=mL _) ?_;refine cU l.length (fun k=>[.int .i64 k,ak l,ak ((partsOf l).take k),ak ([]:List ByteArray),ak ([]:List ByteArray),ak ([]:List Event)]) (fun _=>True) (by simp only[eS];rfl) trivial ?_;intro k j _ _;simp only[cA];apply aj<;>intro a<;>simp only[eS]at a
 ·have a:k<l.length:=by simpa using a
  refine dK ?_;refine fD (Sy (nth l k).recipe) (hty:=⟨jS _,wG _,trivial⟩) ?_;refine aQ (fun _=> ?_) ?_
  ·simp only[eS];simp[ak];omega
  refine cJ a ?_ trivial;rw[aEN a];simp only[eS];rw[bF];simp[ak]
 ·obtain rfl:k=l.length:=by simp at a;omega
  have t:(partsOf l).take l.length=partsOf l:=AW (by simp[partsOf]);rw[t];refine ay ?_;simp only[eS];simp[Kh,Ki,o,DB,enc,bo,ak]
def axT(h:Host)(e:Event)(j:ny h)(hx:e.call.text.size<4294967281)(r:e.recipe.length<=1000):aG az 65 none [enc h,enc e] (.aU [enc (xD h e).1,.bool (xD h e).2]) []:=by
 refine bZ aqy aJJ ⟨pT h,Cp e,trivial⟩ fun t=> ?_;unfold aqy;apply aj<;>intro a<;>simp only[eS,tj]at a
 ·have a:e.kind=1:=by simpa using a
  refine aH (axF h e.name j) (hty:=⟨pT _,trivial,trivial⟩) ?_;refine ay ?_;simp only[eS];unfold xD;rw[aD a]
 have a:e.kind≠1:=by simpa using a
 apply aj<;>intro d<;>simp only[eS,tj]at d
 ·have d:e.kind=2:=by simpa using d
  refine aH (ag4 h e.name j) (hty:=⟨pT _,trivial,trivial⟩) ?_;refine ay ?_;simp only[eS];unfold xD;rw[aw a,aD d]
 have d:e.kind≠2:=by simpa using d
 apply aj<;>intro f<;>simp only[eS,tj]at f
 ·have f:e.kind=3:=by simpa using f
  refine aH (axR h e.name e.call hx j) (hty:=⟨pT _,wG _,trivial,trivial⟩) ?_;refine ay ?_;simp only[eS];unfold xD;rw[aw a,aw d,aD f]
 have f:e.kind≠3:=by simpa using f
 apply aj<;>intro i<;>simp only[eS,tj]at i
 ·have i:e.kind=4:=by simpa using i
  refine aH (axp h e.name j) (hty:=⟨pT _,wG _,trivial⟩) ?_;refine ay ?_;simp only[eS,A7];unfold xD;rw[aw a,aw d,aw f,aD i];rfl
 have i:e.kind≠4:=by simpa using i
 refine aH (axG h e.name e.recipe r j) (hty:=⟨pT _,trivial,trivial⟩) ?_;refine ay ?_;simp only[eS];unfold xD;rw[aw a,aw d,aw f,aw i]
def ace(r:cG l=true):HW (DB (Kh l) (Ki l)):=by
 unfold Kh Ki;split
 ·have m:=qt r;have h:∀e∈l,jq e.recipe=true/\e.needs.length<=3:=fun e h=>by obtain⟨i,n,rfl⟩:=L0.1 h;have d:=m.2 i n;unfold mB at d;simp only[aY]at d;have a:=d.1;rw[show nth l i=l[i] by rw[nth,List.getD,bX n];rfl]at a;unfold mR at a;simp only[aY,dr]at a;exact⟨a.1.1.1.1,a.1.2⟩
  refine⟨m.1,by show(partsOf l).length=l.length;simp[partsOf],h,fun p f=> ?_,fO _,fO _,fO _,fun e h=>(by cases h)⟩;obtain⟨e,j,rfl⟩:=fN.1 (show p∈l.map fun e=>(dX e.recipe).1 from f);exact(US (h e j).1).1
 ·exact⟨fO _,rfl,fun e h=>(by cases h),fun p f=>(by cases f),fO _,fO _,fO _,fun e h=>(by cases h)⟩
end
end Go.Proofs.YtoomhbopolalnaaGreatDoor
