/- Contract: a call of a part in the reference (spec.CallPart). -/
import Derived.Test.YtoomhbopolalnabGreatDoorT20
import Derived.Deep.Upon
set_option linter.all false
set_option maxRecDepth 100000
namespace Go.Proofs.YtoomhbopolalnabGreatDoor
variable {M:Addr->Prop}{l:List ByteArray}{cap g m:Nat}{N:Nat->Prop}{x y:Operand}{P:Program}{T e t:TypeId}{i:TypeInfo}{A B S b f p r v ve vp vs vu z:Value}{a w:World}
section
open Go.RowKit Go
variable [GC]
def lF.own{K:Nat->Prop}{l:List (ByteArray×Int)}(h:lF K w g S l):lF (fun b=>dV S b) w g S l:=by obtain⟨a,cap,rfl,f,i,k,p,q⟩:=h;refine⟨a,cap,rfl,f,i,k,p,fun b o s e c=> ?_⟩;obtain⟨q1,q2,q3,q4⟩:=q b o s e c;exact⟨q1,⟨o,s,_,cap,by rw[e],c⟩,q3,q4⟩
def awp{l c:World}{p:Part}{k:Value}(H:PB (fun b=>l.heap.size<=b/\b<c.heap.size) c g k p)(r:lF (fun b=>l.heap.size<=b/\b<c.heap.size) c g S (GQ p.core.cells))(ha:∀b,dV S b->¬dV k b)(y:l.heap.size<=c.heap.size) :
  PV (fun b=>dV k b) (fun b=>b<l.heap.size\/dV k b\/b=g) c S k p:=by
 have x:=H.glt;refine⟨H.gi,fun b a=>(H.kb b (H.ly.out a).1).1,fun b a=>.inr (.inl a),fun b a=> ?_,?_,⟨g,H.ly.own⟩,H.ks,H.ct⟩
 ·rcases a with a|a|rfl
  ·omega
  ·exact(H.ly.out a).1.2
  ·exact x
 ·show R c _ (.sl (p.core.cells.map aB.cells)) S;rw[<-amM];refine r.rd fun b o cap i e z A q=> ?_;have f:dV S b:=by obtain⟨B,t,s,C,_⟩:=r;rw[e]at s;simp only[fE]at s;exact⟨o,none,_,cap,e,by have:=s.2.2;omega⟩
  rcases q with q|q|q
  ·have:=(r.out f).1.1;simp only at q;omega
  ·exact ha b f q
  ·exact(r.out f).2.1 q
def Ty{K:Nat->Prop}{k:World}{c:Value}{q:Part}{r:gH}{e:Ending}(f:ek w M)(H:PV K N k S c q)(l:∀b,K b->w.heap.size<=b)(s:∀b,b<w.heap.size->N b)(F:dr K w k)(t:e=.returned (.tuple #[.agg (dE q S c),.agg (fN r)]))(x:R k M (enc r) (anl r)) :
  ∃v,e=.returned v/\R k M (.aU [enc q,enc r]) v/\Below w.heap.size w k:=by
 subst t;obtain⟨g,y⟩:=H.ly;have z:R k M (aj q.core.cells) S:=R.less H.cs fun a A=>s _ (f.1 a A);have p:R k M (.sl ((qD q.ak).map uI)) c:=y.rd fun b o cap i _ B _ C=>by have:=f.1 _ C;have:=l b B;simp only at *;omega
 rw[amO]at p;exact⟨_,rfl,⟨_,rfl,⟨_,_,rfl,⟨_,rfl,⟨_,_,rfl,⟨rfl,H.ks⟩,_,_,rfl,rfl,_,_,rfl,rfl,_,_,rfl,z,_,_,rfl,⟨rfl,H.ct⟩,_,_,rfl,p,rfl⟩⟩,_,_,rfl,x,rfl⟩⟩,F.Eg (bM _) l⟩
set_option maxHeartbeats 8000000 in
def ZU(p:Part)(x:Call)(hc:p.core.cells.length<=4294967296)(hl:p.ak.length<=4294967296)(hx:x.text.size<4294967281):aH az 105 none [enc p,enc x] (.aU [enc (gJ p x).1,enc (gJ p x).2]) []:=by
 refine CO (by kernel_rfl) fun w M vs hM hr=> ?_;obtain⟨vp,q,rfl,hp,vx,q',rfl,JV,rfl⟩:=hr;obtain⟨hvx,hxm,hxk,vU⟩:=Z3 JV;subst hvx;have hfits:Ib x:=⟨hxm,hxk,vU,hx⟩;obtain⟨S1,S2,uB, -, -,hks,hct⟩:=DW hp;have HW:=show Below w.heap.size w ((((w.alloc (.cells (dE p S1 S2) 87)).alloc (.cells #[.string x.method,.string x.key,.int .i64 x.val,.string x.text] 31)).alloc (.cells jK 87)).alloc (.cells eW 102)) by go_grown
 have hsz:((((w.alloc (.cells (dE p S1 S2) 87)).alloc (.cells #[.string x.method,.string x.key,.int .i64 x.val,.string x.text] 31)).alloc (.cells jK 87)).alloc (.cells eW 102)).heap.size=w.heap.size+1+1+1+1:=by simp only[gb]
 have p0:=show aA ((((w.alloc (.cells (dE p S1 S2) 87)).alloc (.cells #[.string x.method,.string x.key,.int .i64 x.val,.string x.text] 31)).alloc (.cells jK 87)).alloc (.cells eW 102)) w.heap.size 87 (dE p S1 S2)from(((aA.new w _ _).alloc _).alloc _).alloc _;have p1:=show aA ((((w.alloc (.cells (dE p S1 S2) 87)).alloc (.cells #[.string x.method,.string x.key,.int .i64 x.val,.string x.text] 31)).alloc (.cells jK 87)).alloc (.cells eW 102)) (w.heap.size+1) 31 #[.string x.method,.string x.key,.int .i64 x.val,.string x.text] by have:=(aA.new (w.alloc (.cells (dE p S1 S2) 87)) 31 #[.string x.method,.string x.key,.int .i64 x.val,.string x.text]);simp only[gb]at this;exact(this.alloc _).alloc _
 have p2:=show aA ((((w.alloc (.cells (dE p S1 S2) 87)).alloc (.cells #[.string x.method,.string x.key,.int .i64 x.val,.string x.text] 31)).alloc (.cells jK 87)).alloc (.cells eW 102)) (w.heap.size+1+1) 87 jK by have:=(aA.new ((w.alloc (.cells (dE p S1 S2) 87)).alloc (.cells #[.string x.method,.string x.key,.int .i64 x.val,.string x.text] 31)) 87 jK);simp only[gb]at this;exact this.alloc _
 have p3:=show aA ((((w.alloc (.cells (dE p S1 S2) 87)).alloc (.cells #[.string x.method,.string x.key,.int .i64 x.val,.string x.text] 31)).alloc (.cells jK 87)).alloc (.cells eW 102)) (w.heap.size+1+1+1) 102 eW by have:=(aA.new (((w.alloc (.cells (dE p S1 S2) 87)).alloc (.cells #[.string x.method,.string x.key,.int .i64 x.val,.string x.text] 31)).alloc (.cells jK 87)) 102 eW);simp only[gb]at this;exact this
 have l9:=R.keep (bQ.below (M':=M) HW fun _ _ h=>h) _ _ hp;have hxa:=R.keep (bQ.below (M':=M) HW fun _ _ h=>h) _ _ JV;have Nt:=hM.below HW (M':=M) fun q hq=>dS (hM.1 q hq) HW.size;subst uB;refine pH (E:=[(0,.agg (dE p S1 S2)),(1,lJ x)]) Tryz.func105 rfl Tryz.ntmps105 (by simp) (by simp[dE]) ?_;refine aO ?_;refine ah uG ?_;refine ah uG ?_;refine ah (eQ rfl rm) ?_;refine ah (eQ rfl mJ) ?_;refine bn ?_;show CW _ az _ _ _ ((((w.alloc (.cells (dE p S1 S2) 87)).alloc (.cells #[.string x.method,.string x.key,.int .i64 x.val,.string x.text] 31)).alloc (.cells jK 87)).alloc (.cells eW 102));refine CW.sub (E':=[(2,PH w.heap.size),(3,PH (w.heap.size+1)),(4,PH (w.heap.size+1+1)),(5,PH (w.heap.size+1+1+1))]) ⟨rfl,by simp only[gb];rfl,by simp only[gb];rfl,by simp only[gb];rfl,trivial⟩ ?_;generalize ((((w.alloc (.cells (dE p S1 S2) 87)).alloc (.cells #[.string x.method,.string x.key,.int .i64 x.val,.string x.text] 31)).alloc (.cells jK 87)).alloc (.cells eW 102))=wa at HW hsz p0 p1 p2 p3 l9 hxa Nt ⊢;refine aO ?_;refine ah (bF dF p0 cy) ?_;refine dD ((Z0 p hc hl).2 wa M 0 [.agg (dE p S1 S2)] Nt ⟨_,[],rfl,l9,rfl⟩ (fun cs h=>by cases h)) ?_;rintro _ v5 ⟨v,rfl,hv,NP,eY, -⟩;obtain⟨T1,Q,rfl,hT1,kz, -, -⟩:=DW hv;refine⟨_,rfl,?_⟩;have hb5:=NP.Eg;obtain⟨⟨a1,n1,c1,e1⟩,⟨a2,m2,c2,e2⟩⟩:(∃a n c,T1=.slice a n c)/\(∃a c m,Q=.slice a c m):=by obtain⟨a,n,c,e,_⟩:=hT1;obtain⟨a',n',c',e',_⟩:=kz;exact⟨⟨a,n,c,e⟩,⟨a',n',c',e'⟩⟩
 have hn2:m2=p.ak.length:=by obtain⟨a',n',c',e',h,_⟩:=kz;rw[e2]at e';simp only[fE]at e';rw[e'.2.1,h];simp[aj]
 have hone:=ac9 p (a1:=a1) (n1:=n1) (c1:=c1) (a2:=a2) (n2:=m2) (c2:=c2);rw[<-e1, <-e2]at hone;subst hn2;refine ah (eQ rfl rm) ?_;refine bW rfl (cs:=dE p T1 Q) rfl (show aA (v5.alloc (.cells jK 87)) v5.heap.size 87 jK from aA.new v5 _ _) hone cy fun w6 R6 O6=> ?_;have Tl:Below v5.heap.size v5 w6:=MA O6;have hz6:v5.heap.size<w6.heap.size:=R6.lt;have hf:∀(S:Value) (d:D),R v5 (fun q=>M q\/rR (.agg (dE p T1 Q)) [(3,2),(5,2)] q) d S->R v5 (fun _=>False) d S:=fun S d h=>R.less h fun _ h=>h.elim;obtain⟨H6,k1,ha⟩:=awo Nt hb5 (hf _ _ hT1) (hf _ _ kz) (eY.1 (3,2) (by simp)) (eY.1 (5,2) (by simp)) (eY.2 0 1 (3,2) (5,2) rfl rfl (by simp)) hks hct R6 Tl hz6;have kU:Below wa.heap.size wa w6:=bt hb5 Tl;replace p0:=p0.below kU p0.lt;replace p1:=p1.below kU p1.lt;replace p2:=p2.below kU p2.lt;replace p3:=p3.below kU p3.lt;have A:=R.keep (bQ.below (M':=M) kU fun _ _ h=>h) _ _ l9;have B:=R.keep (bQ.below (M':=M) kU fun _ _ h=>h) _ _ hxa;have G:=Nt.below kU (M':=M) fun q hq=>dS (Nt.1 q hq) kU.size;have hBw:Below w.heap.size w w6:=bt HW kU;refine bn ?_;generalize v5.heap.size=g at *;refine CW.sl [2,3,4,5,6] ?_;have H:=awp H6 k1 ha kU.size;have JA:∀b,dV Q b->w.heap.size<=b:=fun b hb=>by have:=(H6.ly.out hb).1.1;have:=HW.size;omega
 have Nu:∀b,b<wa.heap.size->¬dV Q b:=fun b hb ho=>by have:=(H6.ly.out ho).1.1;omega
 have hgK:¬dV Q g:=fun ho=>(H6.ly.out ho).2.1 rfl;have hNG:=hM.2.2;have hgg:wa.heap.size<=g:=H6.kg.1;have l:MB (fun b=>dV Q b) (fun b=>b<wa.heap.size\/dV Q b\/b=g) w6 w.heap.size 87 (dE p S1 S2):=⟨p0,.inl (by omega),Nu _ (by omega),by omega⟩;have k:MB (fun b=>dV Q b) (fun b=>b<wa.heap.size\/dV Q b\/b=g) w6 (w.heap.size+1) 31 _:=⟨p1,.inl (by omega),Nu _ (by omega),by omega⟩;have f:MB (fun b=>dV Q b) (fun b=>b<wa.heap.size\/dV Q b\/b=g) w6 (w.heap.size+1+1) 87 jK:=⟨p2,.inl (by omega),Nu _ (by omega),by omega⟩;have i:MB (fun b=>dV Q b) (fun b=>b<wa.heap.size\/dV Q b\/b=g) w6 (w.heap.size+1+1+1) 102 eW:=⟨p3,.inl (by omega),Nu _ (by omega),by omega⟩;have r:MB (fun b=>dV Q b) (fun b=>b<wa.heap.size\/dV Q b\/b=g) w6 g 87 (dE p T1 Q):=⟨R6,.inr (.inr rfl),hgK,by omega⟩;have Ij:∀b,b<w.heap.size->(b<wa.heap.size\/dV Q b\/b=g):=fun b hb=>.inl (by omega);have F:dr (fun b=>dV Q b) w w6:=dr.below hBw;generalize hNe:(fun b=>b<wa.heap.size\/dV Q b\/b=g)=N at H l k f i r;replace Ij:∀b,b<w.heap.size->N b:=by rw[<-hNe];exact Ij
 clear hNe;generalize hKe:(fun b=>dV Q b)=K at H l k f i r F;replace JA:∀b,K b->w.heap.size<=b:=by rw[<-hKe];exact JA
 clear hKe;clear H6 k1 ha Nu hgK p0 p1 p2 p3 R6 hBw HW hone;refine CW.seq (aO ?_);refine ah (bF dF l.bl cy) ?_;refine dD ((ZY p).calls (M:=M) G ⟨_,[],rfl,A,rfl⟩) ?_;rintro _ w1 ⟨vw1,rfl,akQ,C⟩;refine⟨_,rfl,?_⟩;obtain⟨rfl, -⟩:vw1=.bool (dC p)/\True:=⟨akQ,trivial⟩;clear akQ;replace H:=H.below C;replace F:=F.jv C;replace l:=l.below C;replace k:=k.below C;replace f:=f.below C;replace i:=i.below C;replace r:=r.below C;have aMv:=C.size;replace A:=R.keep (bQ.below (M':=M) C fun _ _ h=>h) _ _ A;replace B:=R.keep (bQ.below (M':=M) C fun _ _ h=>h) _ _ B;replace G:=G.below C (M':=M) fun q hq=>dS (G.1 q hq) C.size;refine ah qE ?_;refine ah aI ?_;cases tv:dC p with
 |false=>
  refine dO (b:=true) ?_;refine dO (b:=true) ?_;refine dO (b:=true) ?_;refine ah (nu rfl rfl rfl) ?_;refine WL.nil (aL (eC ?_));refine CW.sl [4,5,6] ?_;refine aO ?_;refine ah (bF dF r.bl cy) ?_;refine ah (kF (vs:=[(0,.int .i64 7)]) (ZB _)) ?_;refine bW rfl rfl f.bl H.iU cy fun w2 Rw2 ES=> ?_;replace H:=H.one ES f.n f.k f.g;replace F:=F.one ES (.inr (by omega));replace l:=l.other ES (by omega);replace k:=k.other ES (by omega);replace i:=i.other ES (by omega);replace r:=r.other ES (by omega);replace f:=f.put Rw2;have alw:=lH ES.size.symm;refine bW rfl rfl i.bl (jI _) cz fun w3 Rw3 ET=> ?_;replace H:=H.one ET i.n i.k i.g;replace F:=F.one ET (.inr (by omega));replace l:=l.other ET (by omega);replace k:=k.other ET (by omega);replace f:=f.other ET (by omega);replace r:=r.other ET (by omega);replace i:=i.put Rw3;have alx:=lH ET.size.symm;refine WL.nil (aL (CW.ret ?_));have e:gJ p x=(p,(rep 7 0 0 0)):=by unfold gJ;rw[aC (.inl tv)]
  rw[e];exact NX.ret (zu rfl rfl rfl f.bl i.bl dF gC rfl rfl cy cz (Ty (q:=p) (r:=(rep 7 0 0 0)) hM H JA Ij F rfl (VX (r:=rep 7 0 0 0) (show IntKind.i64.min<=(7:Int)/\(7:Int)<=IntKind.i64.max by decide) (show IntKind.i64.min<=(0:Int)/\(0:Int)<=IntKind.i64.max by decide) (by decide) (show IntKind.i64.min<=(0:Int)/\(0:Int)<=IntKind.i64.max by decide) (show IntKind.i64.min<=(0:Int)/\(0:Int)<=IntKind.i64.max by decide))))
 |true=>
  refine fY (b:=false) (bF ud k.bl uC) ?_;refine wN (b:=false) ((Tm x).calls (M:=M) G ⟨_,[],rfl,B,rfl⟩) ?_;rintro _ w4 ⟨vw4,rfl,akU,I⟩;refine⟨_,rfl,?_⟩;obtain⟨rfl, -⟩:vw4=.bool (gu x)/\True:=⟨akU,trivial⟩;clear akU;replace H:=H.below I;replace F:=F.jv I;replace l:=l.below I;replace k:=k.below I;replace f:=f.below I;replace i:=i.below I;replace r:=r.below I;have aMz:=I.size;replace A:=R.keep (bQ.below (M':=M) I fun _ _ h=>h) _ _ A;replace B:=R.keep (bQ.below (M':=M) I fun _ _ h=>h) _ _ B;replace G:=G.below I (M':=M) fun q hq=>dS (G.1 q hq) I.size;refine fY (b:=false) qE ?_;refine ah (pR rfl rfl rfl) ?_;cases hcc:gu x with
  |false=>
   refine WL.nil (aL (eC ?_));refine CW.sl [4,5,6] ?_;refine aO ?_;refine ah (bF dF r.bl cy) ?_;refine ah (kF (vs:=[(0,.int .i64 7)]) (ZB _)) ?_;refine bW rfl rfl f.bl H.iU cy fun w5 Rw5 EU=> ?_;replace H:=H.one EU f.n f.k f.g;replace F:=F.one EU (.inr (by omega));replace l:=l.other EU (by omega);replace k:=k.other EU (by omega);replace i:=i.other EU (by omega);replace r:=r.other EU (by omega);replace f:=f.put Rw5;have aMG:=lH EU.size.symm;refine bW rfl rfl i.bl (jI _) cz fun w6 YG zw=> ?_;replace H:=H.one zw i.n i.k i.g;replace F:=F.one zw (.inr (by omega));replace l:=l.other zw (by omega);replace k:=k.other zw (by omega);replace f:=f.other zw (by omega);replace r:=r.other zw (by omega);replace i:=i.put YG;have aly:=lH zw.size.symm;refine WL.nil (aL (CW.ret ?_));have e:gJ p x=(p,(rep 7 0 0 0)):=by unfold gJ;rw[aC (.inr hcc)]
   rw[e];exact NX.ret (zu rfl rfl rfl f.bl i.bl dF gC rfl rfl cy cz (Ty (q:=p) (r:=(rep 7 0 0 0)) hM H JA Ij F rfl (VX (r:=rep 7 0 0 0) (show IntKind.i64.min<=(7:Int)/\(7:Int)<=IntKind.i64.max by decide) (show IntKind.i64.min<=(0:Int)/\(0:Int)<=IntKind.i64.max by decide) (by decide) (show IntKind.i64.min<=(0:Int)/\(0:Int)<=IntKind.i64.max by decide) (show IntKind.i64.min<=(0:Int)/\(0:Int)<=IntKind.i64.max by decide))))
  |true=>
   refine WL.nil (aL (CW.no (CW.skip (aL ?_))));refine CW.sl [2,3,4,5,6] ?_;have hwt:IntKind.i64.min<=cg x.method/\cg x.method<=IntKind.i64.max:=by
    obtain⟨j,ew,_⟩:=Vx (MR hcc);rw[ew];have:∀j:Fin 6,IntKind.i64.min<=((2^j.val:Nat):Int)/\((2^j.val:Nat):Int)<=IntKind.i64.max:=by decide
    exact this j
   have hfl:IntKind.i64.min<=((fq p:Nat):Int)/\((fq p:Nat):Int)<=IntKind.i64.max:=by
    have:=aiO p;have e1:IntKind.i64.min= -9223372036854775808/\IntKind.i64.max=9223372036854775807:=by decide
    rw[e1.1,e1.2];omega
   refine CW.seq (CW.seq (CW.any (fun W=>aA W w.heap.size 87 (dE p S1 S2)/\aA W (w.heap.size+1) 31 #[.string x.method,.string x.key,.int .i64 x.val,.string x.text]) 6 mo fun w7 hwd J=> ?_));replace H:=H.below J;replace F:=F.jv J;replace l:=l.below J;replace k:=k.below J;replace f:=f.below J;replace i:=i.below J;replace r:=r.below J;have aMA:=J.size;replace A:=R.keep (bQ.below (M':=M) J fun _ _ h=>h) _ _ A;replace B:=R.keep (bQ.below (M':=M) J fun _ _ h=>h) _ _ B;replace G:=G.below J (M':=M) fun q hq=>dS (G.1 q hq) J.size;clear hwd;refine⟨⟨l.bl,k.bl⟩,?_⟩;refine bf 0 rfl (fun W hW=>bF dF hW.1 cy) ⟨l.bl,k.bl⟩ ?_;refine bf 2 rfl (fun W hW=>br vJ) ⟨l.bl,k.bl⟩ ?_;refine bf 3 rfl (fun W hW=>bz iz (v:=.string x.method) ((hW.2.cell 0).trans rfl)) ⟨l.bl,k.bl⟩ ?_;refine qK 1 rfl ((Bb p).calls (M:=M) G ⟨_,[],rfl,A,rfl⟩) ?_;rintro _ w8 ⟨vw8,rfl,akV,L⟩;obtain⟨rfl, -⟩:vw8=.int .i64 ((fq p:Nat):Int)/\True:=⟨akV.1,trivial⟩;clear akV;replace H:=H.below L;replace F:=F.jv L;replace l:=l.below L;replace k:=k.below L;replace f:=f.below L;replace i:=i.below L;replace r:=r.below L;have aDR:=L.size;replace A:=R.keep (bQ.below (M':=M) L fun _ _ h=>h) _ _ A;replace B:=R.keep (bQ.below (M':=M) L fun _ _ h=>h) _ _ B;replace G:=G.below L (M':=M) fun q hq=>dS (G.1 q hq) L.size;refine⟨_,rfl,fun _=>⟨l.bl,k.bl⟩,?_⟩;refine qK 4 rfl ((Fy x.method).calls (M:=M) G ⟨_,[],rfl,⟨rfl,hxm⟩,rfl⟩) ?_;rintro _ w9 ⟨vw9,rfl,akW,O⟩;obtain⟨rfl, -⟩:vw9=.int .i64 (cg x.method)/\True:=⟨akW.1,trivial⟩;clear akW;replace H:=H.below O;replace F:=F.jv O;replace l:=l.below O;replace k:=k.below O;replace f:=f.below O;replace i:=i.below O;replace r:=r.below O;have aMB:=O.size;replace A:=R.keep (bQ.below (M':=M) O fun _ _ h=>h) _ _ A;replace B:=R.keep (bQ.below (M':=M) O fun _ _ h=>h) _ _ B;replace G:=G.below O (M':=M) fun q hq=>dS (G.1 q hq) O.size;refine⟨_,rfl,fun _=>⟨l.bl,k.bl⟩,?_⟩;refine qK 5 rfl ((wW (fq p) (cg x.method)).calls (M:=M) G ⟨_,_,rfl,⟨rfl,hfl⟩,_,[],rfl,⟨rfl,hwt⟩,rfl⟩) ?_;rintro _ xZ ⟨aKF,rfl,akR,s⟩;obtain⟨rfl, -⟩:aKF=.bool (cw (fq p) (cg x.method))/\True:=⟨akR,trivial⟩
   clear akR;replace H:=H.below s;replace F:=F.jv s;replace l:=l.below s;replace k:=k.below s;replace f:=f.below s;replace i:=i.below s;replace r:=r.below s;have aMw:=s.size;replace A:=R.keep (bQ.below (M':=M) s fun _ _ h=>h) _ _ A;replace B:=R.keep (bQ.below (M':=M) s fun _ _ h=>h) _ _ B;replace G:=G.below s (M':=M) fun q hq=>dS (G.1 q hq) s.size;refine⟨_,rfl,fun _=>⟨l.bl,k.bl⟩,?_⟩;refine gP 6 rfl qE (fun h=>absurd rfl h) ?_;cases UM:cw (fq p) (cg x.method)with
   |false=>
    refine iH (by kernel_rfl) (aL (eC ?_));refine CW.sl [2,3,4,5,6] ?_;refine CW.seq (CW.any (fun W=>aA W g 87 (dE p T1 Q)/\aA W (w.heap.size+1) 31 #[.string x.method,.string x.key,.int .i64 x.val,.string x.text]/\aA W w.heap.size 87 (dE p S1 S2)) 8 mo fun LK hwd t=> ?_);replace H:=H.below t;replace F:=F.jv t;replace l:=l.below t;replace k:=k.below t;replace f:=f.below t;replace i:=i.below t;replace r:=r.below t;have aMx:=t.size;replace A:=R.keep (bQ.below (M':=M) t fun _ _ h=>h) _ _ A;replace B:=R.keep (bQ.below (M':=M) t fun _ _ h=>h) _ _ B;replace G:=G.below t (M':=M) fun q hq=>dS (G.1 q hq) t.size;clear hwd;refine⟨⟨r.bl,k.bl,l.bl⟩,?_⟩;refine bf 0 rfl (fun W hW=>bF dF hW.1 cy) ⟨r.bl,k.bl,l.bl⟩ ?_;refine bf 1 rfl (fun W hW=>br vJ) ⟨r.bl,k.bl,l.bl⟩ ?_;refine bf 2 rfl (fun W hW=>bz iz (v:=.string x.method) ((hW.2.1.cell 0).trans rfl)) ⟨r.bl,k.bl,l.bl⟩ ?_;refine bf 4 rfl (fun W hW=>bF dF hW.2.2 cy) ⟨r.bl,k.bl,l.bl⟩ ?_;refine qK 3 rfl ((Fy x.method).calls (M:=M) G ⟨_,[],rfl,⟨rfl,hxm⟩,rfl⟩) ?_;rintro _ w12 ⟨aKG,rfl,akS,y⟩;obtain⟨rfl, -⟩:aKG=.int .i64 (cg x.method)/\True:=⟨akS.1,trivial⟩;clear akS;replace H:=H.below y;replace F:=F.jv y;replace l:=l.below y;replace k:=k.below y;replace f:=f.below y;replace i:=i.below y;replace r:=r.below y;have aMy:=y.size;replace A:=R.keep (bQ.below (M':=M) y fun _ _ h=>h) _ _ A;replace B:=R.keep (bQ.below (M':=M) y fun _ _ h=>h) _ _ B;replace G:=G.below y (M':=M) fun q hq=>dS (G.1 q hq) y.size;refine⟨_,rfl,fun _=>⟨r.bl,k.bl,l.bl⟩,?_⟩;refine qK 5 rfl ((Bb p).calls (M:=M) G ⟨_,[],rfl,A,rfl⟩) ?_;rintro _ w13 ⟨aKH,rfl,akT,z⟩;obtain⟨rfl, -⟩:aKH=.int .i64 ((fq p:Nat):Int)/\True:=⟨akT.1,trivial⟩;clear akT;replace H:=H.below z;replace F:=F.jv z;replace l:=l.below z;replace k:=k.below z;replace f:=f.below z;replace i:=i.below z;replace r:=r.below z;have aDQ:=z.size;replace A:=R.keep (bQ.below (M':=M) z fun _ _ h=>h) _ _ A;replace B:=R.keep (bQ.below (M':=M) z fun _ _ h=>h) _ _ B;replace G:=G.below z (M':=M) fun q hq=>dS (G.1 q hq) z.size;refine⟨_,rfl,fun _=>⟨r.bl,k.bl,l.bl⟩,?_⟩
    refine bf 6 rfl (fun W hW=>kF (vs:=[(0,.int .i64 1),(3,.int .i64 (cg x.method)),(4,.int .i64 ((fq p:Nat):Int))]) (axA 1 _ _)) ⟨r.bl,k.bl,l.bl⟩ ?_;refine iQ 7 rfl rfl f.bl H.iU cy (fun w' ho _=>⟨(ho.block _ (by omega)).trans r.bl,(ho.block _ (by omega)).trans k.bl,(ho.block _ (by omega)).trans l.bl⟩) fun Yh YE V=> ?_;replace H:=H.one V f.n f.k f.g;replace F:=F.one V (.inr (by omega));replace l:=l.other V (by omega);replace k:=k.other V (by omega);replace i:=i.other V (by omega);replace r:=r.other V (by omega);replace f:=f.put YE;have aDU:=lH V.size.symm;refine iQ 8 rfl rfl i.bl (jI _) cz (fun _ _ h=>absurd rfl h) fun w15 YF X=> ?_;replace H:=H.one X i.n i.k i.g;replace F:=F.one X (.inr (by omega));replace l:=l.other X (by omega);replace k:=k.other X (by omega);replace f:=f.other X (by omega);replace r:=r.other X (by omega);replace i:=i.put YF;have aDV:=lH X.size.symm;refine iH (by kernel_rfl) (aL (CW.ret ?_));have e:gJ p x=(p,(rep 1 0 (cg x.method) ((fq p:Nat):Int))):=by unfold gJ;rw[aw (by simp[tv,hcc]),aC UM]
    rw[e];exact NX.ret (zu rfl rfl rfl f.bl i.bl dF gC rfl rfl cy cz (Ty (q:=p) (r:=(rep 1 0 (cg x.method) ((fq p:Nat):Int))) hM H JA Ij F rfl (VX (r:=rep 1 0 (cg x.method) (fq p)) (show IntKind.i64.min<=(1:Int)/\(1:Int)<=IntKind.i64.max by decide) (show IntKind.i64.min<=(0:Int)/\(0:Int)<=IntKind.i64.max by decide) (show cL.size<=maxLen by unfold maxLen;decide) hwt hfl)))
   |true=>
    refine iH (by kernel_rfl) (aL (CW.no (CW.skip (aL ?_))));refine CW.sl [3,4,5,6] ?_;refine aO ?_;refine ah (bF dF r.bl cy) ?_;refine ah (br Bm) ?_;refine ah (bz zE (v:=.slice a2 p.ak.length c2) (by rw[<-e2];exact(r.bl.cell 5).trans rfl)) ?_;refine ah (yV rfl rfl rfl rfl zE rfl) ?_;refine ah (bF ud k.bl uC) ?_;refine dD (aaj p.ak.length K N _ T1 Q p x H hfits tv hcc (bM _) UM) ?_;rintro _ w16 ⟨U,rfl,H',hf⟩;refine⟨_,rfl,?_⟩;replace H:=H';clear H';replace F:=F.Pt hf;replace l:=l.oM hf;replace k:=k.oM hf;replace f:=f.oM hf;replace i:=i.oM hf;replace r:=r.oM hf;have aMC:=hf.size;refine ah fG ?_;refine ah fG ?_;refine bW rfl rfl f.bl H.iU cy fun wa' aw4 Y=> ?_;replace H:=H.one Y f.n f.k f.g;replace F:=F.one Y (.inr (by omega));replace l:=l.other Y (by omega);replace k:=k.other Y (by omega);replace i:=i.other Y (by omega);replace r:=r.other Y (by omega);replace f:=f.put aw4;have aMI:=lH Y.size.symm;refine bW rfl rfl i.bl (jI _) cz fun wb' aw5 Z=> ?_;replace H:=H.one Z i.n i.k i.g;replace F:=F.one Z (.inr (by omega));replace l:=l.other Z (by omega);replace k:=k.other Z (by omega);replace f:=f.other Z (by omega);replace r:=r.other Z (by omega);replace i:=i.put aw5;have aMJ:=lH Z.size.symm;refine WL.nil (aL (CW.ret ?_));obtain⟨_,_,_,_,v0,v9⟩:=Am p.ak.length p x tv (bM _) hcc UM;obtain⟨⟨s0,s7⟩,s1,s2,s3⟩:=aoj p.ak.length p x;have e1:IntKind.i64.min= -9223372036854775808/\IntKind.i64.max=9223372036854775807:=by decide
    have e:gJ p x=((bo p.ak.length p x).1,(bo p.ak.length p x).2):=by unfold gJ;rw[aw (by simp[tv,hcc]),aw (by simp[UM])]
    rw[e];exact zu rfl rfl rfl f.bl i.bl dF gC rfl rfl cy cz (Ty (q:=(bo p.ak.length p x).1) (r:=(bo p.ak.length p x).2) hM H JA Ij F rfl (VX (by rw[e1.1,e1.2];omega) (by rw[e1.1,e1.2];omega) (by unfold maxLen;omega) (by rw[s2];decide) (by rw[s3];decide)))
section
variable {n:Nat}{P:Program}{E:List (Nat×Value)}{w w':World}{o:Oper}{v u:Value}
def rB{s:Operand}(hop:o.op=Op.call {callee:=Callee.builtin Builtin.append,args:=#[s,x],argTypes:=#[t,t]})(c:ev E s=some v)(hx:ev E x=some u){y:Value}(r:(Builtin.append_ #[t,t] o.type #[v,u]).run P w=.ok y w'):eI n P E o w y w':=fun a b=>by unfold execOp;simp only[hop,resolve,invoke,builtin,lS,De,uZ,List.map_toArray,jA,qQ,b.ev c,b.ev hx,r]
def yX{ds:TypeDesc}{b:Addr}{cs:List Value}(ho:o.op=.load T x)(hx:ev E x=some (.pointer (some b)))(f:P.underlying T=some ds)(hd:(match ds with|.struct _|.array _ _=>true|_=>false)=true)
  (e:(P.info? T).map (·.size)=some cs.length) (k:∀j v,cs[j]? =some v->w.cell? (b.add j)=some v):eI n P E o w (.agg cs.toArray) w:=fun a l=>by
 have p:(loadCells b cs.length).run P w=.ok cs.toArray w:=IQ (P:=P) w b cs k;have r:(loadVar T b).run P w=.ok (.agg cs.toArray) w:=by
  cases q:P.info? T with
  |none=>simp[q]at e
  |some i=>
   have s:i.size=cs.length:=by simpa[q]using e
   have c:(isAgg T).run P w=.ok true w:=by unfold isAgg;rw[lS,run_underlying f];cases ds<;>simp_all
   simp[loadVar,lS,c,sizeOf,typeInfo,q,s,p]
 simp[execOp,ho,l.ev hx,Instr.loadAt,Instr.sureAddr,r]
def yU{b len i:Nat}(ho:o.op=.indexAddr T x y)(hx:ev E x=some (.slice (some ⟨b,0,none⟩) len cap))(a:ev E y=some (.int .i64 (i:Int)))(h1:i<len)(c:vD P T=some m) :
  eI n P E o w (.pointer (some ⟨b,i*m,none⟩)) w:=by
 have:=yT (n:=n) (P:=P) (E:=E) (w:=w) ho hx a (by omega) (by omega) c;simpa using this
def VR(ho:o.op=.buildSlice T 1 #[(0,x)])(hx:ev E x=some b)(h1:b.cells=#[b])(k:P.underlying T=some (.slice e))(f:P.info? e=some i)(s:i.size=1)(l:i.zero=some z)(c:z.cells=#[z]) :
  eI n P E o w (.slice (some ⟨w.heap.size,0,none⟩) 1 1) (w.alloc (.cells #[b] e)):=fun a p=>by
 have r:Array.range 1=#[0]:=by decide
 simp[execOp,ho,p.ev hx,Instr.buildSlice,run_underlying k,run_sizeOf f,s,zeroValue,run_typeInfo f,l,c,h1,Instr.fill,newRow,r]
end
def bE:(az.info? 29).map (·.size)=some 5:=by kernel_rfl
def oT:(az.info? 29).bind (·.zero)=some (.agg #[aP,aP,aP,aP,aP]):=by kernel_rfl
def lZ:(az.info? 87).map (·.size)=some 6:=by kernel_rfl
def qq:mD az 29 0=some 0:=by kernel_rfl
def sj:mD az 29 1=some 1:=by kernel_rfl
def qt:mD az 29 2=some 2:=by kernel_rfl
def FN:vD az 25=some 6:=by kernel_rfl
def iA(w:World)(cs:Array Value)(T:TypeId):Below w.heap.size w (w.alloc (.cells cs T)):=(dQ _ _).alloc (bM _) _
def FC{xs:List Value}:∀(j:Nat) (u:Value),xs[j]? =some u->(w.alloc (.cells xs.toArray T)).cell? ((⟨w.heap.size,0,Option.none⟩:Addr).add j)=some u:=fun j u h=>by rw[tU];unfold World.cell?;have:(w.alloc (.cells xs.toArray T)).heap[w.heap.size]? =some (.cells xs.toArray T (0,0)):=vg w _;simp only[this];simpa using h
def VP{p:Part}(h:R w (BM M N) (enc p) v):∃cs:Array Value,v=.agg cs/\cs.size=6/\(∀u∈cs.toList,u.oneCell'=true)/\Rs w (BM M N) (aB.cells p) cs.toList:=by obtain⟨S,a,rfl,⟨b,c,f,rfl,i⟩,⟨k,l,q,rfl,s⟩,_⟩:=DW h;obtain⟨cs,e,r⟩:=h;cases e;exact⟨_,rfl,rfl,ac9 _,r⟩
def Tt(p:Part)(m:ByteArray)(c:p.core.cells.length<=4294967296)(l:p.ak.length<=4294967296):aH az 66 none [enc p,.str m] (enc (nz p m)) []:=by
 refine cu ars aKk ⟨kH p,trivial,trivial⟩ fun f=> ?_;unfold ars;refine aF (Bb p) ?_;refine aF (wW (fq p) 1) ?_;apply ai<;>intro h<;>simp only[eS]at h
 ·have h:cw (fq p) 1=false:=by simpa using h
  refine ay ?_;unfold nz;rw[aw (by rw[h];simp)];rfl
 ·have h:cw (fq p) 1=true:=by simpa using h
  have x:(bK m).text.size<4294967281:=show cL.size<4294967281 by decide
  refine aF (ZU p (bK m) c l x) (hty:=⟨kH _,wC _,trivial⟩) ?_ (ha:=by(simp only[gS,fF,bK,cL];try exact rfl));refine ay ?_;simp only[eS];unfold nz;rw[aC h]
def Yp{n:Nat}{ops:Array Oper}{Q:Exit->Act->World->Prop}{S:World->Prop}{s k:Nat}{L:Array Bool}{E:List (Nat×Value)}{o:Oper}{p:TypeId}{b i len:Nat}{rows:List (List D)}{r:List D}{cs:Array Value}(j:Nat)(ho:ops.toList[j]? =some o)(q:Region.ready .any ops L=[j])(hg:o.guard=none)(hd:o.dst=none)(a:j=s)
  (hop:o.op=.store T x y) (hx:ev E x=some (.pointer (some ⟨b,i*m,none⟩))) (t:ev E y=some (.agg cs)) (c:OR M N w p m rows (.slice (some ⟨b,0,none⟩) len cap)) (A:i<rows.length) (l:r.length=m) (B:cs.size=m)
  (e:∀u∈cs.toList,u.oneCell'=true) (C:Rs w (BM M N) r cs.toList) (z:(P.info? T).map (·.size)=some m)
  (h:∀w',OR M N w' p m (rows.set i r) (.slice (some ⟨b,0,none⟩) len cap)->bU w w' b->AU n P ops Q S s k (L.setIfInBounds j true) E w'):AU n P ops Q S s (k+1) L E w:=by
 obtain⟨w',F,G,H⟩:=VS (n:=n) (P:=P) (E:=E) hop hx t c A l B e C z;exact AJ j ho q hg hd F (fun f=>absurd a f) (h w' G H)
set_option maxHeartbeats 4000000 in
def aK3{h:Host}{l:Value}{s:ByteArray}(H:HX M N w h ve vp vs l)(S:OR M N w 9 1 (h.up.map aB.cells) vu)(J:∀x,vu.ownBlock=some x->¬KV vp l x/\NG<=x)(hk:0<=cV h.entries s)(hi:cO h s<h.parts.length)(hc:(nth h.parts (cO h s)).core.cells.length<=4294967296)(hl:(nth h.parts (cO h s)).ak.length<=4294967296)(hs:s.size<=maxLen)(jR:h.up.length<1048576) :
  Calls az 29 #[.agg (aD ve vp vu vs l),.string s] w fun e w'=>∃k,e=.returned (.agg (aD ve vp k vs l))/\HX M (fun x=>N x\/k.ownBlock=some x) w' (xI h s) ve vp vs l/\OR M (fun x=>N x\/k.ownBlock=some x) w' 9 1 ((xI h s).up.map aB.cells) k /\
   (∀x,k.ownBlock=some x->¬KV vp l x/\NG<=x/\(vu.ownBlock=some x\/w.heap.size<=x))/\dr (fun x=>KV vp l x\/vu.ownBlock=some x) w w':=by
 have p:(h.parts.map aB.cells)[cO h s]? =some (aB.cells (nth h.parts (cO h s))):=get_map h.parts hi;have z:(h.parts.map (aB.cells (α:=Part))).length=h.parts.length:=di _;obtain⟨b,cap,_,f,_⟩:=H.p.row p;rw[z]at f;subst f;have f:ve.oneCell'=true:=by obtain⟨a,n,c,rfl,_⟩:=(show R w _ (.sl (h.entries.map aB.cells)) ve from H.e);rfl
 have f:vs.oneCell'=true:=by obtain⟨a,n,c,rfl,_⟩:=(show R w _ (.sl (h.shut.map aB.cells)) vs from H.s);rfl
 have ol:l.oneCell'=true:=by obtain⟨a,c,rfl,_⟩:=H.l.len;rfl
 have r:cV h.entries s=((cO h s:Nat):Int):=(Md hk).symm;have A:=H.p.lt b rfl;have V:=H.gi.2;have one:∀(vu:Value),vu.oneCell'=true->∀u∈(aD ve (.slice (some ⟨b,0,none⟩) h.parts.length cap) vu vs l).toList,u.oneCell'=true:=fun vu f u S=>by simp[aD]at S;rcases S with rfl|rfl|rfl|rfl|rfl<;>first|rfl|assumption
 refine pH (E:=[(0,.agg (aD ve (.slice (some ⟨b,0,none⟩) h.parts.length cap) vu vs l)),(1,.string s)]) Tryz.func29 rfl Tryz.ntmps29 (by simp) (by simp) ?_;refine aO ?_;refine ah uG ?_;refine ah (eQ rfl oT) ?_;refine bn ?_;change CW _ az _ _ _ ((w.alloc (.cells (aD ve (.slice (some ⟨b,0,none⟩) h.parts.length cap) vu vs l) 29)).alloc (.cells #[aP,aP,aP,aP,aP] 29));refine CW.sub (E':=[(1,.string s),(2,PH w.heap.size),(4,PH (w.heap.size+1))]) ⟨rfl,rfl,by simp only[gb];rfl,trivial⟩ ?_;have q2:aA ((w.alloc (.cells (aD ve (.slice (some ⟨b,0,none⟩) h.parts.length cap) vu vs l) 29)).alloc (.cells #[aP,aP,aP,aP,aP] 29)) w.heap.size 29 (aD ve (.slice (some ⟨b,0,none⟩) h.parts.length cap) vu vs l):=(aA.new w _ _).alloc _;have q4:aA ((w.alloc (.cells (aD ve (.slice (some ⟨b,0,none⟩) h.parts.length cap) vu vs l) 29)).alloc (.cells #[aP,aP,aP,aP,aP] 29)) (w.heap.size+1) 29 #[aP,aP,aP,aP,aP]:=by have:=aA.new (w.alloc (.cells (aD ve (.slice (some ⟨b,0,none⟩) h.parts.length cap) vu vs l) 29)) 29 #[aP,aP,aP,aP,aP];rw[gb]at this;exact this
 have L:Below w.heap.size w ((w.alloc (.cells (aD ve (.slice (some ⟨b,0,none⟩) h.parts.length cap) vu vs l) 29)).alloc (.cells #[aP,aP,aP,aP,aP] 29)):=bt (iA _ _ _) (iA _ _ _);generalize (w.alloc (.cells (aD ve (.slice (some ⟨b,0,none⟩) h.parts.length cap) vu vs l) 29)).alloc (.cells #[aP,aP,aP,aP,aP] 29)=t at q2 q4 L ⊢;obtain⟨G,X⟩:∃G:Nat->Prop,G=fun x=>N x\/x=w.heap.size\/x=w.heap.size+1:=⟨_,rfl⟩;have O:∀x,N x->G x:=fun x f=>by rw[X];exact .inl f
 have q:∀x,G x->N x\/w.heap.size<=x:=fun x f=>by
  rw[X]at f;rcases f with f|f|f
  ·exact .inl f
  ·exact .inr (by omega)
  ·exact .inr (by omega)
 have Y:G w.heap.size/\G (w.heap.size+1):=by rw[X];exact⟨.inr (.inl rfl),.inr (.inr rfl)⟩
 have y:=q4.lt;have y:HX M G t h ve (.slice (some ⟨b,0,none⟩) h.parts.length cap) vs l:=H.new L q O fun x f=>by
  rw[X]at f;rcases f with f|f|f
  ·have:=H.nb x f;omega
  ·omega
  ·omega
 have B:OR M G t 9 1 (h.up.map aB.cells) vu:=S.below L q O;refine aO ?_;refine ah (br qq) ?_;refine ah (bz mR (v:=ve) ((q2.cell 0).trans rfl)) ?_;refine ah aI ?_;refine dD (aH.calls (qR h.entries s) y.cM (vs:=[ve,.string s]) ⟨_,_,rfl,y.e,_,[],rfl,⟨rfl,hs⟩,rfl⟩) ?_;rintro _ t ⟨_,rfl,q,I⟩;obtain⟨rfl, -⟩:=q;rw[r];refine⟨_,rfl,?_⟩;refine ah bN ?_;refine bn ?_;have Q:=y.below I;have Z:=B.below I (N':=G) (fun x f=>.inl f) fun x f=>f;have t:=q2.below I q2.lt;have U:=q4.below I q4.lt;have r:=bt L I;clear q2 q4 L I y B;refine CW.sl [1,2,4,5] ?_;obtain⟨B,y,I,q,q1,C,q3,L⟩:=Q.p.row p;rw[z]at q;simp only[fE,aS,kC,yf,wV]at q;obtain⟨rfl,rfl⟩:=q;refine CW.seq (CW.any (fun W=>aA W w.heap.size 29 (aD ve (.slice (some ⟨b,0,none⟩) h.parts.length cap) vu vs l)/\∀(j:Nat) (u:Value),I[j]? =some u->W.cell? ((⟨b,cO h s*6,none⟩:Addr).add j)=some u) 10 mo fun y q p=>⟨⟨t.below p t.lt,fun j u B=>by rw[p.cell (gm (C j u B))];exact C j u B⟩,?_⟩);have X:=Q.below p;have U3:=Z.below p (N':=G) (fun x f=>.inl f) fun x f=>f;have r2:=t.below p t.lt;have r4:=U.below p U.lt;have q:∀(j:Nat) (u:Value),I[j]? =some u->y.cell? ((⟨b,cO h s*6,none⟩:Addr).add j)=some u:=fun j u B=>by rw[p.cell (gm (C j u B))];exact C j u B
 have F:=Rs.keep (bQ.below p fun _ _ h=>h) _ _ L;have y:=bt r p;clear Q Z t U C L p r;refine bf 0 rfl (fun W U=>br sj) ⟨r2,q⟩ ?_;refine bf 1 rfl (fun W U=>bz ql (v:=.slice (some ⟨b,0,none⟩) h.parts.length cap) ((U.1.cell 1).trans rfl)) ⟨r2,q⟩ ?_;refine bf 2 rfl (fun W U=>aI) ⟨r2,q⟩ ?_;refine bf 3 rfl (fun W U=>br sj) ⟨r2,q⟩ ?_;refine bf 4 rfl (fun W U=>bz ql (v:=.slice (some ⟨b,0,none⟩) h.parts.length cap) ((U.1.cell 1).trans rfl)) ⟨r2,q⟩ ?_;refine bf 5 rfl (fun W U=>aI) ⟨r2,q⟩ ?_;refine bf 6 rfl (fun W U=>yU rfl rfl rfl hi FN) ⟨r2,q⟩ ?_;refine bf 7 rfl (fun W U=>yX (cs:=I) rfl rfl dF rfl (by rw[q1];exact lZ) U.2) ⟨r2,q⟩ ?_;refine qK 8 rfl (aH.calls (Tt (nth h.parts (cO h s)) mStart hc hl) X.cM (vs:=[.agg I.toArray,.string mStart]) ⟨_,_,rfl,⟨_,rfl,F⟩,_,[],rfl,⟨rfl,by decide⟩,rfl⟩) ?_;rintro _ p ⟨r,rfl,hq,C⟩;obtain⟨cs,rfl,I,p,Q⟩:=VP hq;have H4:=X.below C;have U4:=U3.below C (N':=G) (fun x f=>.inl f) fun x f=>f;have L:=r2.below C r2.lt;have t4:=r4.below C r4.lt;have t:=bt y C;refine⟨_,rfl,fun _=>⟨L,fun j u B=>by rw[C.cell (gm (q j u B))];exact q j u B⟩,?_⟩;refine gP 9 rfl (yU rfl rfl rfl hi FN) (fun _=>⟨L,fun j u B=>by rw[C.cell (gm (q j u B))];exact q j u B⟩) ?_;refine Yp 10 rfl (by kernel_rfl) rfl rfl rfl rfl rfl rfl H4.p (by rw[z];exact hi) rfl I p Q lZ fun Z z r=> ?_;refine iH (by kernel_rfl) (aL ?_);have H5:=H4.part z r;have p:b≠w.heap.size/\b≠w.heap.size+1:=by have:=A.2;exact⟨by omega,by omega⟩
 have U5:=U4.one r (O b A.1) fun e=>(J b e).1 (.inl rfl);have Q:aA Z w.heap.size 29 (aD ve (.slice (some ⟨b,0,none⟩) h.parts.length cap) vu vs l):=(r.block _ fun e=>p.1 e.symm).trans L;have v4:aA Z (w.heap.size+1) 29 #[aP,aP,aP,aP,aP]:=(r.block (w.heap.size+1) fun e=>p.2 e.symm).trans t4;have I:dr (fun x=>KV (.slice (some ⟨b,0,none⟩) h.parts.length cap) l x\/vu.ownBlock=some x) w Z:=⟨r.os.trans t.os,r.tape.trans t.tape,r.output.trans t.output,by rw[r.size];exact t.size,fun i hi U=>(r.block i fun e=>U (.inl (.inl (by rw[e];rfl)))).trans (t.block i hi)⟩;clear X U3 H4 U4 r2 r4 L t4 q F y t C hq z r;refine CW.sl [1,2,4] ?_;obtain⟨p,q,hz,z,F⟩:=wT (P:=az) (e:=9) (z:=.string ⟨#[]⟩) (size:=1) (bytes:=16) (by kernel_rfl);refine aO ?_;refine ah (br qt) ?_;refine ah (bz eX (v:=vu) ((Q.cell 2).trans rfl)) ?_;refine ah aI ?_;refine ah (VR rfl rfl rfl eX q z hz rfl) ?_;have A:=iA Z #[.string s] 9;have p:∀(j:Nat) (u:Value),[Value.string s][j]? =some u->(Z.alloc (.cells #[.string s] 9)).cell? ((⟨Z.heap.size,0,none⟩:Addr).add j)=some u:=fun j u S=>FC (w:=Z) (xs:=[.string s]) (T:=9) j u S;have r:=v4.lt;generalize Z.alloc (.cells #[.string s] 9)=r at A p ⊢;have L:=H5.below A;have X:=U5.below A (N':=G) (fun x f=>.inl f) fun x f=>f;have x2:=Q.below A Q.lt;have x4:=v4.below A v4.lt;have r:=x4.lt;have r:=A.size;obtain⟨k,t,C,r,y,Q⟩:=or_append (P:=az) (ty:=26) (c:=1) (a:=⟨Z.heap.size,0,none⟩) eX q hz z F rfl (by decide) X L.nb (r:=[.str s]) (us:=[.string s]) rfl rfl (fun j d B=>by
   match j,B with
   |0,B=>cases B;exact⟨_,rfl,rfl,hs⟩
   |j+1,B=>simp at B) p (by intro u S;simp at S;subst S;rfl) (by rw[di];exact jR) (by decide)
 refine ah (rB rfl rfl rfl C) ?_;have p:∀x,KV (.slice (some ⟨b,0,none⟩) h.parts.length cap) l x->N x:=fun x f=>f.elim (fun e=>(H.p.lt x e).1) fun e=>(H.l.lt x e).1;have q:∀x,vu.ownBlock=some x->x<w.heap.size:=fun x f=>(S.lt x f).2;have B:∀x,k.ownBlock=some x->¬KV (.slice (some ⟨b,0,none⟩) h.parts.length cap) l x/\NG<=x/\(vu.ownBlock=some x\/w.heap.size<=x):=fun x f=>by
  rcases Q with e|e
  ·rw[e]at f;exact⟨(J x f).1,(J x f).2,.inl f⟩
  ·rw[e]at f;cases f;exact⟨fun hk=>by have:=H.nb _ (p _ hk);omega,by omega,.inr (by omega)⟩
 have C:k.ownBlock≠some w.heap.size/\k.ownBlock≠some (w.heap.size+1):=by
  rcases Q with e|e
  ·rw[e];exact⟨fun f=>by have:=q _ f;omega,fun f=>by have:=q _ f;omega⟩
  ·rw[e];exact⟨fun f=>by have:=iR f;omega,fun f=>by have:=iR f;omega⟩
 have Z:HX M (fun x=>G x\/k.ownBlock=some x) t {h with parts:=h.parts.set (cO h s) (nz (nth h.parts (cO h s)) mStart)} ve (.slice (some ⟨b,0,none⟩) h.parts.length cap) vs l:=L.grow y (fun x f=>⟨(X.lt x f).1,(J x f).1,(J x f).2⟩) (fun x f=>f.elim .inl fun e=>by
   rcases Q with z|z
   ·rw[z]at e;exact .inl (X.lt x e).1
   ·rw[z]at e;cases e;exact .inr (bM _)) (fun x f=>.inl f) fun x f=>f.elim (fun f=>dS (L.nb x f) y.size) fun f=>(r.lt x f).2
 have z:=x2.grown y (fun e=>by have:=q _ e.symm;omega);have G:=x4.grown y (fun e=>by have:=q _ e.symm;omega);have q:k.oneCell'=true:=by obtain⟨a,c,rfl,_⟩:=r.len;rfl
 refine ah (br qt) ?_;refine qO (pS rfl rfl rfl (by kernel_rfl) q ((z.cell 2).trans rfl) (z.frozen 2)) ?_;refine bn ?_;have F:aA (t.setCell ⟨w.heap.size,0+2,none⟩ k) w.heap.size 29 (aD ve (.slice (some ⟨b,0,none⟩) h.parts.length cap) k vs l):=z.xN 2 k;have z:bU t (t.setCell ⟨w.heap.size,0+2,none⟩ k) w.heap.size:=(bU.refl t w.heap.size).set (0+2) k;generalize t.setCell ⟨w.heap.size,0+2,none⟩ k=L at F z ⊢;have t:=(z.block (w.heap.size+1) (by omega)).trans G;have G:=Z.one z (.inl Y.1) (fun hk=>by have:=H.nb _ (p _ hk);omega) V;have L:=r.one z (.inl Y.1) C.1;refine CW.sl [2,4] ?_;refine aO ?_;refine ah (bF cN F bE) ?_;refine bW rfl (cs:=aD ve (.slice (some ⟨b,0,none⟩) h.parts.length cap) k vs l) rfl t (one k q) bE fun Q r F=> ?_;have V:=(G.one F (.inl Y.2) (fun hk=>by have:=H.nb _ (p _ hk);omega) (by omega)).less (N':=fun x=>N x\/k.ownBlock=some x) (fun x f=>f.imp (O x) id) fun x f=>.inl (p x f);have p:=(L.one F (.inl Y.2) C.2).less (N':=fun x=>N x\/k.ownBlock=some x) (fun x f=>f.imp (O x) id) fun x f=>.inr f;refine WL.nil (aL (CW.ret (LR rfl rfl r cN rfl bE ⟨k,rfl,⟨V.gi,V.mb,V.nb,V.e,V.p,V.s,V.l,V.pl,V.gp,V.gl⟩,?_,B,?_⟩)))
 ·have e:((xI h s).up.map (aB.cells (α:=ByteArray)))=h.up.map aB.cells++[[.str s]]:=by simp[xI];rfl
  rw[e];exact p
 ·refine⟨F.os.trans (z.os.trans (y.os.trans (A.os.trans I.os))),F.tape.trans (z.tape.trans (y.tape.trans (A.tape.trans I.tape))),F.output.trans (z.output.trans (y.output.trans (A.output.trans I.output))),by have f:=y.size;rw[F.size,z.size];have f:=I.size;omega,fun i hi U=> ?_⟩;have f:=I.size;rw[F.block i (by omega),z.block i (by omega),y.block i (by omega) (fun e=>U (.inr e.symm)),A.block i (by omega)];exact I.block i hi U
def UR(M:Addr->Prop)(N:Nat->Prop)(w:World)(rows:List ByteArray)(v:Value):Prop :=
 ∃b c,v=.slice (some ⟨b,0,none⟩) rows.length c/\(∀o,¬BM M N ⟨b,o,none⟩)/\b<w.heap.size/\rows.length<=c/\c<=maxLen/\∀j s,rows[j]? =some s->w.cell? ⟨b,j,none⟩=some (.string s)/\s.size<=maxLen
section
variable {M:Addr->Prop}{N:Nat->Prop}{w w':World}{rows:List ByteArray}{v:Value}
def UR.heap(h:UR M N w rows v)(r:w.heap.size<=w'.heap.size)(hb:∀i,i<w.heap.size->¬N i->w'.heap[i]? =w.heap[i]?):UR M N w' rows v:=by obtain⟨b,c,k,a,l,p,q,e⟩:=h;exact⟨b,c,k,a,by omega,p,q,fun j s f=>⟨(Df (a:=⟨b,j,none⟩) (hb b l fun h=>a 0 (.inr h))).trans (e j s f).1,(e j s f).2⟩⟩
def UR.below(h:UR M N w rows v)(hb:Below w.heap.size w w'):UR M N w' rows v:=h.heap hb.size fun i a _=>hb.block i a
def UR.one(h:UR M N w rows v)(ho:bU w w' g)(hg:N g):UR M N w' rows v:=h.heap (lH ho.size.symm) fun i b a=>ho.block i fun e=>a (e▸hg)
def UR.read(h:UR M N w rows v):R w (BM M N) (aj rows) v:=by
 obtain⟨b,c,rfl,f,t,k,l,p⟩:=h;show R w _ (.sl (rows.map aB.cells)) _;refine Jx (n:=1) (ma (fun _=>rfl) rows) (by simp) k l (fun _=>rfl) fun i j r d e a=> ?_;rw[iw]at e;obtain⟨s,q,rfl⟩:=kN.1 e;have a:[D.str s][j]? =some d:=a
 match j,a with
 |0,a=> cases a;obtain⟨q1,q2⟩:=p i s q;exact⟨_,by rw[show 0+i*1+0=i by omega];exact q1,f _,rfl,q2⟩
 |j+1,a=>simp at a
def UR.oc(h:UR M N w rows v):v.oneCell'=true:=by obtain⟨b,c,rfl,_⟩:=h;rfl
def aKr{s:ByteArray}{ty:TypeId}(h:UR M N w rows v)(L:s.size<=maxLen)(hl:rows.length<1048576)(O:∀x,N x->x<w.heap.size)(Q:∀q,M q->q.block<w.heap.size) :
  ∃p w',(Builtin.append_ #[26,26] ty #[.slice (some ⟨w.heap.size,0,none⟩) 1 1,v]).run az (w.alloc (.cells #[.string s] 9))=.ok p w'/\UR M N w' (s::rows) p/\Below w.heap.size w w':=by
 obtain⟨b,c,rfl,a,S,f,k,H⟩:=h;obtain⟨U,y,V,A,B⟩:=wT (P:=az) (e:=9) (z:=.string ⟨#[]⟩) (size:=1) (bytes:=16) (by kernel_rfl);have a:(w.alloc (.cells #[.string s] 9)).ownsRow 0 9 1 (.slice (some ⟨w.heap.size,0,none⟩) 1 1) 1 [.string s]:=⟨rfl,.inr ⟨w.heap.size,1,#[.string s],rfl,fW _,vg w _,bM _,by decide,rfl,rfl⟩⟩;have z:(w.alloc (.cells #[.string s] 9)).heap.size=w.heap.size+1:=gb _ _;obtain⟨p,w',q1,q2,q3,_,q5⟩:=run_append_own_at (P:=az) (w.alloc (.cells #[.string s] 9)) 0 26 ty 9 U (.string ⟨#[]⟩) 1 16 eX y V A B rfl (by decide) _ 1 _ a ⟨b,0,none⟩ rows.length c (rows.map Value.string) (by simp)
  (fun j u r=>by rw[iw]at r;obtain⟨f,C,rfl⟩:=kN.1 r;rw[tU,nJ];exact((iA w _ _).cell (p:=⟨b,j,none⟩) S).trans (H j f C).1)
  (fun u r=>by obtain⟨f,_,rfl⟩:=fJ.1 r;rfl) (by unfold maxLen;omega) (by omega) (fW _)
 refine⟨p,w',q1,?_,⟨q3.os,q3.tape,q3.output,by have:=q3.size;omega,fun i X=>(q3.block i (by omega) (fun e=>by have a:i=w.heap.size:=iR e;omega)).trans ((iA w _ _).block i X)⟩⟩;obtain⟨I,⟨_,k⟩|⟨g,cap,Y,rfl,_,J,Z,F,a,G⟩⟩:=q2
 ·omega
 have a:g=w.heap.size\/g=w.heap.size+1:=by
  rcases q5 with e|e
  ·left;simpa[Value.ownBlock]using e
  ·right;rw[z]at e;simpa[Value.ownBlock]using e
 refine⟨g,cap,by rw[dR,Dc],fun o k=>k.elim (fun k=>by have:g<w.heap.size:=Q _ k;omega) (fun k=>by have:g<w.heap.size:=O _ k;omega),?_,by rw[dR];omega,F,fun j f l=> ?_⟩
 ·exact(rS.1 J).1
 ·have t:([Value.string s]++rows.map Value.string)[j]? =some (.string f):=by rw[show [Value.string s]++rows.map Value.string=(s::rows).map Value.string from rfl,iw,l];rfl
  refine⟨?_,?_⟩
  ·unfold World.cell?;simp only[J];rw[<-G,qk]at t;split at t
   ·simpa using t
   ·cases t
  ·cases j with
   |zero=>simp at l;subst l;exact L
   |succ j=>rw[Y6]at l;exact(H j f l).2
end
def Py(h:R w M (aj l) v){i:Nat}(k:i<l.length):∃b o cap,v=.slice (some ⟨b,o,none⟩) l.length cap/\w.cell? ⟨b,o+i*1,none⟩=some (.string (nth l i))/\(nth l i).size<=maxLen:=by obtain⟨a,cap,f,_,e⟩:=mA (ma (n:=1) (fun _=>rfl) l) h;obtain⟨b,o,q,rfl,p,⟨r,_,rfl,⟨rfl,s⟩,t⟩,c⟩:=e i _ (get_map l k);rw[di]at f;exact⟨b,o,cap,f,by have:=c 0 _ rfl;simpa using this,s⟩
def vK{K:Nat->Prop}{b:World}(h:dr K w a)(k:Below a.heap.size a b):dr K w b:=⟨k.os.trans h.os,k.tape.trans h.tape,k.output.trans h.output,dK h.size k.size,fun i c e=>(k.block i (dS c h.size)).trans (h.block i c e)⟩
def Uh{K:Nat->Prop}{b:World}(h:dr K w a)(k:bU a b g)(hg:K g\/w.heap.size<=g):dr K w b :=
 ⟨k.os.trans h.os,k.tape.trans h.tape,k.output.trans h.output,by rw[k.size];exact h.size,fun i f c=>(k.block i fun e=>hg.elim (fun l=>c (e▸l)) fun p=>by omega).trans (h.block i f c)⟩
def Jt(h:Host)(d:List ByteArray):∀j,(gy h d j).1.length=h.parts.length/\(gy h d j).2.length<=j
 |0=>⟨rfl,bM _⟩
 |j+1=>by
  have ih:=Jt h d j;unfold gy;simp only;split
  ·simp only[uX];exact⟨ih.1,by omega⟩
  ·simp only[dR];exact⟨ih.1,by omega⟩
section
variable {n:Nat}{P:Program}{E:List (Nat×Value)}{w:World}{o:Oper}
def nZ{b c len i:Nat}(h1:i<len)(a:vD P T=some m)(ho:o.op=.indexAddr T x y:=by rfl)(hx:ev E x=some (.slice (some ⟨b,c,none⟩) len cap):=by rfl)(e:ev E y=some (.int .i64 (i:Int)):=by rfl) :
  eI n P E o w (.pointer (some ⟨b,c+i*m,none⟩)) w:=by
 have:=yT (n:=n) (P:=P) (E:=E) (w:=w) ho hx e (by omega) (by omega) a;simpa using this
def adj(ho:o.op=.buildSlice T 0 #[])(f:P.underlying T=some (.slice e))(b:P.info? e=some i)(s:i.size=1)(k:i.zero=some z)(c:z.cells=#[z]) :
  eI n P E o w (.slice (some ⟨w.heap.size,0,none⟩) 0 0) (w.alloc (.cells #[] e)):=fun a l=>by
 have r:Array.range 0=#[]:=by decide
 simp[execOp,ho,Instr.buildSlice,run_underlying f,run_sizeOf b,s,zeroValue,run_typeInfo b,k,c,Instr.fill,newRow,r]
end
def Bj:vD az 26=some 1:=by kernel_rfl
set_option maxHeartbeats 4000000 in
def au9{h:Host}{s:ByteArray}(H:HX M N w h ve vp vs r)(hu:R w (BM M N) (aj h.up) vu)(l7:0<h.parts.length)(hk:∀x∈h.up,0<=cV h.entries x/\cO h x<h.parts.length)(hnl:(rz h.entries s).length<=1048576)
  (hfit:∀j,j<=h.up.length->∀p∈(gy h (kA (rz h.entries s) s) j).1,p.core.cells.length<=4294967296/\p.ak.length<=4294967296) (hs:s.size<=maxLen) (jR:h.up.length<1048576) :
  Calls az 146 #[.agg (aD ve vp vu vs r),.string s] w fun e w'=>∃f,e=.returned (.agg (aD ve vp f vs r))/\HX M N w' (mV h s) ve vp vs r/\R w' (BM M N) (aj (mV h s).up) f/\dr (KV vp r) w w':=by
 have f:(h.parts.map (aB.cells (α:=Part))).length=h.parts.length:=di _;obtain⟨b,cap,_,i,_⟩:=H.p.row (get_map h.parts l7);rw[f]at i;subst i;have f:ve.oneCell'=true:=by obtain⟨a,n,c,rfl,_⟩:=(show R w _ (.sl (h.entries.map aB.cells)) ve from H.e);rfl
 have f:vs.oneCell'=true:=by obtain⟨a,n,c,rfl,_⟩:=(show R w _ (.sl (h.shut.map aB.cells)) vs from H.s);rfl
 have ol:r.oneCell'=true:=by obtain⟨a,c,rfl,_⟩:=H.l.len;rfl
 have f:∃U F,vu=.slice U h.up.length F:=by obtain⟨a,cap,e,_⟩:=mA (ma (n:=1) (fun _=>rfl) h.up) hu;rw[di]at e;exact⟨a,cap,e⟩
 obtain⟨U,F,rfl⟩:=f;have Dx:=H.p.lt b rfl;have G:=H.gi.2;have one:∀(vu:Value),vu.oneCell'=true->∀u∈(aD ve (.slice (some ⟨b,0,none⟩) h.parts.length cap) vu vs r).toList,u.oneCell'=true:=fun vu f u hu=>by simp[aD]at hu;rcases hu with rfl|rfl|rfl|rfl|rfl<;>first|rfl|assumption
 refine pH (E:=[(0,.agg (aD ve (.slice (some ⟨b,0,none⟩) h.parts.length cap) (.slice U h.up.length F) vs r)),(1,.string s)]) Tryz.func146 rfl Tryz.ntmps146 (by simp) (by simp) ?_;refine aO ?_;refine ah uG ?_;refine ah (eQ rfl oT) ?_;refine bn ?_;change CW _ az _ _ _ ((w.alloc (.cells (aD ve (.slice (some ⟨b,0,none⟩) h.parts.length cap) (.slice U h.up.length F) vs r) 29)).alloc (.cells #[aP,aP,aP,aP,aP] 29));refine CW.sub (E':=[(1,.string s),(2,PH w.heap.size),(4,PH (w.heap.size+1))]) ⟨rfl,rfl,by simp only[gb];rfl,trivial⟩ ?_;have q2:aA ((w.alloc (.cells (aD ve (.slice (some ⟨b,0,none⟩) h.parts.length cap) (.slice U h.up.length F) vs r) 29)).alloc (.cells #[aP,aP,aP,aP,aP] 29)) w.heap.size 29 (aD ve (.slice (some ⟨b,0,none⟩) h.parts.length cap) (.slice U h.up.length F) vs r):=(aA.new w _ _).alloc _;have q4:aA ((w.alloc (.cells (aD ve (.slice (some ⟨b,0,none⟩) h.parts.length cap) (.slice U h.up.length F) vs r) 29)).alloc (.cells #[aP,aP,aP,aP,aP] 29)) (w.heap.size+1) 29 #[aP,aP,aP,aP,aP]:=by have:=aA.new (w.alloc (.cells (aD ve (.slice (some ⟨b,0,none⟩) h.parts.length cap) (.slice U h.up.length F) vs r) 29)) 29 #[aP,aP,aP,aP,aP];rw[gb]at this;exact this
 have i:Below w.heap.size w ((w.alloc (.cells (aD ve (.slice (some ⟨b,0,none⟩) h.parts.length cap) (.slice U h.up.length F) vs r) 29)).alloc (.cells #[aP,aP,aP,aP,aP] 29)):=bt (iA _ _ _) (iA _ _ _);generalize (w.alloc (.cells (aD ve (.slice (some ⟨b,0,none⟩) h.parts.length cap) (.slice U h.up.length F) vs r) 29)).alloc (.cells #[aP,aP,aP,aP,aP] 29)=A at q2 q4 i ⊢;obtain⟨k,l⟩:∃k:Nat->Prop,k=fun x=>N x\/x=w.heap.size\/x=w.heap.size+1:=⟨_,rfl⟩;have V:∀x,N x->k x:=fun x f=>by rw[l];exact .inl f
 have z:∀x,k x->N x\/w.heap.size<=x:=fun x f=>by
  rw[l]at f;rcases f with f|f|f
  ·exact .inl f
  ·exact .inr (by omega)
  ·exact .inr (by omega)
 have t:k w.heap.size/\k (w.heap.size+1):=by rw[l];exact⟨.inr (.inl rfl),.inr (.inr rfl)⟩
 have B:∀x,k x->x<w.heap.size+2:=fun x f=>by
  rw[l]at f;rcases f with f|f|f
  ·have:=H.nb x f;omega
  ·omega
  ·omega
 have l:=q4.lt;have l:HX M k A h ve (.slice (some ⟨b,0,none⟩) h.parts.length cap) vs r:=H.new i z V fun x f=>by have:=B x f;omega
 have I:R A (BM M k) (aj h.up) (.slice U h.up.length F):=db hu i z;have L:dr (KV (.slice (some ⟨b,0,none⟩) h.parts.length cap) r) w A:=vK (dr.refl _ _) i;clear i;refine aO ?_;refine ah (br qq) ?_;refine ah (bz mR (v:=ve) ((q2.cell 0).trans rfl)) ?_;refine ah aI ?_;refine dD (aH.calls (aH.eB (ayk h.entries s)) l.cM (vs:=[ve,.string s]) ⟨_,_,rfl,l.e,_,[],rfl,⟨rfl,hs⟩,rfl⟩) ?_;rintro _ z ⟨i,rfl,A,X⟩;refine⟨_,rfl,?_⟩;have C:=l.below X;have O:=db (N':=k) I X fun x f=>.inl f;have z:=q2.below X q2.lt;have J:=q4.below X q4.lt;have S:=vK L X;clear q2 q4 X l I L;refine ah aI ?_;refine dD (aH.calls (aH.eB (Fz (rz h.entries s) s hnl)) C.cM (vs:=[i,.string s]) ⟨_,_,rfl,A,_,[],rfl,⟨rfl,hs⟩,rfl⟩) ?_;rintro _ i ⟨I,rfl,l,Y⟩;refine⟨_,rfl,?_⟩;obtain⟨down,L⟩:∃down,kA (rz h.entries s) s=down:=⟨_,rfl⟩;rw[L]at l hfit;have Q:=C.below Y;have X:=db (N':=k) O Y fun x f=>.inl f;have q2:=z.below Y z.lt;have q4:=J.below Y J.lt;have f3:=vK S Y;clear z J Y C O S A;refine ah bN ?_;refine bn ?_;refine CW.sl [2,4,5] ?_;obtain⟨C,aK,hz,hsz,A⟩:=wT (P:=az) (e:=9) (z:=.string ⟨#[]⟩) (size:=1) (bytes:=16) (by kernel_rfl);refine aO ?_;refine ah (adj rfl eX aK hsz hz rfl) ?_;refine ah bN ?_;refine bn ?_;have O:=iA i #[] 9;have C:(i.alloc (.cells #[] 9)).heap.size=i.heap.size+1:=gb _ _;have A:UR M k (i.alloc (.cells #[] 9)) [] (.slice (some ⟨i.heap.size,0,none⟩) 0 0):=⟨i.heap.size,0,rfl,fun o f=>f.elim (fun f=>by have:i.heap.size<i.heap.size:=Q.mb _ f;omega) (fun f=>by have:i.heap.size<w.heap.size+2:=B _ f;have:=q4.lt;omega),by omega,bM _,fW _,fun j s Z=>by simp at Z⟩;generalize i.alloc (.cells #[] 9)=B at O C A ⊢;have i:=Q.below O;have B:=db (N':=k) X O fun x f=>.inl f;have C:=db (N':=k) l O fun x f=>.inl f;have z:=q2.below O q2.lt;have J:=q4.below O q4.lt;have S:=vK f3 O;refine CW.seq (aO ?_);refine ah (br qt) ?_;refine ah (bz eX (v:=.slice U h.up.length F) ((z.cell 2).trans rfl)) ?_;refine ah (yV rfl rfl rfl rfl eX rfl) ?_;refine ah (iE (r:=(h.up.length:Int)-1) (hb:=by rw[mz])) ?_;refine ah bN ?_;refine bn ?_
 refine CW.sl [2,4,5,6,7] ?_;clear q2 q4 Q X f3 l;refine CW.block (CW.loop (fun m l wr=>∃(j:Nat) (v6:Value),m+j=h.up.length/\l=[(2,PH w.heap.size),(4,PH (w.heap.size+1)),(5,I),(6,v6),(7,.int .i64 ((m:Int)-1))] /\
  HX M k wr {h with parts:=(gy h down j).1} ve (.slice (some ⟨b,0,none⟩) h.parts.length cap) vs r/\R wr (BM M k) (aj h.up) (.slice U h.up.length F)/\R wr (BM M k) (aj down) I/\aA wr w.heap.size 29 (aD ve (.slice (some ⟨b,0,none⟩) h.parts.length cap) (.slice U h.up.length F) vs r) /\
  aA wr (w.heap.size+1) 29 #[aP,aP,aP,aP,aP]/\UR M k wr (gy h down j).2 v6/\dr (KV (.slice (some ⟨b,0,none⟩) h.parts.length cap) r) w wr) h.up.length ⟨0,_,rfl,rfl,i,B,C,z,J,A,S⟩ ?_)
 clear i B C z J A S;rintro m l wr ⟨j,v6,i,rfl,B,Ur,Dr,q2,q4,C,fr⟩;obtain⟨O,hjl⟩:=Jt h down j;refine CW.seq (aO ?_);refine ah aI ?_;rcases rU m with i|i
 ·
  subst i;obtain rfl:j=h.up.length:=by omega
  refine ah (gX (b:=false) (hb:=by simp[bg])) ?_;refine WL.nil (aL (CW.no (CW.exit (qg (qg (AV (aL ?_)))))));have A:=C.oc;refine aO ?_;refine ah aI ?_;refine ah (br qt) ?_;refine qO (pS rfl rfl rfl (by kernel_rfl) A ((q2.cell 2).trans rfl) (q2.frozen 2)) ?_;refine bn ?_;have Q:aA (wr.setCell ⟨w.heap.size,0+2,none⟩ v6) w.heap.size 29 (aD ve (.slice (some ⟨b,0,none⟩) h.parts.length cap) v6 vs r):=q2.xN 2 v6;have i:bU wr (wr.setCell ⟨w.heap.size,0+2,none⟩ v6) w.heap.size:=(bU.refl wr w.heap.size).set (0+2) v6;generalize wr.setCell ⟨w.heap.size,0+2,none⟩ v6=w8 at Q i ⊢;have S:=(i.block (w.heap.size+1) (by omega)).trans q4;have l:∀x,KV (.slice (some ⟨b,0,none⟩) h.parts.length cap) r x->N x:=fun x f=>f.elim (fun e=>(H.p.lt x e).1) fun e=>(H.l.lt x e).1;have H8:=B.one i t.1 (fun hk=>by have:=H.nb _ (l _ hk);omega) G;have u8:=C.one i t.1;have f8:=Uh fr i (.inr (bM _));refine CW.sl [2,4] ?_;refine aO ?_;refine ah (bF cN Q bE) ?_;refine bW rfl (cs:=aD ve (.slice (some ⟨b,0,none⟩) h.parts.length cap) v6 vs r) rfl S (one v6 A) bE fun w9 G i=> ?_;have Q:=(H8.one i t.2 (fun hk=>by have:=H.nb _ (l _ hk);omega) (by omega)).less (N':=N) V l;have u9:=(u8.one i t.2).read;have f9:=Uh f8 i (.inr (Nat.le_succ _));refine WL.nil (aL (CW.ret (LR rfl rfl G cN rfl bE ⟨v6,rfl,?_,?_,f9⟩)))
  ·unfold mV;simp only[L];exact⟨Q.gi,Q.mb,Q.nb,Q.e,Q.p,Q.s,Q.l,Q.pl,Q.gp,Q.gl⟩
  ·unfold mV;simp only[L];exact R.less u9 fun q hq=>hq.imp id (V _)
 obtain⟨S,rfl⟩:∃S,m=S+1:=⟨m-1,by omega⟩;have L:S<h.up.length:=by omega
 have i:(((S+1:Nat):Int)-1)=((S:Nat):Int):=by omega
 rw[i];have hnx:h.up.length-1-j=S:=by omega
 refine ah (gX (b:=true) (hb:=by simp[bg])) ?_;refine WL.nil (aL (eC (CW.skip (aL ?_))));obtain⟨U,X,l,i,A,Y⟩:=Py Ur L;obtain⟨x,f⟩:∃x,nth h.up S=x:=⟨_,rfl⟩;rw[f]at A Y;have l:x∈h.up:=by rw[<-f];exact gK L
 simp only[fE,wV]at i;obtain⟨rfl,rfl⟩:=i;refine CW.seq (CW.block ?_);refine CW.sl [2,4,5,6,7] ?_;refine aO ?_;refine ah aI ?_;refine ah (br qt) ?_;refine ah (bz eX (v:=.slice (some ⟨U,X,none⟩) h.up.length F) ((q2.cell 2).trans rfl)) ?_;refine ah aI ?_;refine ah (nZ L Bj) ?_;refine ah (bz iz (v:=.string x) A) ?_;refine dD (aH.calls (nM down x) B.cM (vs:=[I,.string x]) ⟨_,_,rfl,Dr,_,[],rfl,⟨rfl,Y⟩,rfl⟩) ?_;rintro _ t ⟨_,rfl,i,G⟩;obtain rfl:=i;refine⟨_,rfl,?_⟩;refine bn ?_;have H5:=B.below G;have U5:=db (N':=k) Ur G fun x f=>.inl f;have D5:=db (N':=k) Dr G fun x f=>.inl f;have z:=q2.below G q2.lt;have J:=q4.below G q4.lt;have u5:=C.below G;have f5:=vK fr G;have c5:t.cell? ⟨U,X+S*1,none⟩=some (.string x):=(G.cell (gm A)).trans A;clear B Ur Dr q2 q4 C fr A G;have i:=hjl;by_cases hb:hasB down x=true
 ·
  have A:gy h down (j+1)=((gy h down j).1.set (cO h x) (nz (nth (gy h down j).1 (cO h x)) dY),(gy h down j).2):=by simp only[gy,hnx,f,hb,ue]
  obtain⟨i,G⟩:=hk x l;have B:cV h.entries x=((cO h x:Nat):Int):=(Md i).symm;rw[hb];refine eC (CW.seq ?_);refine CW.any (fun W=>aA W w.heap.size 29 (aD ve (.slice (some ⟨b,0,none⟩) h.parts.length cap) (.slice (some ⟨U,X,none⟩) h.up.length F) vs r)/\W.cell? ⟨U,X+S*1,none⟩=some (.string x)) 8 mo fun C hwd i=>⟨⟨z.below i z.lt,(i.cell (gm c5)).trans c5⟩,?_⟩;have t:=H5.below i;have U6:=db (N':=k) U5 i fun x f=>.inl f;have D6:=db (N':=k) D5 i fun x f=>.inl f;have q2:=z.below i z.lt;have q4:=J.below i J.lt;have u6:=u5.below i;have f6:=vK f5 i;have l:C.cell? ⟨U,X+S*1,none⟩=some (.string x):=(i.cell (gm c5)).trans c5;clear H5 U5 D5 z J u5 f5 c5 i;refine bf 0 rfl (fun W C=>br qq) ⟨q2,l⟩ ?_;refine bf 1 rfl (fun W C=>bz mR (v:=ve) ((C.1.cell 0).trans rfl)) ⟨q2,l⟩ ?_;refine bf 2 rfl (fun W C=>br qt) ⟨q2,l⟩ ?_;refine bf 3 rfl (fun W C=>bz eX (v:=(.slice (some ⟨U,X,none⟩) h.up.length F)) ((C.1.cell 2).trans rfl)) ⟨q2,l⟩ ?_;refine bf 4 rfl (fun W C=>aI) ⟨q2,l⟩ ?_;refine bf 5 rfl (fun W C=>nZ L Bj) ⟨q2,l⟩ ?_;refine bf 6 rfl (fun W C=>bz iz (v:=.string x) C.2) ⟨q2,l⟩ ?_;refine qK 7 rfl (aH.calls (qR h.entries x) t.cM (vs:=[ve,.string x]) ⟨_,_,rfl,t.e,_,[],rfl,⟨rfl,Y⟩,rfl⟩) ?_;rintro _ w7 ⟨_,rfl,hfi,I⟩;obtain⟨rfl, -⟩:=hfi;rw[B];have H7:=t.below I;have U7:=db (N':=k) U6 I fun x f=>.inl f;have D7:=db (N':=k) D6 I fun x f=>.inl f;have z:=q2.below I q2.lt;have J:=q4.below I q4.lt;have u7:=u6.below I;have f7:=vK f6 I;have c7:w7.cell? ⟨U,X+S*1,none⟩=some (.string x):=(I.cell (gm l)).trans l;clear t U6 D6 q2 q4 u6 f6 l I;refine⟨_,rfl,fun _=>⟨z,c7⟩,?_⟩;refine gP 8 rfl bN (fun _=>⟨z,c7⟩) ?_;refine iH (by kernel_rfl) (aL ?_);refine CW.sl [2,4,5,6,7,8] ?_;have l:cO h x<(gy h down j).1.length:=by omega
  have B:((gy h down j).1.map (aB.cells (α:=Part))).length=h.parts.length:=by rw[di];exact O
  obtain⟨hc,hl⟩:=hfit j (by omega) _ (gK l);obtain⟨b',cap',us,t,q1,I,q3,qr⟩:=H7.p.row (get_map (gy h down j).1 l);rw[B]at t;simp only[fE,aS,kC,yf,wV]at t;obtain⟨rfl,rfl⟩:=t;refine CW.any (fun W=>aA W w.heap.size 29 (aD ve (.slice (some ⟨b,0,none⟩) h.parts.length cap) (.slice (some ⟨U,X,none⟩) h.up.length F) vs r)/\∀(j:Nat) (u:Value),us[j]? =some u->W.cell? ((⟨b,cO h x*6,none⟩:Addr).add j)=some u) 10 mo fun w8 hwd i=>⟨⟨z.below i z.lt,fun j u Z=>by rw[i.cell (gm (I j u Z))];exact I j u Z⟩,?_⟩;have H8:=H7.below i;have U8:=db (N':=k) U7 i fun x f=>.inl f;have D8:=db (N':=k) D7 i fun x f=>.inl f;have r2:=z.below i z.lt;have r4:=J.below i J.lt;have u8:=u7.below i;have f8:=vK f7 i;have t:∀(j:Nat) (u:Value),us[j]? =some u->w8.cell? ((⟨b,cO h x*6,none⟩:Addr).add j)=some u:=fun j u Z=>by rw[i.cell (gm (I j u Z))];exact I j u Z
  have l:=Rs.keep (bQ.below i fun _ _ h=>h) _ _ qr;clear H7 U7 D7 z J u7 f7 I qr i c7;refine bf 0 rfl (fun W C=>br sj) ⟨r2,t⟩ ?_;refine bf 1 rfl (fun W C=>bz ql (v:=(.slice (some ⟨b,0,none⟩) h.parts.length cap)) ((C.1.cell 1).trans rfl)) ⟨r2,t⟩ ?_;refine bf 2 rfl (fun W C=>aI) ⟨r2,t⟩ ?_;refine bf 3 rfl (fun W C=>br sj) ⟨r2,t⟩ ?_;refine bf 4 rfl (fun W C=>bz ql (v:=(.slice (some ⟨b,0,none⟩) h.parts.length cap)) ((C.1.cell 1).trans rfl)) ⟨r2,t⟩ ?_;refine bf 5 rfl (fun W C=>aI) ⟨r2,t⟩ ?_;refine bf 6 rfl (fun W C=>yU rfl rfl rfl G FN) ⟨r2,t⟩ ?_;refine bf 7 rfl (fun W C=>yX (cs:=us) rfl rfl dF rfl (by rw[q1];exact lZ) C.2) ⟨r2,t⟩ ?_;refine qK 8 rfl (aH.calls (Tt (nth (gy h down j).1 (cO h x)) dY hc hl) H8.cM (vs:=[.agg us.toArray,.string dY]) ⟨_,_,rfl,⟨_,rfl,l⟩,_,[],rfl,⟨rfl,by decide⟩,rfl⟩) ?_;rintro _ w9 ⟨i,rfl,hq,l⟩;obtain⟨cs,rfl,I,i,hRs⟩:=VP hq;have Q:=H8.below l;have U9:=db (N':=k) U8 l fun x f=>.inl f;have D9:=db (N':=k) D8 l fun x f=>.inl f;have t2:=r2.below l r2.lt;have t4:=r4.below l r4.lt;have u9:=u8.below l;have f9:=vK f8 l;refine⟨_,rfl,fun _=>⟨t2,fun j u Z=>by rw[l.cell (gm (t j u Z))];exact t j u Z⟩,?_⟩;refine gP 9 rfl (yU rfl rfl rfl G FN) (fun _=>⟨t2,fun j u Z=>by rw[l.cell (gm (t j u Z))];exact t j u Z⟩) ?_;have t:h.parts.length=(gy h down j).1.length:=O.symm;refine Yp 10 rfl (by kernel_rfl) rfl rfl rfl rfl rfl rfl Q.p (by rw[B];exact G) rfl I i hRs lZ fun t C B=> ?_;refine iH (by kernel_rfl) ?_;have G:HX M k w9 {h with parts:=(gy h down j).1} ve (.slice (some ⟨b,0,none⟩) (gy h down j).1.length cap) vs r:=by rw[O];exact Q
  have i:OR M k t 87 6 (((gy h down j).1.map aB.cells).set (cO h x) (aB.cells (nz (nth (gy h down j).1 (cO h x)) dY))) (.slice (some ⟨b,0,none⟩) (gy h down j).1.length cap):=by rw[O];exact C
  have C:HX M k t {h with parts:=(gy h down (j+1)).1} ve (.slice (some ⟨b,0,none⟩) h.parts.length cap) vs r:=by have:=HX.part (h:={h with parts:=(gy h down j).1}) G i B;rw[O]at this;rw[A];exact this
  have i:b≠w.heap.size/\b≠w.heap.size+1:=by have:=Dx.2;exact⟨by omega,by omega⟩
  have G:=(B.block _ fun e=>i.1 e.symm).trans t2;have v4:=(B.block (w.heap.size+1) fun e=>i.2 e.symm).trans t4;have i:UR M k t (gy h down (j+1)).2 v6:=by rw[A];exact u9.one B (V b Dx.1)
  have t:=Uh f9 B (.inl (.inl rfl));have I:=iC U9 B (V b Dx.1);have O:=iC D9 B (V b Dx.1);refine(rO (aL (CW.region ?_)));refine ah aI ?_;refine ah (iE (r:=((S:Nat):Int)-1) (hb:=by rw[mz])) ?_;refine ah bN ?_;exact WL.nil (NX.ag S ⟨j+1,v6,by omega,rfl,C,I,O,G,v4,i,t⟩)
 ·
  have hb:hasB down x=false:=by simpa using hb
  have A:gy h down (j+1)=((gy h down j).1,x::(gy h down j).2):=by simp only[gy,hnx,f,hb];rfl
  rw[hb];refine CW.no (CW.region ?_);refine ah (br qt) ?_;refine ah (bz eX (v:=(.slice (some ⟨U,X,none⟩) h.up.length F)) ((z.cell 2).trans rfl)) ?_;refine ah aI ?_;refine ah (nZ L Bj) ?_;refine ah (bz iz (v:=.string x) c5) ?_;refine ah (VR rfl rfl rfl eX aK hsz hz rfl) ?_;refine ah aI ?_;obtain⟨i,w9,t,u9,l⟩:=aKr (ty:=26) u5 Y (by omega) (fun y B=>H5.nb y B) H5.mb;refine ah (rB rfl rfl rfl t) ?_;refine ah bN ?_;have Q:HX M k w9 {h with parts:=(gy h down (j+1)).1} ve (.slice (some ⟨b,0,none⟩) h.parts.length cap) vs r:=by rw[A];exact H5.below l
  have U9:=db (N':=k) U5 l fun x f=>.inl f;have D9:=db (N':=k) D5 l fun x f=>.inl f;have G:=z.below l z.lt;have v4:=J.below l J.lt;have f9:=vK f5 l;rw[<-show(gy h down (j+1)).2=x::(gy h down j).2 by rw[A]]at u9;refine WL.nil (rO (aL (CW.region ?_)));refine ah aI ?_;refine ah (iE (r:=((S:Nat):Int)-1) (hb:=by rw[mz])) ?_;refine ah bN ?_;exact WL.nil (NX.ag S ⟨j+1,i,by omega,rfl,Q,U9,D9,G,v4,u9,f9⟩)
def ayI(e:Event)(a:e.recipe.length<=1048576):dJ az 59 none [enc e] (enc e) [] [(6,1)]:=by refine gh arl aKf ⟨Cr e,trivial⟩ fun f=> ?_;unfold arl;refine dU (MO e.recipe a) ?_;refine ay ?_;simp only[eS,rX];rfl
section
variable {M:Addr->Prop}{N N':Nat->Prop}{w w':World}{T m:Nat}{rows:List (List D)}{v:Value}{d:D}
def xy(h:R w M d v)(hb:Below w.heap.size w w')(a:∀x,N x->w.heap.size<=x):R w' (BM M N) d v :=
 R.keep (bQ.below hb fun q b h=>h.elim id fun h=>by have:=a _ h;omega) _ _ h
def OR.GV(h:OR M N w T m rows v)(h1:∀x,N' x->N x)(h2:∀x,v.ownBlock=some x->¬N' x/\∀o,¬M ⟨x,o,none⟩):R w (BM M N') (.sl rows) v:=by
 obtain⟨a,H,c,e,f⟩:=id h;obtain⟨I,⟨rfl,z⟩|⟨b,cap,k,rfl,J,p,l,t,L,y⟩⟩:=c
 ·have:rows=[]:=mO z;subst this;exact⟨none,0,0,rfl,rfl,bM _,fW _,fun _=>rfl,fun b o s h=>by cases h⟩
 ·refine Jx a rfl l t (fun _=>rfl) fun i j r d A B=> ?_;obtain⟨u,q1,q2,q3⟩:=f i j r d A B;obtain⟨C,F⟩:=h2 b rfl;refine⟨u,?_,fun h=>h.elim (F _) C,R.less q3 fun q G=>G.imp id (h1 _)⟩;rw[nJ];unfold World.cell?;simp only[p];rw[<-y,qk]at q1;split at q1
  ·simpa using q1
  ·cases q1
end
section
variable {n:Nat}{P:Program}{E:List (Nat×Value)}{w:World}{o:Oper}
def aFC{c k l t y:Value}(ho:o.op=.buildSlice T 1 #[(0,x)])(hx:ev E x=some (.agg #[b,c,f,k,l,p]))(C:P.underlying T=some (.slice e))(q:P.info? e=some i)(s:i.size=6)(F:i.zero=some (.agg #[z,r,t,y,A,B])) :
  eI n P E o w (.slice (some ⟨w.heap.size,0,none⟩) 1 1) (w.alloc (.cells #[b,c,f,k,l,p] e)):=fun a G=>by
 have H:Array.range 6=#[0,1,2,3,4,5]:=by decide
 simp[execOp,ho,G.ev hx,Instr.buildSlice,run_underlying C,run_sizeOf q,s,zeroValue,run_typeInfo q,F,Value.cells,Instr.fill,newRow,H]
def am0{c k l q t y C F:Value}(ho:o.op=.buildSlice T 1 #[(0,x)])(hx:ev E x=some (.agg #[b,c,f,k,l,p,q]))(G:P.underlying T=some (.slice e))(r:P.info? e=some i)(s:i.size=7)(H:i.zero=some (.agg #[z,t,y,A,B,C,F])) :
  eI n P E o w (.slice (some ⟨w.heap.size,0,none⟩) 1 1) (w.alloc (.cells #[b,c,f,k,l,p,q] e)):=fun a I=>by
 have J:Array.range 7=#[0,1,2,3,4,5,6]:=by decide
 simp[execOp,ho,I.ev hx,Instr.buildSlice,run_underlying G,run_sizeOf r,s,zeroValue,run_typeInfo r,H,Value.cells,Instr.fill,newRow,J]
end
def aaL{e:Event}(h:R w M (enc e) v):∃S,v=.agg #[.int .i64 e.kind,.string e.name,.string e.call.method,.string e.call.key,.int .i64 e.call.val,.string e.call.text,S]/\R w M (aj e.recipe) S/\e.name.size<=maxLen:=by
 obtain⟨cs,rfl,v0,r0,a,⟨rfl,f⟩,v1,r1,rfl,⟨rfl,b⟩,i,r2,rfl,⟨rfl,k⟩,l,r3,rfl,⟨rfl,p⟩,v4,r4,rfl,⟨rfl,q⟩,r,r5,rfl,⟨rfl,s⟩,v6,t,rfl,c,rfl⟩:=h;have:cs=#[.int .i64 e.kind,.string e.name,.string e.call.method,.string e.call.key,.int .i64 e.call.val,.string e.call.text,v6]:=by rw[<-iX,a]
 exact⟨v6,by rw[this],c,b⟩
def ag6{ty:TypeId}{base:Option Addr}{n:Nat}(a:P.underlying t=some (.slice e))(b:P.info? e=some i)(l:n<=cap) :
  (Builtin.append_ #[t,t] ty #[.slice base n cap,aP]).run P w=.ok (.slice base n cap) w :=
 run_append_nothing w t t ty e i a b base n cap l aP (Src.ofNil w a 0)
set_option maxHeartbeats 1000000 in
def aKZ(hG:ek w (BM M N))(h:R w (BM M N) (aj l) v)(hl:l.length<1048576) :
  Calls az 46 #[v] w fun e w'=>∃c,e=.returned c/\OR M (fun x=>N x\/c.ownBlock=some x) w' 9 1 (l.map aB.cells) c/\(∀x,c.ownBlock=some x->w.heap.size<=x)/\Below w.heap.size w w':=by
 obtain⟨a,cap,V,_,I⟩:=mA (ma (n:=1) (fun _=>rfl) l) h;rw[di]at V;subst V;have J:a=none->cap=0:=fun e=>by obtain⟨q,X,Y,f,_,_,_,p,_⟩:=(show R w (BM M N) (.sl (l.map aB.cells)) _ from h);cases f;exact p e
 obtain⟨H,p,Z,z,L⟩:=wT (P:=az) (e:=9) (z:=.string ⟨#[]⟩) (size:=1) (bytes:=16) (by kernel_rfl);refine pH (E:=[(0,.slice a l.length cap)]) Tryz.func46 rfl Tryz.ntmps46 (by simp) (by simp) ?_;refine aO ?_;refine ah bN ?_;refine bn ?_;refine CW.sl [0] ?_;refine aO ?_;refine ah (adj rfl eX p z Z rfl) ?_;refine ah aI ?_;have q:=iA w #[] 9;have f:(w.alloc (.cells #[] 9)).heap.size=w.heap.size+1:=gb _ _;have F:(w.alloc (.cells #[] 9)).ownsRow 0 9 1 (.slice (some ⟨w.heap.size,0,none⟩) 0 0) 0 []:=⟨rfl,.inr ⟨w.heap.size,0,#[],rfl,fW _,vg w _,bM _,fW _,rfl,rfl⟩⟩;have t:∀k (f:k<l.length),(nth l k).size<=maxLen/\∃b o,a=some ⟨b,o,none⟩/\w.cell? ⟨b,o+k,none⟩=some (.string (nth l k)):=fun k f=>by obtain⟨b,o,A,rfl,r,⟨B,_,rfl,⟨rfl,z⟩,C⟩,y⟩:=I k _ (get_map l f);exact⟨z,b,o,rfl,by have:=y 0 _ rfl;simpa using this⟩
 have C:∀(c:Value) (w':World),w'.ownsRow 0 9 1 c l.length (l.map Value.string)->OR M (fun x=>N x\/c.ownBlock=some x) w' 9 1 (l.map aB.cells) c:=fun c w' r=>by
  refine⟨ma (fun _=>rfl) l,l.map Value.string,by rw[di];exact r,fun x f=>.inr f,fun i j r d G A=> ?_⟩;rw[iw]at G;obtain⟨s,O,rfl⟩:=kN.1 G;have A:[D.str s][j]? =some d:=A;have Q:=(dh.1 O).1;have B:nth l i=s:=by rw[nth,List.getD,O];rfl
  match j,A with
  |0,A=> cases A;exact⟨.string s,by rw[iw,show i*1+0=i by omega,O];rfl,rfl,rfl,by rw[<-B];exact(t i Q).1⟩
  |j+1,A=>simp at A
 rcases a with _|a
 ·have S:l=[]:=by
   rcases l with _|⟨s,l⟩
   ·rfl
   ·obtain⟨_,b,o,e,_⟩:=t 0 (by simp);cases e
  subst S;obtain rfl:=J rfl;refine ah (rB rfl rfl rfl (ag6 eX p (bM _))) ?_;refine ah bN ?_;exact WL.nil (aL (CW.ret (LU rfl rfl ⟨_,rfl,C _ _ F,fun x f=>(by cases f;exact bM _),q⟩)))
 ·obtain⟨c,w',q1,q2,q3,_,q5⟩:=run_append_own_at (P:=az) (w.alloc (.cells #[] 9)) 0 26 26 9 H (.string ⟨#[]⟩) 1 16 eX p Z z L rfl (by decide) _ 0 _ F a l.length cap (l.map Value.string) (by simp)
   (fun j u H=>by
    rw[iw]at H;obtain⟨c,F,rfl⟩:=kN.1 H;have U:=(dh.1 F).1;obtain⟨_,b,o,e,p⟩:=t j U;cases e;have B:nth l j=c:=by rw[nth,List.getD,F];rfl
    rw[tU,(q.cell (gm p)),p,B])
   (fun u H=>by obtain⟨c,_,rfl⟩:=fJ.1 H;rfl) (by unfold maxLen;omega) (by omega) (fW _)
  refine ah (rB rfl rfl rfl q1) ?_;refine ah bN ?_;refine WL.nil (aL (CW.ret (LU rfl rfl ⟨_,rfl,C _ _ (by simpa using q2),fun x f=> ?_,⟨q3.os,q3.tape,q3.output,by have:=q3.size;omega,fun i G=>(q3.block i (by omega) (fun e=>by have c:i=w.heap.size:=iR e;omega)).trans (q.block i G)⟩⟩)));rcases q5 with e|e
  ·rw[e]at f;have c:w.heap.size=x:=iR f;omega
  ·rw[e]at f;have c:=iR f;omega
def zN:mD az 29 3=some 3:=by kernel_rfl
def fL:Value:=aP
structure CF(M:Addr->Prop)(N:Nat->Prop)(w0 W:World)(h:Host)(cs:Array Value)(j:Nat)(ve vu vs:Value):Prop where
 bl:Below w0.heap.size w0 W
 b1:aA W w0.heap.size 29 cs
 b2:aA W (w0.heap.size+1) 29 #[aP,aP,aP,aP,aP]
 nw:∀x,N x->w0.heap.size<=x/\x<W.heap.size
 n1:N w0.heap.size
 n2:N (w0.heap.size+1)
 e:1<=j->R W (BM M N) (aj h.entries) ve
 u:2<=j->OR M N W 9 1 (h.up.map aB.cells) vu/\∀x,vu.ownBlock=some x->w0.heap.size+2<=x
 s:3<=j->R W (BM M N) (aj h.shut) vs
structure AL(N:Nat->Prop)(w0 W:World)(j:Nat)(vu:Value)(g:Nat):Prop where
 n:N g
 b:aA W g 29 #[aP,aP,aP,aP,aP]
 lo:w0.heap.size+2<=g
 u:2<=j->vu.ownBlock≠some g
section
variable {M:Addr->Prop}{N N':Nat->Prop}{w0 W W':World}{h:Host}{cs:Array Value}{j:Nat}{ve vu vs:Value}{g:Nat}
def CF.cM(H:CF M N w0 W h cs j ve vu vs)(G:ek w0 M):ek W (BM M N) :=
 ⟨fun q a=>a.elim (fun a=>dS (G.1 q a) H.bl.size) fun a=>(H.nw _ a).2,G.2.1.keep fun k b=>H.bl.block k (dS b G.2.2),dK G.2.2 H.bl.size⟩
def CF.below(H:CF M N w0 W h cs j ve vu vs)(hb:Below W.heap.size W W')(e:∀x,N' x->N x\/(W.heap.size<=x/\x<W'.heap.size))(a:∀x,N x->N' x):CF M N' w0 W' h cs j ve vu vs :=
 ⟨bt H.bl hb,H.b1.below hb H.b1.lt,H.b2.below hb H.b2.lt,fun x b=>(e x b).elim (fun h=>⟨(H.nw x h).1,dS (H.nw x h).2 hb.size⟩) (fun h=>⟨dK H.bl.size h.1,h.2⟩),a _ H.n1,a _ H.n2,
  fun c=>db (H.e c) hb fun x b=>(e x b).imp id C4,fun c=>⟨(H.u c).1.below hb (fun x b=>(e x b).imp id C4) a,(H.u c).2⟩,fun c=>db (H.s c) hb fun x b=>(e x b).imp id C4⟩
def AL.below(A:AL N w0 W j vu g)(hb:Below W.heap.size W W')(a:∀x,N x->N' x):AL N' w0 W' j vu g:=⟨a _ A.n,A.b.below hb A.b.lt,A.lo,A.u⟩
def xH(W:World):aA (W.alloc (.cells #[aP,aP,aP,aP,aP] 29)) W.heap.size 29 #[aP,aP,aP,aP,aP]:=aA.new W 29 #[aP,aP,aP,aP,aP]
end
def FD(o:Oper):Go.Call:=match o.op with
 |.call c=>c
 |_=>{callee:=.value (.const (.bool true)),args:=#[],argTypes:=#[]}
def pN(l:List Nat):Array Bool:=((List.range 12).map fun i=>l.any (Nat.beq i)).toArray
def ahq(a1 a2 a:Option Addr)(n1 n2 n3 c1 c2 c:Nat):uk az 29 [(0,.slice a1 n1 c1),(2,.slice a2 n2 c2),(3,.slice a n3 c)]=some (aD (.slice a1 n1 c1) fL (.slice a2 n2 c2) (.slice a n3 c) fL):=by kernel_rfl
end
end Go.Proofs.YtoomhbopolalnabGreatDoor
