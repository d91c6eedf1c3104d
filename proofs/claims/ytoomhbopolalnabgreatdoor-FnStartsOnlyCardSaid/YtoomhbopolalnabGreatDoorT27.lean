/- Walk: impl's StartPart. -/
import Derived.Test.YtoomhbopolalnabGreatDoorT26
import Derived.ShutString
import Derived.Deep.Slices
import Derived.Test.YtoomhbopolalnabGreatDoorTie
import Derived.Test.YtoomhbopolalnabGreatDoorCards
import Derived.HandedShaped
import Derived.Stop.LaidErr
set_option linter.all false
set_option maxRecDepth 100000
namespace Go.Proofs.YtoomhbopolalnabGreatDoor
section
open Go.RowKit Go
set_option synthInstance.maxSize 2000
variable [GC]
def aAc:mD az 59 0=some 0:=by kernel_rfl
def aFG{n:Nat}{E:List (Nat×Value)}{w:World}{o:Oper}{x:Operand}{v0 v1 v:Value}(ho:o.op=.field 53 x 2)(hx:ev E x=some (.agg #[v0,v1,v])):eI n az E o w v w:=fun a h=>by
 have b:(part 51 #[v0,v1,v] 2).run az w=.ok v w:=by simp[part,lS,ak7 (w:=w) Tryz.underlying51 rfl]
 simp[execOp,ho,h.ev hx,Instr.field,run_underlying Tryz.underlying53,asAgg,b]
section
variable {L:Nat}{bx:List (Nat×TypeId×Array Value)}{M:Addr->Prop}{N:Nat->Prop}{w W W':World}{b6:Nat}{g:Host}{ve vp vu vs vl:Value}{T0:TypeId}{c0:Array Value}
def SU.b0(S:SU L ((0,T0,c0)::bx) M N w W b6 g ve vp vu vs vl):aA W w.heap.size T0 c0:=(S.bx _ (.head _)).2
end
set_option maxHeartbeats 8000000 in
def aKX(Nq:QZ){M:Addr->Prop}{w:World}{h:Host}{s:ByteArray}{v:Value}(Q:ek w M)(hv:R w M (enc h) v)(hs:s.size<=maxLen)(C:oz h) :
  Calls az 6 #[v,.string s] w fun e w'=>∃r,e=.returned r/\R w' M (.aU [enc (gM h s),.bool (lO h s)]) r/\Below w.heap.size w w':=by
 obtain⟨ae,ap,r,n,al,rfl,I,b,qX,has,J⟩:=Gf hv;obtain⟨O,z,b,_,q⟩:=mA (ma (n:=5) (fun _=>rfl) h.entries) I;rw[di]at b;subst b;have b:=C.el;refine pH (E:=[(0,.agg (aD (.slice O h.entries.length z) ap r n al)),(1,.string s)]) Tryz.func6 rfl Tryz.ntmps6 (by simp) (by simp) ?_;refine aO ?_;refine CZ B0.nil fun _ B=> ?_;refine CY B oT fun b B=> ?_;refine ah bN ?_;refine bn ?_;refine CW.sl [1,2,4] ?_;refine aO ?_;refine ah (bF cN B.q0 bE) ?_;refine dD (au6 B Q hv fun j b f=>aKU b f C.el C.ef (Mj C.ul (by decide)) C.sl C.pl (fun p j=>⟨(C.pc p j).1,dK (C.pc p j).2 (by decide)⟩) C.ll C.lr) ?_;rintro _ F ⟨ve,vp,vu,vs,vl,rfl,one,mk⟩;refine⟨_,rfl,?_⟩;refine ah (eQ rfl oT) ?_;refine bW rfl (cs:=aD ve vp vu vs vl) rfl (xH F) one bE fun j l b=> ?_;obtain⟨N,S⟩:=mk j l b;have f:SU 2 [(0,29,aD (.slice O h.entries.length z) ap r n al),(1,29,#[.slice none 0 0,.slice none 0 0,.slice none 0 0,.slice none 0 0,.slice none 0 0])] M N w j F.heap.size h ve vp vu vs vl:=S;clear mk one l b S B;refine bn ?_;refine CW.sl [1,2,4,6] ?_;obtain⟨bx,b⟩:∃bx,bx=[(0,29,aD (.slice O h.entries.length z) ap r n al),(1,29,#[.slice none 0 0,.slice none 0 0,.slice none 0 0,.slice none 0 0,.slice none 0 0])]:=⟨_,rfl⟩;refine aO ?_;refine ah (bF cN f.b0 bE) ?_;refine ah aI ?_;refine dD (aH.calls (axZ h s C) f.cM (vs:=[.agg (aD (.slice O h.entries.length z) ap r n al),.string s]) ⟨_,_,rfl,f.kp hv,_,[],rfl,⟨rfl,hs⟩,rfl⟩) ?_;rintro _ l ⟨o,rfl,b,j⟩;obtain rfl:=aFj b;refine⟨_,rfl,?_⟩;have l:=f.below j;clear f j b;refine ah aI ?_;refine ah fG ?_;refine ah fG ?_;refine ah bN ?_;refine ah bN ?_;refine bn ?_;refine CW.sl [1,2,4,6,7,8] ?_;have no:∀(W:World) (vu:Value),lO h s=false->R W M (enc h) (.agg (aD ve vp vu vs vl))->R W M (.aU [enc (gM h s),.bool (lO h s)]) (.tuple #[.agg (aD ve vp vu vs vl),.bool false]):=fun W vu ho U=>by
  have hd:gM h s=h:=by unfold gM;simp[ho]
  rw[hd,ho];exact⟨_,rfl,_,_,rfl,U,_,_,rfl,rfl,rfl⟩
 refine CW.seq (aO ?_);refine ah aI ?_;refine ah qE ?_;refine ah aI ?_;rcases j:gW h s with _|_
 ·refine dO (b:=true) ?_;refine dO (b:=true) ?_;refine dO (b:=true) ?_;refine dO (b:=true) ?_;refine ah (nu rfl rfl rfl) ?_;refine ah aI ?_;refine dO (b:=true) ?_;refine dO (b:=true) ?_;refine dO (b:=true) ?_;refine dO (b:=true) ?_;refine ah (nu rfl rfl rfl) ?_;refine bn (eC (aO ?_));have T:=l.sb Q;refine ah (bF cN T.q6 bE) ?_;refine bW rfl (cs:=aD ve vp vu vs vl) rfl T.b1 T.one bE fun wa z4 V=> ?_;refine ah bN ?_;obtain⟨U,o,_⟩:=T.ans Q (by decide) V;exact bn (CW.ret (NX.ret (qf rfl rfl rfl z4 cN rfl bE ⟨_,rfl,no _ _ (by unfold lO;rw[j];rfl) U,o⟩)))
 have t:=aHp j;refine fY (b:=false) (br qt) ?_;refine fY (b:=false) (bz eX (v:=r) ((l.b0.cell 2).trans rfl)) ?_;refine fY (b:=false) aI ?_;refine wN (b:=false) (l.ask (Fv h.up s) ⟨_,_,rfl,l.kp qX,_,[],rfl,⟨rfl,hs⟩,rfl⟩) ?_;rintro _ b ⟨rfl,Y, -⟩;refine⟨_,rfl,?_⟩;clear l;refine ah (pR rfl rfl rfl) ?_;refine ah aI ?_;rcases b:hasB h.up s with _|_
 rotate_left
 ·refine dO (b:=true) ?_;refine dO (b:=true) ?_;refine dO (b:=true) ?_;refine dO (b:=true) ?_;refine ah (nu rfl rfl rfl) ?_;refine bn (eC (aO ?_));have T:=Y.sb Q;refine ah (bF cN T.q6 bE) ?_;refine bW rfl (cs:=aD ve vp vu vs vl) rfl T.b1 T.one bE fun wa z4 V=> ?_;refine ah bN ?_;obtain⟨U,o,_⟩:=T.ans Q (by decide) V;exact bn (CW.ret (NX.ret (qf rfl rfl rfl z4 cN rfl bE ⟨_,rfl,no _ _ (by rw[t,b];rfl) U,o⟩)))
 refine fY (b:=false) (br zN) ?_;refine fY (b:=false) (bz eX (v:=n) ((Y.b0.cell 3).trans rfl)) ?_;refine fY (b:=false) aI ?_;refine wN (b:=false) (Y.ask (Fv h.shut s) ⟨_,_,rfl,Y.kp has,_,[],rfl,⟨rfl,hs⟩,rfl⟩) ?_;rintro _ f ⟨rfl,S6, -⟩;refine⟨_,rfl,?_⟩;clear Y;refine ah (pR rfl rfl rfl) ?_;rcases f:hasB h.shut s with _|_
 rotate_left
 ·refine bn (eC (aO ?_));have T:=S6.sb Q;refine ah (bF cN T.q6 bE) ?_;refine bW rfl (cs:=aD ve vp vu vs vl) rfl T.b1 T.one bE fun wa z4 V=> ?_;refine ah bN ?_;obtain⟨U,o,_⟩:=T.ans Q (by decide) V;exact bn (CW.ret (NX.ret (qf rfl rfl rfl z4 cN rfl bE ⟨_,rfl,no _ _ (by rw[t,b,f];rfl) U,o⟩)))
 refine bn (CW.no (CW.skip (aL ?_)));obtain⟨hO,l,p,A⟩:=z7 j;have U:=hO.qF;obtain⟨k,j,hkl,hks⟩:=vF l;have A:cO h s=k:=by unfold cO;rw[j];rfl
 have l:Fu h s=(k:Int):=by unfold Fu;rw[DD.2 hO,Mu p];exact j
 rw[b,f,A]at t;rw[l];refine CW.sl [1,2,4,6,7] ?_;refine aO ?_;refine ah (br qq) ?_;refine ah (bz mR (v:=.slice O h.entries.length z) ((S6.b0.cell 0).trans rfl)) ?_;refine dD (aH.calls (aH.eB (Tk h.entries C.el)) S6.cM (vs:=[.slice O h.entries.length z]) ⟨_,[],rfl,S6.kp I,rfl⟩) ?_;rintro _ b ⟨l,rfl,f,j⟩;refine⟨_,rfl,?_⟩;obtain⟨v0,v1,l,rfl, -,b⟩:=aK9 f;have S7:=S6.below j;clear S6 j f;obtain⟨l,j,p,mu,rfl,f,G⟩:=aEB b hkl;refine ah (aFG rfl rfl) ?_;refine ah aI ?_;refine ah (nZ hkl azY) ?_;refine ah (bz Tryz.underlying50 (v:=mu) f) ?_;refine ah bN ?_;refine bn ?_;refine CW.seq (aO ?_);refine ah (br qq) ?_;refine ah (bz mR (v:=.slice O h.entries.length z) ((S7.b0.cell 0).trans rfl)) ?_;refine ah (yV rfl rfl rfl rfl mR rfl) ?_;refine ah aI ?_;refine bn ?_;refine CW.sl [1,2,4,6,7,9,46,47,48] ?_;refine CW.block (CW.loop (fun m E' wr=>∃j:Nat,m+j=h.entries.length/\E'=[(1,.string s),(2,PH w.heap.size),(4,PH (w.heap.size+1)),(6,PH F.heap.size),(7,.int .i64 (k:Int)),(9,mu),(46,.slice O h.entries.length z),(47,.int .i64 (h.entries.length:Int)),(48,.int .i64 (j:Int))] /\
  SU 2 [(0,29,aD (.slice O h.entries.length z) ap r n al),(1,29,#[.slice none 0 0,.slice none 0 0,.slice none 0 0,.slice none 0 0,.slice none 0 0])] M N w wr F.heap.size h ve vp vu vs vl/\R wr (BM M N) (da h.entries.length (dM h.entries k)) mu/\∀i,i<j->(!(dM h.entries k i&&hasB h.shut (nth h.entries i).name))=true) h.entries.length ⟨0,rfl,rfl,S7,G,fun i hi=>absurd hi (Nat.not_lt_zero _)⟩ ?_)
 clear S7 b f G;rintro m E' wr ⟨j,JO,rfl,S,G,hI⟩;refine aO ?_;rcases rU m with Z|Z
 rotate_left
 ·obtain⟨m',rfl⟩:∃m',m=m'+1:=⟨m-1,by omega⟩;have A:j<h.entries.length:=by omega
  refine ah (gX (b:=true) (hb:=by simp[bg];omega)) ?_;refine WL.nil (aL (CW.seq (eC (CW.skip (aL ?_)))));obtain⟨pb,po,p,rfl,jq,f,l⟩:=q j _ (get_map h.entries A);obtain⟨x,b⟩:∃x,nth h.entries j=x:=⟨_,rfl⟩;rw[b]at f;have q:R w M (enc x) (.agg p.toArray):=⟨_,rfl,f⟩;obtain⟨S1,S2,hsv,h1,h2⟩:=aaK q;have q:x.name.size<=maxLen:=by obtain⟨_,_,_,⟨_,q⟩,_⟩:=f;exact q
  have f:S1.oneCell'=true:=kY (show R w M (.sl (x.recipe.map aB.cells)) S1 from h1);have f:S2.oneCell'=true:=kY (show R w M (.sl (x.needs.map aB.cells)) S2 from h2);have f:p.toArray=#[.string x.name,S1,.int .i64 x.jw.l8,.int .i64 x.jw.min,S2]:=by simpa using hsv
  have xn:∀(j':Nat) (u:Value),p[j']? =some u->wr.cell? ((⟨pb,po+j*5,none⟩:Addr).add j')=some u:=fun j' u hu=>by rw[tU];have hc:=l j' u hu;rw[S.bw.cell (gm hc)];exact hc
  refine CW.seq (CW.block ?_);refine aO ?_;refine ah aI ?_;refine ah (nZ A M7) ?_;refine ah (yX (cs:=p) rfl rfl Zq rfl (by rw[jq];exact Ox) xn) ?_;refine ah (eQ rfl ald) ?_;refine ah bN ?_;refine bW rfl (cs:=p.toArray) rfl (aA.new wr _ _) (hC:=(by rw[f];rfl)) (by rw[f];intro u hu;simp at hu;rcases hu with rfl|rfl|rfl|rfl|rfl<;>first|rfl|assumption) (by rw[f];exact Ox) fun p O0 mL=> ?_;have p:=MA mL;have Y:=S.below p;have V8:=db (N':=N) G p fun x b=>.inl b;rw[f]at O0;obtain⟨rb,ro,rc,rfl,f⟩:=anu V8 A;clear S G p mL;refine bn ?_;refine CW.sl [1,2,4,6,7,9,46,47,48,10,11] ?_;refine CW.seq (agj [(1,.string s),(2,PH w.heap.size),(4,PH (w.heap.size+1)),(6,PH F.heap.size),(7,.int .i64 (k:Int)),(9,.slice (some ⟨rb,ro,none⟩) h.entries.length rc),(46,.slice (some ⟨pb,po,none⟩) h.entries.length z),(47,.int .i64 (h.entries.length:Int)),(48,.int .i64 (j:Int)),(63,.bool (dM h.entries k j&&hasB h.shut x.name))] (fun X=>SU 2 [(0,29,aD (.slice (some ⟨pb,po,none⟩) h.entries.length z) ap r n al),(1,29,#[.slice none 0 0,.slice none 0 0,.slice none 0 0,.slice none 0 0,.slice none 0 0])] M N w X F.heap.size h ve vp vu vs vl/\R X (BM M N) (da h.entries.length (dM h.entries k)) (.slice (some ⟨rb,ro,none⟩) h.entries.length rc)) (CW.region ?_) fun X hX=>aL ?_)
  ·refine ah aI ?_;refine ah aI ?_;refine ah (nZ A aiD) ?_;refine ah (bz zD (v:=.bool (dM h.entries k j)) f) ?_;refine ah aI ?_;rcases hrc:dM h.entries k j with _|_
   ·refine dO (b:=false) ?_;refine dO (b:=false) ?_;refine dO (b:=false) ?_;refine dO (b:=false) ?_;refine dO (b:=false) ?_;refine ah (pR rfl rfl rfl) ?_;exact WL.nil (LW ⟨rfl,rfl,rfl,rfl,rfl,rfl,rfl,rfl,rfl,rfl,trivial⟩ ⟨Y,V8⟩)
   ·refine fY (b:=true) (br zN) ?_;refine fY (b:=true) (bz eX (v:=n) ((Y.b0.cell 3).trans rfl)) ?_;refine fY (b:=true) (br aAc) ?_;refine fY (b:=true) (bz iz (v:=.string x.name) ((O0.cell 0).trans rfl)) ?_;refine wN (b:=true) (Y.ask (Fv h.shut x.name) ⟨_,_,rfl,Y.kp has,_,[],rfl,⟨rfl,q⟩,rfl⟩) ?_;rintro _ wc ⟨rfl,S6,p⟩;refine⟨_,rfl,?_⟩;refine ah (nu rfl rfl rfl) ?_;exact WL.nil (LW ⟨rfl,rfl,rfl,rfl,rfl,rfl,rfl,rfl,rfl,rfl,trivial⟩ ⟨S6,db (N':=N) V8 p fun x b=>.inl b⟩)
  clear Y V8 f O0;obtain⟨S,ru⟩:=hX;rcases hc:dM h.entries k j&&hasB h.shut x.name with _|_
  ·refine CW.no (CW.skip ?_);refine rO (aL (CW.region ?_));refine ah (iE (r:=((j+1:Nat):Int)) (hb:=by rw[bC];omega)) ?_;refine ah aI ?_;exact WL.nil (NX.ag m' ⟨j+1,by omega,rfl,S,ru,fun i hi=>by
    rcases dP i j with Y|Y
    ·exact hI i Y
    ·obtain rfl:i=j:=by omega
     rw[b,hc];rfl⟩)
  ·refine eC (aO ?_);have T:=S.sb Q;refine ah (bF cN T.q6 bE) ?_;refine bW rfl (cs:=aD ve vp vu vs vl) rfl T.b1 T.one bE fun wa z4 V=> ?_;refine ah bN ?_;obtain⟨Y,o,_⟩:=T.ans Q (by decide) V;exact bn (CW.ret (tS (NX.ret (NX.ret (tS (NX.ret (qf rfl rfl rfl z4 cN rfl bE ⟨_,rfl,no _ _ (by
    rw[t];have:dW (fun i=> !(dM h.entries k i&&hasB h.shut (nth h.entries i).name)) h.entries.length=false:=by rw[<-YU,jC];intro T;have:=T j A;rw[b,hc]at this;cases this
    rw[this];rfl) Y,o⟩)))))))
 subst Z;obtain rfl:j=h.entries.length:=by omega
 refine ah (gX (b:=false) (hb:=by simp[bg])) ?_;refine WL.nil (aL (CW.seq (CW.no (CW.exit (qg (qg (AV (aL ?_))))))));have ho:lO h s=true:=by rw[t,jC.2 hI];rfl
 clear hI JO;have t:(bR h.entries).length<=1048576:=dK (ams h.entries) C.el;have rf:=ac5 U;obtain⟨all,T⟩:∃all,nK h s=all:=⟨_,rfl⟩;refine CW.seq (aO ?_);refine ah (br qq) ?_;refine ah (bz mR (v:=.slice O h.entries.length z) ((S.b0.cell 0).trans rfl)) ?_;refine dD (aH.calls (aH.eB (Tj h.entries C.el)) S.cM (vs:=[.slice O h.entries.length z]) ⟨_,[],rfl,S.kp I,rfl⟩) ?_;rintro _ w8 ⟨vo,rfl,t,nT⟩;refine⟨_,rfl,?_⟩;have S8:=S.below nT;have ru8:=db (N':=N) G nT fun x b=>.inl b;clear S G nT;obtain⟨V,oc,G,_,_⟩:=mA (ma (n:=1) (fun _=>rfl) (bR h.entries)) t;rw[di]at G;subst G;refine ah (yV rfl rfl rfl rfl eX rfl) ?_;refine ah aI ?_;refine bn ?_;refine CW.sl [1,2,4,6,7,9,68,69,70] ?_;refine CW.block (CW.loop (fun m E' wr=>∃(j:Nat) (N:Nat->Prop) (vu:Value),m+j=(bR h.entries).length/\E'=[(1,.string s),(2,PH w.heap.size),(4,PH (w.heap.size+1)),(6,PH F.heap.size),(7,.int .i64 (k:Int)),(9,mu),(68,.slice V (bR h.entries).length oc),(69,.int .i64 ((bR h.entries).length:Int)),(70,.int .i64 (j:Int))] /\
  SU 2 [(0,29,aD (.slice O h.entries.length z) ap r n al),(1,29,#[.slice none 0 0,.slice none 0 0,.slice none 0 0,.slice none 0 0,.slice none 0 0])] M N w wr F.heap.size (gY h all j) ve vp vu vs vl/\R wr (BM M N) (da h.entries.length (dM h.entries k)) mu/\R wr (BM M N) (aj (bR h.entries)) (.slice V (bR h.entries).length oc)) (bR h.entries).length ⟨0,N,vu,rfl,rfl,S8,ru8,t⟩ ?_)
 clear S8 ru8 t no;rintro m E' wr ⟨j,N,vu,JO,rfl,S,ru,ro⟩;have rk:=V2 hO all j (by omega);refine aO ?_;rcases rU m with Z|Z
 rotate_left
 ·obtain⟨m',rfl⟩:∃m',m=m'+1:=⟨m-1,by omega⟩;have A:j<(bR h.entries).length:=by omega
  refine ah (gX (b:=true) (hb:=by simp[bg];omega)) ?_;refine WL.nil (aL (CW.seq (eC (CW.skip (aL ?_)))));obtain⟨ub,uo,t,n,l,q⟩:=Py ro A;obtain⟨x,b⟩:∃x,nth (bR h.entries) j=x:=⟨_,rfl⟩;rw[b]at l q;simp only[fE,wV]at n;obtain⟨rfl,rfl⟩:=n;have t:x∈bR h.entries:=by rw[<-b];exact gK A
  obtain⟨i,hfi,n,G⟩:=vF (rf x t).1;have J:hasB all x=(decide ((i:Int)=(k:Int))||dM h.entries k i):=by rw[<-T, <-G];unfold nK;rw[<-hks];exact axj U n hkl
  have G:hasB (gY h all j).up x=hasB h.up x:=by rw[<-b];exact aF8 U all A
  have t:gY h all (j+1)=if hasB all x&& !hasB h.up x then xI (gY h all j) x else gY h all j:=by rw[<-G, <-b];rfl
  refine CW.seq (CW.block ?_);refine aO ?_;refine ah (nZ A Bj) ?_;refine ah (bz iz (v:=.string x) l) ?_;refine ah bN ?_;refine bn (aO ?_);refine ah (br qq) ?_;refine ah (bz mR (v:=.slice O h.entries.length z) ((S.b0.cell 0).trans rfl)) ?_;refine ah aI ?_;refine dD (aH.calls (MK h.entries x) S.cM (vs:=[.slice O h.entries.length z,.string x]) ⟨_,_,rfl,S.kp I,_,[],rfl,⟨rfl,q⟩,rfl⟩) ?_;rintro _ O ⟨_,rfl,G,z⟩;obtain⟨rfl, -⟩:=G;rw[hfi];refine⟨_,rfl,?_⟩;have G:=S.below z;have I:=db (N':=N) ru z fun x b=>.inl b;have ro9:=db (N':=N) ro z fun x b=>.inl b;clear S ru ro l z;refine ah bN ?_;refine bn ?_;refine CW.sl [1,2,4,6,7,9,68,69,70,13,14] ?_;obtain⟨rb,l,rc,rfl,f⟩:=anu I n;refine CW.seq (agj [(1,.string s),(2,PH w.heap.size),(4,PH (w.heap.size+1)),(6,PH F.heap.size),(7,.int .i64 (k:Int)),(9,.slice (some ⟨rb,l,none⟩) h.entries.length rc),(68,.slice (some ⟨ub,uo,none⟩) (bR h.entries).length oc),(69,.int .i64 ((bR h.entries).length:Int)),(70,.int .i64 (j:Int)),(13,.string x),(14,.int .i64 (i:Int)),(93,.bool (hasB all x&& !hasB h.up x))] (fun X=>Below O.heap.size O X) (CW.region ?_) fun X hX=>aL ?_)
  ·refine ah aI ?_;refine ah aI ?_;refine ah (gX (b:=decide ((i:Int)=(k:Int))) (hb:=rfl)) ?_;refine ah aI ?_;rcases l:decide ((i:Int)=(k:Int))with _|_
   ·refine fY (b:=false) aI ?_;refine fY (b:=false) aI ?_;refine fY (b:=false) (nZ n aiD) ?_;refine fY (b:=false) (bz zD (v:=.bool (dM h.entries k i)) f) ?_;refine ah (pR rfl rfl rfl) ?_;refine ah aI ?_;rcases hrc:dM h.entries k i with _|_
    ·refine dO (b:=false) ?_;refine dO (b:=false) ?_;refine dO (b:=false) ?_;refine dO (b:=false) ?_;refine dO (b:=false) ?_;refine ah (pR rfl rfl rfl) ?_;exact WL.nil (LW ⟨rfl,rfl,rfl,rfl,rfl,rfl,rfl,rfl,rfl,rfl,rfl,by rw[J,l,hrc];rfl,trivial⟩ ⟨rfl,rfl,rfl,bM _,fun _ _=>rfl⟩)
    ·refine fY (b:=true) (br qt) ?_;refine fY (b:=true) (bz eX (v:=r) ((G.b0.cell 2).trans rfl)) ?_;refine fY (b:=true) aI ?_;refine wN (b:=true) (G.ask (Fv h.up x) ⟨_,_,rfl,G.kp qX,_,[],rfl,⟨rfl,q⟩,rfl⟩) ?_;rintro _ wc ⟨rfl, -,p⟩;refine⟨_,rfl,?_⟩;refine fY (b:=true) qE ?_;refine ah (nu rfl rfl rfl) ?_;exact WL.nil (LW ⟨rfl,rfl,rfl,rfl,rfl,rfl,rfl,rfl,rfl,rfl,rfl,by rw[J,l,hrc];rfl,trivial⟩ p)
   ·refine dO (b:=true) ?_;refine dO (b:=true) ?_;refine dO (b:=true) ?_;refine dO (b:=true) ?_;refine ah (nu rfl rfl rfl) ?_;refine ah aI ?_;refine fY (b:=true) (br qt) ?_;refine fY (b:=true) (bz eX (v:=r) ((G.b0.cell 2).trans rfl)) ?_;refine fY (b:=true) aI ?_;refine wN (b:=true) (G.ask (Fv h.up x) ⟨_,_,rfl,G.kp qX,_,[],rfl,⟨rfl,q⟩,rfl⟩) ?_;rintro _ wc ⟨rfl, -,p⟩;refine⟨_,rfl,?_⟩;refine fY (b:=true) qE ?_;refine ah (nu rfl rfl rfl) ?_;exact WL.nil (LW ⟨rfl,rfl,rfl,rfl,rfl,rfl,rfl,rfl,rfl,rfl,rfl,by rw[J,l];rfl,trivial⟩ p)
  have SA:=G.below hX;have z:=db (N':=N) I hX fun x b=>.inl b;have O:=db (N':=N) ro9 hX fun x b=>.inl b;clear G I ro9 hX f;rcases hc:hasB all x&& !hasB h.up x with _|_
  ·refine CW.no (CW.skip ?_);rw[hc]at t;refine rO (aL (CW.region ?_));refine ah (iE (r:=((j+1:Nat):Int)) (hb:=by rw[bC];omega)) ?_;refine ah aI ?_;exact WL.nil (NX.ag m' ⟨j+1,N,vu,by omega,rfl,by rw[t];exact SA,z,O⟩)
  ·rw[hc]at t;obtain⟨f,aK,hz,hsz,hby⟩:=wT (P:=az) (e:=9) (z:=.string ⟨#[]⟩) (size:=1) (bytes:=16) (by kernel_rfl);refine eC (aO ?_);refine ah (br qt) ?_;refine ah (bz eX (v:=vu) ((SA.q6.cell 2).trans rfl)) ?_;refine ah aI ?_;refine ah (VR rfl rfl rfl eX aK hsz hz rfl) ?_;have f:=iA X #[.string x] 9;have p:∀(j:Nat) (u:Value),[Value.string x][j]? =some u->(X.alloc (.cells #[.string x] 9)).cell? ((⟨X.heap.size,0,none⟩:Addr).add j)=some u:=fun j u hu=>FC (w:=X) (xs:=[.string x]) (T:=9) j u hu;generalize X.alloc (.cells #[.string x] 9)=wd at f p ⊢;have I:=SA.below f;have ruB:=db (N':=N) z f fun x b=>.inl b;have roB:=db (N':=N) O f fun x b=>.inl b;have f:=rk.u;have f:=C.ul;have f:=amA U;obtain⟨f,G,U,l,J,r⟩:=or_append (P:=az) (ty:=26) (c:=1) (a:=⟨X.heap.size,0,none⟩) eX aK hz hsz hby rfl (by decide) I.U I.H.nb (r:=[.str x]) (us:=[.string x]) rfl rfl (fun j d A=>by
    match j,A with
    |0,A=>cases A;exact⟨_,rfl,rfl,q⟩
    |j+1,A=>simp at A) p (by intro u hu;simp at hu;subst hu;rfl) (by rw[di];omega) (by decide)
   have l:OR M (fun y=>N y\/f.ownBlock=some y) G 9 1 (((gY h all j).up++[x]).map aB.cells) f:=by rw[zC];exact l
   have p:f.oneCell'=true:=by obtain⟨a,c,rfl,_⟩:=l.len;rfl
   have A:=I.q6.grown J fun e=>(I.ua _ e.symm).2.2 rfl;refine ah (rB rfl rfl rfl U) ?_;refine ah (br qt) ?_;refine qO (pS rfl rfl rfl (by kernel_rfl) p ((A.cell 2).trans rfl) (A.frozen 2)) ?_;have U:aA (G.setCell ⟨F.heap.size,0+2,none⟩ f) F.heap.size 29 (aD ve vp f vs vl):=A.xN 2 f;have p:bU G (G.setCell ⟨F.heap.size,0+2,none⟩ f) F.heap.size:=(bU.refl G F.heap.size).set (0+2) f;generalize G.setCell ⟨F.heap.size,0+2,none⟩ f=wf at U p ⊢;have SC:=I.rise Q J l r p U;have fe:dr (fun y=>vu.ownBlock=some y) wd G:=⟨J.os,J.tape,J.output,J.size,fun i hi l=>J.block i hi fun e=>l e.symm⟩;have l:∀y,vu.ownBlock=some y->N y:=fun y F=>(I.U.lt y F).1;have q:∀y,(N y\/f.ownBlock=some y)->N y\/wd.heap.size<=y:=fun y F=>F.elim .inl fun e=>by
    rcases r with F|F
    ·rw[F]at e;exact .inl (l y e)
    ·rw[F]at e;have:=iR e;exact .inr (by omega)
   have r:=iC (J3 ruB fe l q) p SC.n6;have F:=iC (J3 roB fe l q) p SC.n6;clear SA z O I ruB roB A U;refine bn (CW.region ?_);refine ah aI ?_;have l:i<(gY h all j).parts.length:=by rw[rk.n,hO.len];exact n
   have n:cO (gY h all j) x=i:=by unfold cO;rw[rk.e,hfi];rfl
   refine dD (aK4 Nq SC.H SC.q6 (fun p=>(SC.kv _ p).2 rfl) (.inl rfl) l (Cc (rk.p _ (gK l)))) ?_;rintro _ q ⟨rfl,l,p⟩;refine⟨_,rfl,?_⟩;have q:=SC.fr l p rfl;have l:=J6 SC.H;have z:=J3 (N':=fun y=>N y\/f.ownBlock=some y) r p (fun x b=>(l x b).1) fun x b=>.inl b;have r:=J3 (N':=fun y=>N y\/f.ownBlock=some y) F p (fun x b=>(l x b).1) fun x b=>.inl b;have b:gY h all (j+1)={gY h all j with up:=(gY h all j).up++[x],parts:=(gY h all j).parts.set i (nz (nth (gY h all j).parts i) mStart)}:=by rw[t,aC rfl];unfold xI;rw[n]
   refine WL.nil (rO (aL (CW.region ?_)));refine ah (iE (r:=((j+1:Nat):Int)) (hb:=by rw[bC];omega)) ?_;refine ah aI ?_;exact WL.nil (NX.ag m' ⟨j+1,_,f,by omega,rfl,by rw[b];exact q,z,r⟩)
 subst Z;obtain rfl:j=(bR h.entries).length:=by omega
 refine ah (gX (b:=false) (hb:=by simp[bg])) ?_;refine WL.nil (aL (CW.seq (CW.no (CW.exit (qg (qg (AV (aL ?_))))))));have b:(gY h all (bR h.entries).length).log.length<1048576:=by rw[rk.l];omega
 refine aO ?_;refine ah aI ?_;refine ah (kF (vs:=[(0,.int .i64 1),(1,.string s)]) (Te 1 s)) ?_;refine dD (aK5 Q (S.sb Q) (k:=1) (by decide) hs b) ?_;rintro _ f ⟨rfl,j,b,S7⟩;refine⟨_,rfl,?_⟩;clear S ru ro;refine bn (aO ?_);refine ah (bF cN S7.q6 bE) ?_;refine bW rfl (cs:=aD ve vp vu vs b) rfl S7.b1 S7.one bE fun wa z4 V=> ?_;refine ah bN ?_;obtain⟨Y,o,_⟩:=S7.ans Q (by decide) V;have hd:gM h s=qB (gY h all (bR h.entries).length) (jm 1 s):=by unfold gM;rw[aC ho,T]
 refine bn (CW.ret (qf rfl rfl rfl z4 cN rfl bE ⟨_,rfl,?_,o⟩));rw[hd,ho];exact⟨_,rfl,_,_,rfl,Y,_,_,rfl,rfl,rfl⟩
def ZO(C:QZ)(h:Host)(s:ByteArray)(a:oz h):aH az 6 none [enc h,.str s] (.aU [enc (gM h s),.bool (lO h s)]) [] :=
 CO (by kernel_rfl) fun w M vs G b=>by obtain⟨v,_,rfl,c,e,_,rfl,⟨rfl,d⟩,rfl⟩:=b;exact aKX C G c d a
end
section
open Go.RowKit
set_option maxRecDepth 1000000
def rbq:RB:=pT.filter fun x=> !Nat.beq x.1 56
def apW:VC:=.rq asv (.rq asw (.rq (.call [(rL,false)] 92 none [aV] bh []) (.ite (.or rL Hq) Xf (.rq aeC (.rq (.call [] 93 none [pq] aG []) (.rq (.call [] 94 none [cI,cZ] bh []) (.ite Ew (.ret (.bp KX (.cat uM (.cat lB (.cat tI (.cat PW (.cat PU fV)))))) []) (.rq (.call [] 95 (some [KS,Xd,(.cell bH 2),(.cell bH 3),(.cell bH 4),Xg]) [(.len Xg),aV] (.one Ky) wE) (.ret (.bp (.bp gB (.cat aey (.cat (.aq sO) (.cat Xu (.cat (.aq p7) (.cat (.aq pj) (.cat (.aq uN) fV))))))) fU) [])))))))))
def aKx:rJ az aJ rbq 56 none=apW:=by kernel_rfl
def aoO:List VT:=[(.one (.agg [.str,.bool,.bool,(.sl 168),(.int .i64),(.sl 151)])),(.one Cp)]
def aIV:rH az aJ 56 none=aoO:=by kernel_rfl
def apX:VC:=.ite (.an (.an bP (.sc .neq cW K2)) (.sc .neq cW K3)) (.ret Xv Hy) (.ite (.sc .eql cW asZ) (.ite bH (.ret Xv [aV,qJ,gF,bL,cI,cZ]) (.rq as0 (.ret Hz as1))) (.ite (.sc .eql cW Qh) (.ite sQ (.ret (.cat zl Au) Hy) (.ret Hz [aV,qJ,bP,bL,cI,cZ])) (.ite XQ (.ite XQ as2 as4) (.ite X4 as2 as4))))
def aKy:rJ az aJ rbq 132 (some [.str,.bool,.bool,(.sl 168),(.int .i64),(.sl 151)])=apX:=by kernel_rfl
def aoP:List VT:=[(.one Cp),cr,bh,bh,(.one (.c (.sl 168))),aG,(.one (.c (.sl 151)))]
def aIW:rH az aJ 132 (some [.str,.bool,.bool,(.sl 168),(.int .i64),(.sl 151)])=aoP:=by kernel_rfl
end
section
open Go.RowKit Go
variable [GC]
def ayc(p:Part){m:ByteArray}(a:m=mStart\/m=dY):aH az 132 (some (aB.cells p)) [enc (bK m)] (enc (fp p.core (bK m)).2) (aB.cells (⟨(fp p.core (bK m)).1,p.ak⟩:Part)):=by
 refine Yu (bc:=some (aB.cells p)) aKy rfl aIW Cm mo rfl (by unfold aoP;exact⟨Cq _,trivial,trivial,trivial,xR _,rfl,aoH _,trivial⟩) (fun h=>by cases h) fun _ _=> ?_;unfold apX;obtain⟨⟨kind,o,b,cells,count⟩,ak⟩:=p;cases b
 ·refine MW (by kernel_rfl) ?_;rcases a with rfl|rfl
  ·refine Jc (by kernel_rfl) ?_;cases o
   ·refine MW (by kernel_rfl) ?_;refine FF rfl (ax3 count) rfl ?_;exact⟨rfl,rfl⟩
   ·refine Jc (by kernel_rfl) ?_;exact⟨rfl,rfl⟩
  ·refine MW (by kernel_rfl) (Jc (by kernel_rfl) ?_);cases o
   ·exact Jc (by kernel_rfl) ⟨rfl,rfl⟩
   ·exact MW (by kernel_rfl) ⟨rfl,rfl⟩
 ·rcases a with rfl|rfl<;>exact Jc (by kernel_rfl) ⟨rfl,rfl⟩
def RunT(p:Part)(m:ByteArray)(k:Nat):Prop:=aH az 95 (some (aB.cells p)) [.int .i64 (k:Int),enc (bK m)] (enc (bo k p (bK m)).2) (aB.cells (bo k p (bK m)).1)
def aEM(w:World)(t b c d:TypeId)(c0 c1 c2 e:Array Value){a:World}(h:a=(((w.alloc (.cells c0 t)).alloc (.cells c1 b)).alloc (.cells c2 c)).alloc (.cells e d)) :
  Below w.heap.size w a/\aA a w.heap.size t c0/\aA a (w.heap.size+1) b c1/\aA a (w.heap.size+1+1) c c2/\aA a (w.heap.size+1+1+1) d e:=by
 subst h;refine⟨by go_grown,(((aA.new w _ _).alloc _).alloc _).alloc _,?_,?_,?_⟩
 ·have:=aA.new (w.alloc (.cells c0 t)) b c1;simp only[gb]at this;exact(this.alloc _).alloc _
 ·have:=aA.new ((w.alloc (.cells c0 t)).alloc (.cells c1 b)) c c2;simp only[gb]at this;exact this.alloc _
 ·have:=aA.new (((w.alloc (.cells c0 t)).alloc (.cells c1 b)).alloc (.cells c2 c)) d e;simp only[gb]at this;exact this
set_option maxHeartbeats 4000000 in
def aoi(p:Part){m:ByteArray}(hm:m=mStart\/m=dY){k:Nat}(IH:∀j,j+1=k->RunT p m j)(hk:k<=p.ak.length)(hn:∀i,i<k->(nth p.ak i).name≠pV):RunT p m k:=by
 refine⟨by kernel_rfl,fun w M g vs hM hr hb=> ?_⟩;obtain⟨y,T,hg,jq,q9,k0⟩:=hb _ rfl;obtain⟨v1,q,rfl,h1,vx,q',rfl,I,rfl⟩:=hr;obtain⟨rfl, -⟩:=h1;obtain⟨rfl,hxm,hxk,vU⟩:=Z3 I;have hgl:g<w.heap.size:=(aA.lt (t:=T) (cs:=y.toArray) hg);obtain⟨wa,J⟩:∃wa,wa=(((w.alloc (.cells #[.pointer (some ⟨g,0,none⟩)] 127)).alloc (.cells #[.int .i64 (k:Int)] 3)).alloc (.cells #[.string m,.string cL,.int .i64 0,.string cL] 31)).alloc (.cells eW 102):=⟨_,rfl⟩;obtain⟨HW,b0,b1,b2,b3⟩:=aEM _ _ _ _ _ _ _ _ _ J;have key:∀{A:World} {f:FuncId} {r:D} {O:List D} {ds:List D} {al:List Value},Below w.heap.size w A->aA A (w.heap.size+1+1+1) 102 eW->aH az f (some (aB.cells p)) ds r O->Rs A (BM M (· =w.heap.size+1+1+1)) ds al ->
   Calls az f (.pointer (some ⟨g,0,none⟩)::al).toArray A fun e t=>∃v,e=.returned v/\R t (BM M (· =w.heap.size+1+1+1)) r v/\Fr w.heap.size (some g) w t/\aA t (w.heap.size+1+1+1) 102 eW /\
    (∃y T,t.heap[g]? =some (.cells y.toArray T (0,0))/\Rs t (BM M (· =w.heap.size+1+1+1)) O y):=fun {A f r O ds al} n B3 hF hds=>by
  have hK:bQ w M A (BM M (· =w.heap.size+1+1+1)):=bQ.below n fun q z h=>h.elim id fun e=>absurd e (by have:=z;omega);refine(hF.2 A (BM M (· =w.heap.size+1+1+1)) g al (hM.below n fun q hq=>hq.elim (fun h=>dS (hM.1 q h) n.size) fun h=>by have:=B3.lt;omega) hds
   (fun cs' e=>by cases e;exact⟨y,T,(n.block g hgl).trans hg,Rs.keep hK _ _ jq,q9,fun q e=>.inl (k0 q e)⟩)).mono fun e t h=> ?_
  obtain⟨v,h1,h2,Z,h4⟩:=h;refine⟨v,h1,h2,⟨Z.os.trans n.os,Z.tape.trans n.tape,Z.output.trans n.output,dK n.size Z.size,fun i Q hx=>(Z.block i (by have:=n.size;omega) hx).trans (n.block i Q)⟩,(Z.block _ B3.lt (fun e=>by have e:w.heap.size+1+1+1=g:=iR e;omega)).trans B3,h4 rfl⟩
 have fin:∀{t C:World} {r:gH} {O:List D},Fr w.heap.size (some g) w t->bU t C (w.heap.size+1+1+1)->R t (BM M (· =w.heap.size+1+1+1)) (enc r) (.agg (fN r)) ->
   (∃y T,t.heap[g]? =some (.cells y.toArray T (0,0))/\Rs t (BM M (· =w.heap.size+1+1+1)) O y)->R C M (enc r) (.agg (fN r))/\Fr w.heap.size (some g) w C/\(true=true->∃y T,C.heap[g]? =some (.cells y.toArray T (0,0))/\Rs C M O y):=fun {t C r O} hf S hr hc=>by
  have hK:bQ t (BM M (· =w.heap.size+1+1+1)) C M:=fun q u hp hn=>⟨(BM.one (M:=M) (N:=(· =w.heap.size+1+1+1)) S rfl q u hp hn).1,fun h=>hn (.inl h)⟩;obtain⟨Ct,T',c1,c2⟩:=hc;exact⟨R.keep hK _ _ hr,⟨S.os.trans hf.os,S.tape.trans hf.tape,S.output.trans hf.output,dK hf.size (lH S.size.symm),fun i Q hx=>(S.block i (by omega)).trans (hf.block i Q hx)⟩,fun _=>⟨Ct,T',(S.block g (by omega)).trans c1,Rs.keep hK _ _ c2⟩⟩
 refine pH (E:=[(0,.pointer (some ⟨g,0,none⟩)),(1,.int .i64 (k:Int)),(2,lJ (bK m))]) Tryz.func95 rfl Tryz.ntmps95 (by simp) (by simp) ?_;refine aO ?_;refine ah uG ?_;refine ah uG ?_;refine ah uG ?_;refine ah (eQ rfl mJ) ?_;refine bn ?_;show CW _ az _ _ _ ((((w.alloc (.cells #[.pointer (some ⟨g,0,none⟩)] 127)).alloc (.cells #[.int .i64 (k:Int)] 3)).alloc (.cells #[.string m,.string cL,.int .i64 0,.string cL] 31)).alloc (.cells eW 102));refine CW.sub (E':=[(3,.pointer (some ⟨w.heap.size,0,none⟩)),(4,.pointer (some ⟨w.heap.size+1,0,none⟩)),(5,.pointer (some ⟨w.heap.size+1+1,0,none⟩)),(6,.pointer (some ⟨w.heap.size+1+1+1,0,none⟩))]) ⟨rfl,by simp only[gb];rfl,by simp only[gb];rfl,by simp only[gb];rfl,trivial⟩ ?_;rw[<-J];clear J hb;cases k with
 |zero=> refine CW.seq (aO ?_);refine ah (bz kO (b1.cell 0)) ?_;refine ah (gX (b:=true) (hb:=rfl)) ?_;refine WL.nil (aL (eC ?_));refine CW.seq (CW.tail 4 mo (by kernel_rfl) fun A hwd B=> ?_);replace b0:=b0.below B b0.lt;replace b2:=b2.below B b2.lt;replace b3:=b3.below B b3.lt;have n:=bt HW B;refine wP rfl rfl (bz Zk (b0.cell 0)) (by decide) ?_;refine wP rfl rfl (Ah rfl rfl) (by decide) ?_;refine wP rfl rfl (br Ni) (by decide) ?_;refine wP rfl rfl (bF ud b2 uC) (by decide) ?_;refine axh ?_;refine WL.c rfl rfl (sE (args:=#[.pointer (some ⟨g,0,none⟩),lJ (bK m)]) ayM rfl rfl rfl) (by decide) (key n b3 (ayc p hm) ⟨_,[],rfl,R.keep (bQ.below n fun q z h=>h.elim id fun e=>absurd e (by have:=z;omega)) _ _ I,rfl⟩) ?_;rintro _ t ⟨v,rfl,hv,U,R5,V⟩;obtain rfl:=VZ hv;refine⟨_,rfl,?_⟩;refine bW rfl rfl R5 (jI _) cz fun C R9 O9=> ?_;refine WL.nil (aL (CW.ret ?_));exact NX.ret (LR rfl rfl R9 gC rfl cz ⟨_,rfl,fin U O9 hv V⟩)
 |succ k=>
  have Q:iB (bK m)=false:=by rcases hm with rfl|rfl<;>decide +kernel
  have hno:∀s,mStart≠s/\dY≠s->decide (m=s)=false:=fun s h=>Zx fun e=>hm.elim (fun q=>h.1 (q.symm.trans e)) fun q=>h.2 (q.symm.trans e);have hz:∀{c:Bool} {s:ByteArray},mStart≠s/\dY≠s->some (Value.bool (c&&gx .eql m s))=some (.bool false):=fun h=>by rw[oJ,hno _ h,YT]
  have hy:∀{c:Bool},some (Value.bool (c&&iB (bK m)))=some (.bool false):=by rw[Q];simp
  have hnt:=hn k (by omega);have e:bo (k+1) p (bK m)=bo k p (bK m):=by have n1:∀s,mStart≠s/\dY≠s->¬(bK m).method=s:=fun s h=>of_decide_eq_false (hno s h);rw[bo,aw fun h=>n1 jT (by decide +kernel) h.2,aw (by simp[Q]),aw (by simp[Q]),aw fun h=>n1 jS (by decide +kernel) h.2,aw fun h=>n1 jG (by decide +kernel) h.2,aw fun h=>n1 jr (by decide +kernel) h.2,aw hnt]
  rw[e];obtain⟨u0,_,hu0, -,u1,_,rfl, -,u2,_,rfl, -,u3,_,rfl, -,u4,_,rfl, -,u5,_,rfl,h5,rfl⟩:=id jq;subst hu0;obtain⟨a,len,cap,rfl,hlen,hle,G,X,Y⟩:=h5;rw[di]at hlen;obtain⟨⟨b,o,s⟩,rfl⟩:∃x,a=some x:=by cases a with|none=>have:=X rfl;omega|some x=>exact⟨x,rfl⟩
  obtain⟨hs,vR⟩:=Y b o s rfl;obtain rfl:=hs (by omega);obtain⟨⟨vn,F, -,rfl, -⟩, -⟩:=vR.get (n:=2) (fun r h=>by obtain⟨x, -,rfl⟩:=fJ.1 h;rfl) (get_map p.ak (show k<p.ak.length by omega));have hw:dL .sub .i64 ((k+1:Nat):Int) 1=(k:Int):=by unfold maxLen at G;rw[mz];omega
  refine CW.seq (aO ?_);refine ah (bz kO (b1.cell 0)) ?_;refine ah (gX (b:=false) (hb:=by simp[bg];omega)) ?_;refine WL.nil (aL (CW.no (CW.skip (aL ?_))));refine CW.seq (avp mo (by kernel_rfl) fun A hwd B=> ?_);replace b0:=b0.below B b0.lt;replace b1:=b1.below B b1.lt;replace b2:=b2.below B b2.lt;replace b3:=b3.below B b3.lt;have n:=bt HW B;replace F:=Dl n F;have c5:=aA.cell (show aA A g T _ from(n.block g hgl).trans hg) 5;refine wP rfl rfl (bz Zk (b0.cell 0)) (by decide) ?_;refine wP rfl rfl (Ah rfl rfl) (by decide) ?_;refine wP rfl rfl (br Bm) (by decide) ?_;refine wP rfl rfl (bz zE c5) (by decide) ?_;refine wP rfl rfl (bz kO (b1.cell 0)) (by decide) ?_;refine wP rfl rfl (iE (hb:=hw)) (by decide) ?_;refine wP rfl rfl (yT rfl rfl rfl (by omega) (by omega) Dq) (by decide) ?_;refine wP rfl rfl bN (by decide) ?_;refine axg (aL ?_);have y0:=b2.cell 0;refine CW.sl [3,4,5,6,7] ?_;refine aO ?_;refine ah (aFI (ps:=#[.pointer (some ⟨w.heap.size,0,none⟩),.pointer (some ⟨w.heap.size+1,0,none⟩)]) rfl rfl) ?_;refine ah bN ?_;refine bn ?_;refine CW.seq (CW.region (aoh rfl rfl rfl rfl rfl rfl rfl rfl rfl rfl rfl rfl rfl rfl rfl rfl rfl rfl rfl rfl rfl rfl rfl rfl rfl rfl rfl (by decide) rfl (fun _ _ _ _=>rfl) (by decide) iz rfl vJ y0 ?_));intro E1 d l;refine aL (CW.sub (E':=Ef w b o k (bK m)) ⟨(d 3 (by decide)).trans rfl,(d 4 (by decide)).trans rfl,(d 5 (by decide)).trans rfl,(d 6 (by decide)).trans rfl,(d 7 (by decide)).trans rfl,(d 8 (by decide)).trans rfl,l.trans (by rw[oJ,oJ];rfl),trivial⟩ ?_);refine CW.seq (CW.block ?_);refine CW.seq (CW.region (Wq rfl rfl rfl rfl rfl rfl rfl rfl rfl rfl rfl rfl rfl rfl rfl rfl rfl rfl rfl rfl rfl rfl rfl rfl rfl rfl rfl rfl rfl rfl rfl rfl rfl (by decide) (fun _ _ _ _ _ _=>rfl) (by decide) rfl Dt iz rfl F vJ y0 ?_));intro E1 d l;refine aL (CW.sub (E':=(36,.bool false)::Ef w b o k (bK m)) ⟨l.trans (hz (by decide +kernel)),(d 3 (by decide)).trans rfl,(d 4 (by decide)).trans rfl,(d 5 (by decide)).trans rfl,(d 6 (by decide)).trans rfl,(d 7 (by decide)).trans rfl,(d 8 (by decide)).trans rfl,(d 9 (by decide)).trans rfl,trivial⟩ (CW.no ?_))
  refine CW.seq (CW.region (aog rfl rfl rfl rfl rfl rfl rfl rfl rfl rfl rfl rfl rfl rfl rfl rfl rfl rfl rfl rfl rfl rfl rfl rfl rfl rfl rfl (by decide) (fun _ _ _ _ _ _=>rfl) (by decide) rfl Dt iz rfl F ?_));intro E1 d l;refine aL (CW.sub (E':=(52,.bool false)::Ef w b o k (bK m)) ⟨l.trans hy,(d 3 (by decide)).trans rfl,(d 4 (by decide)).trans rfl,(d 5 (by decide)).trans rfl,(d 6 (by decide)).trans rfl,(d 7 (by decide)).trans rfl,(d 8 (by decide)).trans rfl,(d 9 (by decide)).trans rfl,trivial⟩ (CW.no ?_));refine CW.seq (CW.region (aog rfl rfl rfl rfl rfl rfl rfl rfl rfl rfl rfl rfl rfl rfl rfl rfl rfl rfl rfl rfl rfl rfl rfl rfl rfl rfl rfl (by decide) (fun _ _ _ _ _ _=>rfl) (by decide) rfl Dt iz rfl F ?_));intro E1 d l;refine aL (CW.sub (E':=(75,.bool false)::Ef w b o k (bK m)) ⟨l.trans hy,(d 3 (by decide)).trans rfl,(d 4 (by decide)).trans rfl,(d 5 (by decide)).trans rfl,(d 6 (by decide)).trans rfl,(d 7 (by decide)).trans rfl,(d 8 (by decide)).trans rfl,(d 9 (by decide)).trans rfl,trivial⟩ (CW.no ?_));refine CW.seq (CW.region (Wq rfl rfl rfl rfl rfl rfl rfl rfl rfl rfl rfl rfl rfl rfl rfl rfl rfl rfl rfl rfl rfl rfl rfl rfl rfl rfl rfl rfl rfl rfl rfl rfl rfl (by decide) (fun _ _ _ _ _ _=>rfl) (by decide) rfl Dt iz rfl F vJ y0 ?_));intro E1 d l;refine aL (CW.sub (E':=(100,.bool false)::Ef w b o k (bK m)) ⟨l.trans (hz (by decide +kernel)),(d 3 (by decide)).trans rfl,(d 4 (by decide)).trans rfl,(d 5 (by decide)).trans rfl,(d 6 (by decide)).trans rfl,(d 7 (by decide)).trans rfl,(d 8 (by decide)).trans rfl,(d 9 (by decide)).trans rfl,trivial⟩ (CW.no ?_));refine CW.seq (CW.region (Wq rfl rfl rfl rfl rfl rfl rfl rfl rfl rfl rfl rfl rfl rfl rfl rfl rfl rfl rfl rfl rfl rfl rfl rfl rfl rfl rfl rfl rfl rfl rfl rfl rfl (by decide) (fun _ _ _ _ _ _=>rfl) (by decide) rfl Dt iz rfl F vJ y0 ?_));intro E1 d l;refine aL (CW.sub (E':=(112,.bool false)::Ef w b o k (bK m)) ⟨l.trans (hz (by decide +kernel)),(d 3 (by decide)).trans rfl,(d 4 (by decide)).trans rfl,(d 5 (by decide)).trans rfl,(d 6 (by decide)).trans rfl,(d 7 (by decide)).trans rfl,(d 8 (by decide)).trans rfl,(d 9 (by decide)).trans rfl,trivial⟩ (CW.no ?_))
  refine CW.seq (CW.region (Wq rfl rfl rfl rfl rfl rfl rfl rfl rfl rfl rfl rfl rfl rfl rfl rfl rfl rfl rfl rfl rfl rfl rfl rfl rfl rfl rfl rfl rfl rfl rfl rfl rfl (by decide) (fun _ _ _ _ _ _=>rfl) (by decide) rfl Dt iz rfl F vJ y0 ?_));intro E1 d l;refine aL (CW.sub (E':=(146,.bool false)::Ef w b o k (bK m)) ⟨l.trans (hz (by decide +kernel)),(d 3 (by decide)).trans rfl,(d 4 (by decide)).trans rfl,(d 5 (by decide)).trans rfl,(d 6 (by decide)).trans rfl,(d 7 (by decide)).trans rfl,(d 8 (by decide)).trans rfl,(d 9 (by decide)).trans rfl,trivial⟩ (CW.no ?_));refine aO ?_;refine ah aI ?_;refine ah (Ah rfl rfl) ?_;refine ah (br Dt) ?_;refine ah (bz iz F) ?_;refine ah (aFF rfl rfl rfl (show _=false from(oJ _ _).trans (Zx hnt))) ?_;refine ah bN ?_;refine WL.nil (aL (avo (E':=(161,.bool false)::Ef w b o k (bK m)) (CW.no (CW.skip (rO (aL ?_))))));refine aO ?_;refine ah (bz Zk (b0.cell 0)) ?_;refine ah (bz kO (b1.cell 0)) ?_;refine ah (iE (hb:=hw)) ?_;refine ah (bF ud b2 uC) ?_;refine WL.c rfl rfl (sE (args:=#[.pointer (some ⟨g,0,none⟩),.int .i64 ((k:Nat):Int),lJ (bK m)]) ayN rfl rfl rfl) (by decide) (key n b3 (IH k rfl) ⟨_,_,rfl,⟨rfl,by show(-9223372036854775808:Int)<=k;omega,by show(k:Int)<=9223372036854775807;unfold maxLen at G;omega⟩,_,[],rfl,R.keep (bQ.below n fun q z h=>h.elim id fun e=>absurd e (by have:=z;omega)) _ _ I,rfl⟩) ?_;rintro _ t ⟨v,rfl,hv,U,R5,V⟩;obtain rfl:=VZ hv;refine⟨_,rfl,?_⟩;refine bW rfl rfl R5 (jI _) cz fun C R9 O9=> ?_;refine WL.nil (aL (CW.ret ?_));exact LR rfl rfl R9 gC rfl cz ⟨_,rfl,fin U O9 hv V⟩
def aFM(p:Part){m:ByteArray}(b:m=mStart\/m=dY)(n:∀i,i<p.ak.length->(nth p.ak i).name≠pV)(k:Nat):k<=p.ak.length->RunT p m k:=by
 induction k with
 |zero=>exact fun a=>aoi p b (fun j h=>by omega) a fun i c=>by omega
 |succ k ih=>
  exact fun a=>aoi p b (fun j h=>by
   have e:j=k:=by omega
   subst e;exact ih (by omega)) a fun i c=>n i (by omega)
def aDD{s:ByteArray}(h:pM s=true)(hg:cw (qW s) 1=true):s≠pV/\∀f:Nat,f<64->cw f (mK s)=true->cw f 1=true:=by
 obtain⟨i,rfl,a,b⟩:=alr h;rw[b]at hg;have key:∀i:Fin 9,cw (Gw.getD i.val 0:Nat) 1=true->nth ak i.val≠pV/\∀f:Fin 64,cw (f.val:Nat) (DP.getD i.val 0:Nat)=true->cw (f.val:Nat) 1=true:=by decide +kernel
 refine⟨(key i hg).1,fun f c h=> ?_⟩;rw[a]at h;exact(key i hg).2 ⟨f,c⟩ h
def amc{p:Part}(a:dC p=true):∀k,k<=p.ak.length->cw (fP p k) 1=true->∀i,i<k->(nth p.ak i).name≠pV
 |0,_,_=>fun i b=>by omega
 |k+1,d,h=>by
  unfold dC at a;simp only[aX,jC]at a;have l:=a.2 k (by omega);unfold rn at l;simp only[aX]at l;have f:fP p (k+1)=qW (nth p.ak k).name:=by unfold fP;simp
  rw[f]at h;obtain⟨z,c⟩:=aDD l.1.1.1 h;intro i b;by_cases e:i=k
  ·rw[e];exact z
  ·exact amc (by unfold dC;simp only[aX,jC];exact a) k (by omega) (c _ (zM p k) l.1.1.2) i (by omega)
def adG:QZ:=fun p m d b=>by
 refine Yu aKx rfl aIV Cm mo rfl (by unfold aoO;exact⟨kH _,Cq _,trivial⟩) (fun _=>rfl) fun _ _=> ?_;unfold apW;refine dU (ZP p (dK d.1 (by decide)) (dK d.2 (by decide))) (hty:=kH _) ?_;refine aF (ZJ p) ?_;refine aF (ahv (bK m)) ?_;have e:gu (bK m)=true:=by rcases b with rfl|rfl<;>decide +kernel
 have f:cg m=1:=by rcases b with rfl|rfl<;>decide +kernel
 have n:m≠jT/\m≠jS/\m≠jG/\m≠jr/\m≠kW:=by rcases b with rfl|rfl<;>decide +kernel
 apply ai<;>intro c<;>simp only[eS,e]at c
 ·exact⟨by unfold gJ;rw[aC (.inl (by simpa using c))];rfl,rfl⟩
 ·have a:dC p=true:=by simpa using c
  refine aF (MJ p) ?_;refine aF (axX m) ?_ (ha:=by(simp only[gS,fF,bK];try exact rfl));refine aF (Ti (fq p) (cg m)) ?_;have i:gJ p (bK m)=if cw (fq p) (cg m)=false then(p,rep 1 0 (cg m) (fq p))else bo p.ak.length p (bK m):=by unfold gJ;rw[aw (by simp[a,e])];rfl
  rw[i];apply ai<;>intro h<;>simp only[eS]at h
  ·exact⟨by rw[aC (by simpa using h)];rfl,rfl⟩
  ·have h:cw (fq p) (cg m)=true:=by simpa using h
   rw[aw (by simp[h])];refine⟨enc (bo p.ak.length p (bK m)).2,aB.cells (bo p.ak.length p (bK m)).1,wC _,kH _,fun _=> ?_,?_⟩
   ·show aH _ _ (some (aB.cells p)) [.int .i64 (cG (aj p.ak)),enc (bK m)] _ _;rw[show cG (aj p.ak)=(p.ak.length:Int) by simp[cG,aj]];exact aFM p b (amc a _ (bM _) (f▸h)) _ (bM _)
   ·exact⟨rfl,rfl⟩
end
section
open Go.RowKit Go.ChangeShapes Go.WideShapes Go.ChangeAt
variable [GC]
def opn(tb:TB):Nat->Nat->Bool
 |0,_=>false
 |d+1,T=>match tb.get T with
  |none=>false
  |some ti=>match ti.vt with
   |.one (.c (.sl e))=>opn tb d e&&Nat.blt 0 (tb.tab e).length
   |.one (.c _)=>true
   |.one (.agg t)=>Bg tb 0 t ti.fs&&ti.fs.all (fun x=>opn tb d x.2)
   |.aU _=>false
def amr{tb:TB}{d T:Nat}(h:opn tb d T=true):∃ti v,tb.get T=some ti/\ti.vt=.one v/\tb.tab T=v.cells:=by
 cases d with
 |zero=>simp[opn]at h
 |succ d=>
  simp only[opn]at h;split at h
  ·simp at h
  ·rename_i ti t;cases a:ti.vt with
   |aU _=>rw[a]at h;simp at h
   |one v=>exact⟨ti,v,t,a,by simp[TB.tab,t,TI.cells,a]⟩
def auY(tb:TB)(T:Nat):VT:=match tb.get T with|some t=>t.vt|none=>.aU []
def M0:Addr->Prop:=fun _=>False
section
variable {H:Type}{enc:TypeId×Value->H}{P:Program}{w:World}{base:Nat}{spare:Nat->Bool}{held:Bool}{tb:TB}
def aGf{M:Addr->Prop}{ds:List D}{cs:List Value}{b o:Nat}(h:Rs w M ds cs)(c:∀j u,cs[j]? =some u->w.cell? ⟨b,o+j,none⟩=some u)(a:∀p,¬M p):Rw w M ds b o :=
 CV fun i d e=>by obtain⟨v,f,k⟩:=h.get e;exact⟨v,c i v f,a _,k⟩
def ahY(c:cX P tb tb=true){d T:Nat}(h:opn tb d T=true):P.cellsOf T=(tb.tab T).length:=by obtain⟨t,v,a,b,e⟩:=amr h;obtain⟨i,f,s,_⟩:=tH c a b;simp[Program.cellsOf,f,s,e]
def amq{cs:List Value}:∀(f:List (Nat×Nat)) (o:Nat) (s:List CT),Bg tb o s f=true ->
  (∀p∈f,∃ds,bD tb.tab (tb.tab p.2) ds/\Rs w M0 ds ((cs.drop p.1).take (tb.tab p.2).length))->cs.length=o+s.length->∃ds,bD tb.tab s ds/\Rs w M0 ds (cs.drop o)
 |[],o,s,h,_,l=>by simp only[Bg,List.isEmpty_iff]at h;subst h;refine⟨[],trivial,?_⟩;rw[Iv (by simp at l;omega)];rfl
 |(m,t)::r,o,s,h,c,l=>by
  simp only[Bg,aX]at h;obtain⟨h1,h2⟩:=h;have h1:=gI h1;subst h1;cases b:tb.get t with
  |none=>rw[b]at h2;simp at h2
  |some i=>
   rw[b]at h2;simp only[aX,du]at h2;obtain⟨h2,e⟩:=h2;have a:tb.tab t=i.cells:=by simp[TB.tab,b]
   obtain⟨ds,q1,q2⟩:=c (o,t) (by simp);simp only[a]at q1 q2;have j:i.cells.length<=s.length:=by have:=congrArg List.length h2;rw[lG]at this;omega
   obtain⟨d,q3,q4⟩:=amq r (o+i.cells.length) (s.drop i.cells.length) e (fun p k=>c p (by simp[k])) (by rw[Mf];omega);refine⟨ds++d,?_,?_⟩
   ·have:s=i.cells++s.drop i.cells.length:=(Db i.cells.length s).symm.trans (by rw[h2]);rw[this];exact q1.append q3
   ·have:cs.drop o=(cs.drop o).take i.cells.length++cs.drop (o+i.cells.length):=by rw[<-C9,Db]
    rw[this];exact q2.append q4
def ac4(l:cX P tb tb=true):∀(d T:Nat),opn tb d T=true->∀(J:Nat) (cs:List Value) (x:DataW H×List MemPlace),DataW.trod enc P w base spare held J T cs=some x->∃ds,bD tb.tab (tb.tab T) ds/\Rs w M0 ds cs
 |0,_,h,_,_,_,_=>by simp[opn]at h
 |d+1,T,h,J,cs,x,hx=>by
  simp only[opn]at h;split at h
  ·simp at h
  ·rename_i ti S;have j:tb.tab T=ti.cells:=by simp[TB.tab,S]
   rw[j];cases p:ti.vt with
   |aU _=>rw[p]at h;simp at h
   |one v=>
    rw[p]at h;simp only[TI.cells,p];cases v with
    |c t=>
     obtain⟨i,ds,_,_,_,_,B,I⟩:=fX l S p;cases t with
     |mem=>exact I.elim
     |fn=>exact I.elim
     |bool=> simp only[iI]at I;subst I;obtain⟨b,rfl,_⟩:=DataW.trod_bool B hx;exact⟨[.bool b],⟨trivial,trivial⟩,Rs.one rfl⟩
     |int k=> simp only[iI]at I;subst I;obtain⟨n,rfl,_,j⟩:=DataW.trod_int B hx;exact⟨[.int k n],⟨rfl,trivial⟩,Rs.one ⟨rfl,by simpa[Lit.wf]using j⟩⟩
     |str=> simp only[iI]at I;subst I;obtain⟨s,rfl,_,j⟩:=DataW.trod_string B hx;exact⟨[.str s],⟨trivial,trivial⟩,Rs.one ⟨rfl,j⟩⟩
     |sl e=>
      simp only[iI]at I;subst I;simp only[aX]at h;obtain⟨Q,C⟩:=h;have C:0<(tb.tab e).length:=gT C;have Z:=ahY l Q;rcases Go.Deep.open_slice B hx with⟨U,_⟩|⟨a,len,cap,m,n,o,r,I,_,J,hm,j,_,A⟩
      ·exact⟨[.sl []],⟨trivial,trivial⟩,by rw[U];exact Rs.one ⟨none,0,0,rfl,rfl,bM _,fW _,fun _=>rfl,fun b o s Y=>by cases Y⟩⟩
      ·have r:len<=m:=by rw[j];split<;>omega
       have j:∀i,i<len->∃q:List Value×List D,w.cells? base (a.add (i*P.cellsOf e)) (P.cellsOf e)=some q.1/\bD tb.tab (tb.tab e) q.2/\Rs w M0 q.2 q.1:=fun i z=>by obtain⟨r,T,F⟩:=A i (by omega);obtain⟨y,G,O⟩:=ac4 l d e Q _ _ _ F;exact⟨(r,y),T,G,O⟩
       have r:∃f:Nat->List Value×List D,∀i,i<len->w.cells? base (a.add (i*P.cellsOf e)) (P.cellsOf e)=some (f i).1/\bD tb.tab (tb.tab e) (f i).2/\Rs w M0 (f i).2 (f i).1:=by refine⟨fun i=>if A:i<len then(j i A).choose else([],[]),fun i A=> ?_⟩;simp only[A,dif_pos];exact(j i A).choose_spec
       obtain⟨f,O⟩:=r;have F:∀i,i<len->∀j u,(f i).1[j]? =some u->w.cell? ((a.add (i*P.cellsOf e)).add j)=some u:=fun i z j u B=>by
        obtain⟨_,r,G⟩:=World.cells?_some (O i z).1;have Q:j<P.cellsOf e:=by rw[<-r];exact(dh.1 B).1
        rw[G j Q,B]
       have G:0<len->a.spot=none:=fun U=>by
        have V:0<(f 0).1.length:=by rw[(O 0 U).2.2.length,(O 0 U).2.1.length];exact C
        have hx:=F 0 U 0 _ (bX V);rw[Nat.zero_mul]at hx;exact World.cell?_spot (a:=a) (by simpa[Addr.add]using hx)
       refine⟨[.sl ((List.range len).map fun i=>(f i).2)],⟨?_,trivial⟩,?_⟩
       ·refine sW fun r X=> ?_;obtain⟨i,A,rfl⟩:=fJ.1 X;exact(O i (by simpa using A)).2.1
       ·rw[I];refine Rs.one ⟨some a,len,cap,rfl,by simp,J,hm,(fun h=>by cases h),fun b o s Y=>⟨fun U=> ?_,?_⟩⟩
        ·have:=G U;simp only[aS]at Y;subst Y;exact this
        ·simp only[aS]at Y;subst Y;refine AZ (n:=(tb.tab e).length) (fun r X=> ?_) fun i r X=> ?_
         ·obtain⟨i,A,rfl⟩:=fJ.1 X;exact(O i (by simpa using A)).2.1.length
         ·have z:i<len:=by have:=(dh.1 X).1;simpa using this
          have o:r=(f i).2:=by simp[z]at X;exact X.symm
          subst o;refine aGf (O i z).2.2 (fun j u B=> ?_) (fun _ h=>h);have r:=F i z j u B;have o:=G (by omega);simp only at o;subst o;rw[Z]at r
          rwa[addr_add,addr_add]at r
    |agg C=>
     simp only[aX]at h;obtain⟨T,j⟩:=h;obtain⟨i,fields,z,A,o,_,_,_,B,r⟩:=pX l S p;obtain⟨F,m,_,_,J,z,O⟩:=DataW.trod_struct B hx;have p:cs.length=C.length:=by rw[J];simp[Program.cellsOf,A,o]
     have key:∀p∈ti.fs,∃ds,bD tb.tab (tb.tab p.2) ds/\Rs w M0 ds ((cs.drop p.1).take (tb.tab p.2).length):=by
      intro p A;have o:=fH.1 j p A;obtain⟨k,B⟩:=List.getElem?_of_mem A;have j:∃Z,fields.toList[k]? =some Z/\Z.offset=p.1/\Z.type=p.2:=Ub r B;obtain⟨Z,r,A,B⟩:=j;have Q:fields[k]? =some Z:=by simpa using r
      have j:k<F.length:=by rw[z];exact(rS.1 Q).1
      have r:=(O k Z Q).trans (bX j);rw[A,B,ahY l o]at r;exact ac4 l d p.2 o _ _ _ r
     have:=amq (w:=w) ti.fs 0 C T key (by omega);simpa[V1.cells]using this
def aFd(a:cX P tb tb=true){r:Reach}{b0 T:Nat}{v:Value}{y:DataW H}{p:List MemPlace}(n:opn tb 12 T=true)(f:Value.okWide P w r b0 T v)(h:DataW.Trod enc P w base spare held T v y p) :
  ∃x,bG tb.tab (auY tb T) x/\R w M0 x v:=by
 obtain⟨l,z⟩:=h;obtain⟨s,j,m⟩:=ac4 a 12 T n l _ _ z;obtain⟨F,v1,i,b,k⟩:=amr n;rw[k]at j;unfold auY;rw[i];simp only[b];cases v1 with
 |c t=>
  obtain⟨_,d,_,_,_,_,u,o⟩:=fX a i b;have A:v.cells.toList=[v]:=by
   cases t<;>simp only[iI]at o<;>subst o
   ·obtain⟨_,rfl⟩:=okWide_bool u f;rfl
   ·obtain⟨_,rfl⟩:=okWide_int u f;rfl
   ·obtain⟨_,rfl⟩:=okWide_string u f;rfl
   ·obtain⟨_,_,_,rfl⟩:=okWide_slice u f;rfl
  rw[A]at m
  match s,j with
  |[x],j=> obtain⟨G,q,e,B,I⟩:=m;simp only[A6]at e;obtain⟨rfl,rfl⟩:=e;exact⟨x,j.1,B⟩
 |agg J=> obtain⟨_,fields,_,_,_,_,_,_,u,_⟩:=pX a i b;obtain⟨C,rfl,_⟩:=okWide_struct u f;exact⟨.agg s,j,C,rfl,m⟩
end
theorem law_run{P:Program}{f:FuncId}{ds:List D}{vs:List Value}{w:World}(h:aH P f none ds (.bool true) [])(G:ek w M0)(r:Rs w M0 ds vs):Calls P f vs.toArray w fun e w'=>e=.returned (.bool true)/\Below w.heap.size w w':=by refine(h.2 w M0 0 vs G r (fun s c=>by cases c)).mono ?_;rintro e w' ⟨v,rfl,a,b,_⟩;simp only[R]at a;subst a;exact⟨rfl,b.Eg⟩
end
section
open Go.RowKit Go Go.ChangeShapes
def aAH{H:Type}{enc:TypeId×Value->H}{a:Assume}{C:Checked}{os:Os}{f:FuncId}{fn:Func}{s:ChangeSpec}{c:List PathCond}{apart fresh h again:Bool}{X:World->Array Value->Prop}
  (x:∀(w w':World) (args:Array Value),w.heap=w'.heap->X w args->X w' args)
  (own:ownKnob C.prog.godebug=none) (r:os.Started) (I:C.prog.inits.idxOf? f=none) (q:C.prog.funcs[f]? =some fn)
  (n:∃(w:World) (p:Tape) (i:Input),w.os=os/\(w.forCall p i).Shaped C.prog/\i.vars=[]/\Input.okWide C.prog (w.forCall p i) .any w.heap.size f i /\
   ((s.pre enc C.prog fn c apart (w.forCall p i).memory i.args/\X (w.forCall p i).memory i.args)/\sizedMet enc C.prog fn (OpenSpec.ofChange s) apart (w.forCall p i).memory i.args)/\a.holds C.prog (lone (Frame.enter C.prog f i.args .normal) [] (w.forCall p i)))
  (o:∀(W:World) (base:Nat) (args:Array Value) (ds gs:List (DataW H)) (b:List MemPlace),
   (∀(j:Nat) t v,fn.params[j]? =some t->args[j]? =some v->Value.okWide C.prog W .any base t v) ->
   DataW.Whole enc C.prog fn.params.toList s.vars apart W args.toList ds gs b ->
   c.all (PathCond.test C.prog ⟨fn.params.toList,ds,s.plain.varTypes C.prog,gs⟩)=true ->
   (DataW.weightsEach C.prog (fn.params.toList++s.plain.varTypes C.prog) (ds++gs)).all (· <=reachBytes)=true->W.ShapedOpen C.prog->X W args ->
   a.holds C.prog (lone (Frame.enter C.prog f args .normal) [] W) ->
   Calls C.prog f args W fun e W'=>∃v,e=.returned v/\s.post enc C.prog fn apart fresh h again W args v W') :
  ReturnsInHanded a C os f .any (fun w args=>(s.pre enc C.prog fn c apart w args/\X w args)/\sizedMet enc C.prog fn (OpenSpec.ofChange s) apart w args) (s.post enc C.prog fn apart fresh h again):=by
 refine returnsInHanded_of_calls own r I n fun w p i _ d _ u k y=> ?_;obtain⟨_,_,_,z,l,_,_,_,_,m⟩:=u;cases iR (l.symm.trans q);obtain⟨⟨⟨ds,gs,b,q1,q2⟩,q3⟩,q4⟩:=k;refine(o (w.forCall p i) w.heap.size i.args ds gs b m (DataW.Whole.of_heap (w':=w.forCall p i) (by rfl) q1) q2 (q4.weights q1) d (x _ _ _ (by rfl) q3) y).mono fun e W' ⟨v,A,B⟩=> ?_;cases A;exact ChangeSpec.post_blind B
def aHn{P:Program}{ps:Array TypeId}(h:ps.all (fun t=> !P.wantsStandIn t)=true):∀(j:Nat) t,ps[j]? =some t->P.wantsStandIn t=false:=fun j t a=>by rw[Q6]at h;have:=h t (Array.mem_of_getElem? a);simpa using this
end
section
open Go
def aC3:ownKnob az.godebug=none:=by kernel_rfl
def ale:laidOutB az=true:=by kernel_rfl
def aC4:mapsRowed az=true:=by kernel_rfl
def aC5:(az.stops==[])=true:=by kernel_rfl
def aC0:(az.stopKnobs==[])=true:=by kernel_rfl
def aCZ:(Rows.fnStartsOnlyRow.plainKeys==az.plainKeys)=true:=by kernel_rfl
def aCY:az.stopsHeard=true:=by kernel_rfl
def aCX:az.mayEnter=true:=by kernel_rfl
def aC1:(Rows.fnStartsOnlyRow.lifted==az.liftsFinal)=true:=by kernel_rfl
def aC2:(az.make==some Rows.fnStartsOnlyRow.make)=true:=by kernel_rfl
def jk{a b:Bool}(ha:a=true)(hb:b=true):(a&&b)=true:=by rw[ha,hb];rfl
end
end Go.Proofs.YtoomhbopolalnabGreatDoor
