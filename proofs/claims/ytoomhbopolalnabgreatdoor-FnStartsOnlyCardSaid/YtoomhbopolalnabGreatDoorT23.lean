/- Hosts in walks whose list of who is up may be appended to: what stands, a copy of a host, what is left when a part is called. -/
import Derived.Test.YtoomhbopolalnabGreatDoorT22
set_option linter.all false
set_option maxRecDepth 100000
namespace Go.Proofs.YtoomhbopolalnabGreatDoor
variable {M:Addr->Prop}{t:ByteArray}{f:FuncId}{h:Host}{v:Value}{w:World}
section
open Go.RowKit Go
variable [GC]
def J3{N:Nat->Prop}{W W':World}{K N':Nat->Prop}{d:D}(h:R W (BM M N) d v)(f:dr K W W')(a:∀x,K x->N x)(b:∀x,N' x->N x\/W.heap.size<=x):R W' (BM M N') d v :=
  R.keep (fun p u c n=>by have l:=gm c;have e:W'.heap[p.block]? =W.heap[p.block]? :=f.block p.block l fun k=>n (.inr (a _ k));exact⟨by unfold World.cell? at c ⊢;rw[e];exact c,fun h=>h.elim (fun h=>n (.inl h)) fun h=>(b _ h).elim (fun h=>n (.inr h)) fun h=>by omega⟩) _ _ h
structure SU(L:Nat)(bx:List (Nat×TypeId×Array Value))(M:Addr->Prop)(N:Nat->Prop)(w W:World)(b6:Nat)(g:Host)(ve vp vu vs vl:Value):Prop where
  H:HX M N W g ve vp vs vl
  U:OR M N W 9 1 (g.up.map aB.cells) vu
  bx:∀x∈bx,x.1<L/\aA W (w.heap.size+x.1) x.2.1 x.2.2
  q6:aA W b6 29 (aD ve vp vu vs vl)
  bw:Below w.heap.size w W
  nb:∀k,k<L->N (w.heap.size+k)
  n6:N b6
  nw:∀x,N x->w.heap.size<=x
  lo:w.heap.size+L<=b6
  kv:∀x,KV vp vl x->w.heap.size+L<=x/\x≠b6
  ua:∀x,vu.ownBlock=some x->¬KV vp vl x/\w.heap.size+L<=x/\x≠b6
section
variable {L:Nat}{bx:List (Nat×TypeId×Array Value)}{M:Addr->Prop}{N N':Nat->Prop}{w W W' W'':World}{b6:Nat}{g g':Host}{ve vp vu vs vl bZ:Value}{s:ByteArray}
def SU.sb(S:SU L bx M N w W b6 g ve vp vu vs vl)(G:ek w M):SB L bx M (fun x=>N x/\vu.ownBlock≠some x) w W b6 g ve vp vu vs vl :=
  ⟨S.H.less (fun x a=>a.1) fun x a=>⟨a.elim (fun e=>(S.H.p.lt x e).1) fun e=>(S.H.l.lt x e).1,fun e=>(S.ua x e).1 a⟩,
   S.U.GV (fun x a=>a.1) fun x a=>⟨fun q=>q.2 a,fun o m=>by have:=(S.ua x a).2.1;have c:x<w.heap.size:=G.1 _ m;omega⟩,
   S.bx,S.q6,S.bw,fun k b=>⟨S.nb k b,fun e=>by have:=(S.ua _ e).2.1;omega⟩,⟨S.n6,fun e=>(S.ua _ e).2.2 rfl⟩,fun x a=>S.nw x a.1,S.lo,S.kv⟩
def SU.below(S:SU L bx M N w W b6 g ve vp vu vs vl)(hb:Below W.heap.size W W'):SU L bx M N w W' b6 g ve vp vu vs vl :=
  {S with
   H:=S.H.below hb
   U:=S.U.below hb (fun x hx=>.inl hx) fun x hx=>hx
   bx:=fun x hx=>⟨(S.bx x hx).1,(S.bx x hx).2.below hb (S.bx x hx).2.lt⟩
   q6:=S.q6.below hb S.q6.lt
   bw:=bt S.bw hb}
def J6(H:HX M N W g ve vp vs vl):∀x,KV vp vl x->N x/\x<W.heap.size:=fun x a=>a.elim (fun e=>H.p.lt x e) fun e=>H.l.lt x e
def ai4{L:Nat}(f:dr (KV vp vl) W W')(hb:Below w.heap.size w W)(k:∀x,KV vp vl x->w.heap.size+L<=x/\x≠b6):Below w.heap.size w W' :=
  ⟨f.os.trans hb.os,f.tape.trans hb.tape,f.output.trans hb.output,dK hb.size f.size,fun i a=>(f.block i (dS a hb.size) fun e=>by have:=(k i e).1;omega).trans (hb.block i a)⟩
def SB.fr(S:SB L bx M N w W b6 g ve vp vu vs vl)(H:HX M N W' g' ve vp vs vl)(f:dr (KV vp vl) W W')(hu:g'.up=g.up):SB L bx M N w W' b6 g' ve vp vu vs vl :=
  {S with
   H:=H
   U:=hu▸J3 S.U f (fun x hx=>(J6 S.H x hx).1) fun x hx=>.inl hx
   bx:=fun x hx=>⟨(S.bx x hx).1,(f.block _ (S.bx x hx).2.lt fun e=>by have:=(S.kv _ e).1;have:=(S.bx x hx).1;omega).trans (S.bx x hx).2⟩
   q6:=(f.block _ S.q6.lt fun e=>(S.kv _ e).2 rfl).trans S.q6
   bw:=ai4 f S.bw S.kv}
def SU.fr(S:SU L bx M N w W b6 g ve vp vu vs vl)(H:HX M N W' g' ve vp vs vl)(f:dr (KV vp vl) W W')(hu:g'.up=g.up):SU L bx M N w W' b6 g' ve vp vu vs vl :=
  {S with
   H:=H
   U:=hu▸S.U.keep (fun x hx=>f.block x (S.U.lt x hx).2 (S.ua x hx).1) (fun p u hc hn=>by have hpl:=gm hc;have hb:W'.heap[p.block]? =W.heap[p.block]? :=f.block p.block hpl fun hk=>hn (.inr (J6 S.H _ hk).1);exact⟨by unfold World.cell? at hc ⊢;rw[hb];exact hc,hn⟩) fun x hx=>(S.U.lt x hx).1
   bx:=fun x hx=>⟨(S.bx x hx).1,(f.block _ (S.bx x hx).2.lt fun e=>by have:=(S.kv _ e).1;have:=(S.bx x hx).1;omega).trans (S.bx x hx).2⟩
   q6:=(f.block _ S.q6.lt fun e=>(S.kv _ e).2 rfl).trans S.q6
   bw:=ai4 f S.bw S.kv}
def SU.rise(S:SU L bx M N w W b6 g ve vp vu vs vl)(G:ek w M)(hg:W.grownBy W' vu.ownBlock)(O:OR M (fun x=>N x\/bZ.ownBlock=some x) W' 9 1 ((g.up++[s]).map aB.cells) bZ)(d:bZ.ownBlock=vu.ownBlock\/bZ.ownBlock=some W.heap.size)(o:bU W' W'' b6)(q6:aA W'' b6 29 (aD ve vp bZ vs vl)) :
    SU L bx M (fun x=>N x\/bZ.ownBlock=some x) w W'' b6 {g with up:=g.up++[s]} ve vp bZ vs vl:=by
  have n:=G.2.2;have r:=S.lo;have b:=S.bw;have t:=S.q6.lt;have j:∀x,(N x\/bZ.ownBlock=some x)->N x\/W.heap.size<=x:=fun x a=>a.elim .inl fun e=>by
    rcases d with c|c
    · exact .inl (S.U.lt x (c▸e)).1
    · rw[c]at e;have:=iR e;exact .inr (by omega)
  have u:∀x,bZ.ownBlock=some x->¬KV vp vl x/\w.heap.size+L<=x/\x≠b6:=fun x a=>by
    rcases d with c|c
    · exact S.ua x (c▸a)
    · rw[c]at a
      have e:=iR a;have y:=b.size;exact⟨fun f=>by have:=(J6 S.H x f).2;omega,by omega,by omega⟩
  have p:HX M (fun x=>N x\/bZ.ownBlock=some x) W' g ve vp vs vl:=S.H.grow hg (fun x a=>⟨(S.U.lt x a).1,(S.ua x a).1,by have:=(S.ua x a).2.1;omega⟩) j (fun x a=>.inl a) fun x a=>a.elim (fun a=>dS (S.H.nb x a) hg.size) fun e=>(O.lt x e).2;have H:=p.one o (.inl S.n6) (fun f=>(S.kv _ f).2 rfl) (by omega);have l:∀x,x<w.heap.size+L->x<W.heap.size->W''.heap[x]? =W.heap[x]? :=fun x a q=>(o.block x (by omega)).trans (hg.block x q fun e=>by have:=(S.ua x e.symm).2.1;omega);exact⟨⟨H.gi,H.mb,H.nb,H.e,H.p,H.s,H.l,H.pl,H.gp,H.gl⟩,O.one o (.inl S.n6) fun e=>(u _ e).2.2 rfl,fun x a=>⟨(S.bx x a).1,(l _ (by have:=(S.bx x a).1;omega) (S.bx x a).2.lt).trans (S.bx x a).2⟩,q6,
    ⟨o.os.trans (hg.os.trans b.os),o.tape.trans (hg.tape.trans b.tape),o.output.trans (hg.output.trans b.output),by rw[o.size];exact dK b.size hg.size,fun i m=>(l i (by omega) (dS m b.size)).trans (b.block i m)⟩,
    fun k f=>.inl (S.nb k f),.inl S.n6,fun x a=>(j x a).elim (S.nw x) fun h=>dK b.size h,S.lo,S.kv,u⟩
def SU.anp{d:D}(S:SU L bx M N w W b6 g ve vp vu vs vl)(u:∀x,bZ.ownBlock=some x->¬KV vp vl x/\NG<=x/\(vu.ownBlock=some x\/W.heap.size<=x))(f:dr (fun x=>KV vp vl x\/vu.ownBlock=some x) W W')(o:bU W' W'' b6)(h:R W (BM M N) d v):R W'' (BM M fun x=>N x\/bZ.ownBlock=some x) d v :=
  iC (J3 h f (fun x a=>a.elim (fun e=>(J6 S.H x e).1) fun e=>(S.U.lt x e).1) fun x a=>a.elim .inl fun e=>(u x e).2.2.imp (fun h=>(S.U.lt x h).1) id) o (.inl S.n6)
def SU.n6k(S:SU L bx M N w W b6 g ve vp vu vs vl):¬(KV vp vl b6\/vu.ownBlock=some b6):=fun y=>y.elim (fun e=>(S.kv _ e).2 rfl) fun e=>(S.ua _ e).2.2 rfl
def SU.aF7(S:SU L bx M N w W b6 g ve vp vu vs vl)(G:ek w M)(H:HX M (fun x=>N x\/bZ.ownBlock=some x) W' g' ve vp vs vl)(U:OR M (fun x=>N x\/bZ.ownBlock=some x) W' 9 1 (g'.up.map aB.cells) bZ)(c:∀x,bZ.ownBlock=some x->¬KV vp vl x/\NG<=x/\(vu.ownBlock=some x\/W.heap.size<=x))(f:dr (fun x=>KV vp vl x\/vu.ownBlock=some x) W W')(o:bU W' W'' b6)(q6:aA W'' b6 29 (aD ve vp bZ vs vl)) :
    SU L bx M (fun x=>N x\/bZ.ownBlock=some x) w W'' b6 g' ve vp bZ vs vl:=by
  have n:=G.2.2;have r:=S.lo;have t:=S.q6.lt;have d:=S.bw.size;have m:∀y,(KV vp vl y\/vu.ownBlock=some y)->w.heap.size+L<=y:=fun y p=>p.elim (fun e=>(S.kv y e).1) fun e=>(S.ua y e).2.1;have u:∀x,bZ.ownBlock=some x->¬KV vp vl x/\w.heap.size+L<=x/\x≠b6:=fun x a=>by
    rcases (c x a).2.2 with h|h
    · exact S.ua x h
    · exact⟨(c x a).1,by omega,by omega⟩
  have l:∀x,x<w.heap.size+L->x<W.heap.size->W''.heap[x]? =W.heap[x]? :=fun x a q=>(o.block x (by omega)).trans (f.block x q fun e=>by have:=m x e;omega);exact⟨H.one o (.inl S.n6) (fun b=>(S.kv _ b).2 rfl) (by omega),U.one o (.inl S.n6) fun e=>(u _ e).2.2 rfl,fun x a=>⟨(S.bx x a).1,(l _ (by have:=(S.bx x a).1;omega) (S.bx x a).2.lt).trans (S.bx x a).2⟩,q6,
    ⟨o.os.trans (f.os.trans S.bw.os),o.tape.trans (f.tape.trans S.bw.tape),o.output.trans (f.output.trans S.bw.output),by rw[o.size];exact dK d f.size,fun i j=>(l i (by omega) (dS j d)).trans (S.bw.block i j)⟩,
    fun k b=>.inl (S.nb k b),.inl S.n6,fun x a=>a.elim (S.nw x) fun e=>by have:=(u x e).2.1;omega,S.lo,S.kv,u⟩
def SU.kp{d:D}(S:SU L bx M N w W b6 g ve vp vu vs vl)(h:R w M d v):R W (BM M N) d v:=xy h S.bw S.nw
def SU.cM(S:SU L bx M N w W b6 g ve vp vu vs vl):ek W (BM M N):=S.H.cM
def SU.ask{ds:List D}{b:Bool}{a:List Value}(S:SU L bx M N w W b6 g ve vp vu vs vl)(F:aH az f none ds (.bool b) [])(r:Rs W (BM M N) ds a):Calls az f a.toArray W fun e W'=>e=.returned (.bool b)/\SU L bx M N w W' b6 g ve vp vu vs vl/\Below W.heap.size W W' :=
  (aH.calls F S.H.cM r).mono fun e W' ⟨v,d,i,c⟩=>by obtain rfl:=i;exact⟨d,S.below c,c⟩
def SU.axq{s:ByteArray}{b:Bool}(S:SU L bx M N w W b6 g ve vp vu vs vl)(G:ek w M)(c:s.size<=maxLen)(F:aH az f none [aj g.up,.str s] (.bool b) []):Calls az f #[vu,.string s] W fun e W'=>e=.returned (.bool b)/\SU L bx M N w W' b6 g ve vp vu vs vl/\Below W.heap.size W W' :=
  (aH.calls F (S.sb G).H.cM (vs:=[vu,.string s]) ⟨_,_,rfl,(S.sb G).U,_,[],rfl,⟨rfl,c⟩,rfl⟩).mono fun e W' ⟨v,d,i,a⟩=>by obtain rfl:=i;exact⟨d,S.below a,a⟩
end
section
variable {bx:List (Nat×TypeId×Array Value)}{M:Addr->Prop}{w W:World}{h:Host}{v:Value}
def au6(B:B0 w W bx)(G:ek w M)(X:R w M (enc h) v)
    (hC:∀M',ek W M'->R W M' (enc h) v->Calls az f #[v] W fun e w'=>∃N ve vp vu vs vl,e=.returned (.agg (aD ve vp vu vs vl))/\HX M' N w' h ve vp vs vl/\OR M' N w' 9 1 (h.up.map aB.cells) vu/\(∀x,vu.ownBlock=some x->¬KV vp vl x)/\(∀x,N x->W.heap.size<=x)/\Below W.heap.size W w') :
    Calls az f #[v] W fun e i=>∃ve vp vu vs vl,e=.returned (.agg (aD ve vp vu vs vl))/\(∀u∈(aD ve vp vu vs vl).toList,u.oneCell'=true) /\
      ∀n,aA n i.heap.size 29 (aD ve vp vu vs vl)->bU (i.alloc (.cells #[.slice none 0 0,.slice none 0 0,.slice none 0 0,.slice none 0 0,.slice none 0 0] 29)) n i.heap.size->∃N,SU bx.length bx M N w n i.heap.size h ve vp vu vs vl:=by
  obtain⟨d,Y,o⟩:=B;obtain⟨B,A⟩:∃B:Nat->Prop,B=fun x=>w.heap.size<=x/\x<w.heap.size+bx.length:=⟨_,rfl⟩;have p:∀x,B x->w.heap.size<=x:=fun x b=>by rw[A]at b;exact b.1
  have r:∀x,B x->x<W.heap.size:=fun x b=>by rw[A]at b;omega
  have C:ek W (BM M B):=⟨fun q F=>F.elim (fun F=>dS (G.1 q F) d.size) (r _),G.2.1.keep fun k Q=>d.block k (dS Q G.2.2),dK G.2.2 d.size⟩;refine(hC _ C (xy X d p)).mono ?_;rintro _ i ⟨I,ve,vp,vu,vs,vl,rfl,H,U,J,m,j⟩;have O:∀x,KV vp vl x->W.heap.size<=x:=fun x b=>m x (b.elim (fun e=>(H.p.lt x e).1) fun e=>(H.l.lt x e).1);have t:∀x,vu.ownBlock=some x->W.heap.size<=x:=fun x b=>m x (U.lt x b).1;have H:=H.shift fun x b=>dS (r x b) j.size;have U:=U.shift;have S:=j.size;have T:=d.size;have P:∀x,KV vp vl x->x<i.heap.size:=fun x b=>b.elim (fun e=>(H.p.lt x e).2) fun e=>(H.l.lt x e).2;refine⟨ve,vp,vu,vs,vl,rfl,fun u V=> ?_,fun n Z y=> ?_⟩
  · have l:ve.oneCell'=true:=kY (show R i _ (.sl (h.entries.map aB.cells)) ve from H.e)
    have l:vs.oneCell'=true:=kY (show R i _ (.sl (h.shut.map aB.cells)) vs from H.s);have op:vp.oneCell'=true:=by obtain⟨a,c,rfl,_⟩:=H.p.len;rfl
    have ol:vl.oneCell'=true:=by obtain⟨a,c,rfl,_⟩:=H.l.len;rfl
    have l:vu.oneCell'=true:=by obtain⟨a,c,rfl,_⟩:=U.len;rfl
    simp[aD]at V;rcases V with rfl|rfl|rfl|rfl|rfl<;>assumption
  have l:=MA y;have r:n.heap.size=i.heap.size+1:=by rw[y.size,gb]
  have z:∀x,((I x\/B x)\/x=i.heap.size)->(I x\/B x)\/i.heap.size<=x:=fun x b=>b.imp id fun e=>by omega
  refine⟨fun x=>(I x\/B x)\/x=i.heap.size,H.new l z (fun x b=>.inl b) fun x b=> ?_,U.below l z fun x b=>.inl b,fun x b=>⟨(o x b).1,?_⟩,Z,bt (bt d j) l,fun k Q=>.inl (.inr (by rw[A];exact⟨by omega,by omega⟩)),.inr rfl,fun x b=> ?_,by omega,fun x b=>⟨by have:=O x b;omega,by have:=P x b;omega⟩,fun x b=>⟨J x b,by have:=t x b;omega,by have:=(U.lt x b).2;omega⟩⟩
  · rcases b with b|b
    · have:=H.nb x b;omega
    · omega
  · have q:=(o x b).2
    have q2:=q.below j q.lt;exact q2.below l q2.lt
  · rcases b with (b|b)|b
    · have:=m x b;omega
    · exact p x b
    · omega
def au7(B:B0 w W bx)(G:ek w M)(j:R w M (enc h) v)(a:oz h) :
    Calls az 23 #[v] W fun e b=>∃ve vp vu vs vl,e=.returned (.agg (aD ve vp vu vs vl))/\(∀u∈(aD ve vp vu vs vl).toList,u.oneCell'=true) /\
      ∀c,aA c b.heap.size 29 (aD ve vp vu vs vl)->bU (b.alloc (.cells #[.slice none 0 0,.slice none 0 0,.slice none 0 0,.slice none 0 0,.slice none 0 0] 29)) c b.heap.size->∃N,SU bx.length bx M N w c b.heap.size h ve vp vu vs vl :=
  au6 B G j fun k d f=>aK2 d f a.el a.ef (Mj a.ul (by decide)) a.sl a.pl (fun p i=>⟨(a.pc p i).1,dK (a.pc p i).2 (by decide)⟩) a.ll a.lr
def Yi(B:B0 w W bx)(G:ek w M)(f:R w M (enc h) v)(i:oz h) :
    Calls az 23 #[v] W fun e c=>∃ve vp vu vs vl,e=.returned (.agg (aD ve vp vu vs vl))/\(∀u∈(aD ve vp vu vs vl).toList,u.oneCell'=true) /\
      ∀d,aA d c.heap.size 29 (aD ve vp vu vs vl)->bU (c.alloc (.cells #[.slice none 0 0,.slice none 0 0,.slice none 0 0,.slice none 0 0,.slice none 0 0] 29)) d c.heap.size->∃N,SB bx.length bx M N w d c.heap.size h ve vp vu vs vl :=
  (au7 B G f i).mono fun e c ⟨ve,vp,vu,vs,vl,j,k,l⟩=>⟨ve,vp,vu,vs,vl,j,k,fun d a b=>(l d a b).imp' _ fun N S=>S.sb G⟩
end
set_option maxHeartbeats 4000000 in
def aKS{s:ByteArray}(G:ek w M)(J:R w M (enc h) v)(C:s.size<=maxLen)(i:oz h) :
  Calls az 113 #[v,.string s] w fun e w'=>∃r,e=.returned r/\R w' M (.aU [enc (Al h s),.bool (zg h s)]) r/\Below w.heap.size w w':=by
 obtain⟨ae,ap,O,k,al,rfl,a,b,P,has,c⟩:=Gf J;refine pH (E:=[(0,.agg (aD ae ap O k al)),(1,.string s)]) Tryz.func113 rfl Tryz.ntmps113 (by simp) (by simp) ?_;refine aO ?_;refine CZ B0.nil fun _ B=> ?_;refine CY B oT fun a B=> ?_;refine ah bN ?_;refine bn ?_;refine CW.sl [1,2,4] ?_;refine aO ?_;refine ah (bF cN B.q0 bE) ?_;refine dD (Yi B G J i) ?_;rintro _ Q ⟨ve,vp,vu,vs,vl,rfl,one,mk⟩;refine⟨_,rfl,?_⟩;refine ah (eQ rfl oT) ?_;refine bW rfl (cs:=aD ve vp vu vs vl) rfl (xH Q) one bE fun a b o=> ?_;obtain⟨N,S⟩:=mk a b o;have F:SB 2 [(0,29,aD ae ap O k al),(1,29,#[aP,aP,aP,aP,aP])] M N w a Q.heap.size h ve vp vu vs vl:=S;clear mk one b o S B;refine bn ?_;refine CW.sl [1,2,4,6] ?_;refine CW.seq (aO ?_);refine ah (bF cN F.b0 bE) ?_;refine ah aI ?_;refine dD (F.ask (MQ h s i) ⟨_,_,rfl,F.kp J,_,[],rfl,⟨rfl,C⟩,rfl⟩) ?_;rintro _ a ⟨rfl,d⟩;refine⟨_,rfl,?_⟩;clear F;have no:∀(W:World),zg h s=false->R W M (enc h) (.agg (aD ve vp vu vs vl))->R W M (.aU [enc (Al h s),.bool (zg h s)]) (.tuple #[.agg (aD ve vp vu vs vl),.bool false]):=fun W l f=>by
  have T:Al h s=h:=by unfold Al;simp[l]
  rw[T,l];exact⟨_,rfl,_,_,rfl,f,_,_,rfl,rfl,rfl⟩
 refine ah qE ?_;refine ah aI ?_;rcases I:gW h s with _|_
 ·refine dO (b:=true) ?_;refine dO (b:=true) ?_;refine dO (b:=true) ?_;refine dO (b:=true) ?_;refine dO (b:=true) ?_;refine ah (nu rfl rfl rfl) ?_;refine bn (eC (aO ?_));refine ah (bF cN d.q6 bE) ?_;refine bW rfl (cs:=aD ve vp vu vs vl) rfl d.b1 d.one bE fun k z m=> ?_;refine ah bN ?_;obtain⟨f,b,_⟩:=d.ans G (by decide) m;exact bn (CW.ret (NX.ret (qf rfl rfl rfl z cN rfl bE ⟨_,rfl,no _ (by unfold zg;rw[I];rfl) f,b⟩)))
 refine fY (b:=false) (br qt) ?_;refine fY (b:=false) (bz eX (v:=O) ((d.b0.cell 2).trans rfl)) ?_;refine fY (b:=false) aI ?_;refine wN (b:=false) (d.ask (nM h.up s) ⟨_,_,rfl,d.kp P,_,[],rfl,⟨rfl,C⟩,rfl⟩) ?_;rintro _ c ⟨rfl,a⟩;refine⟨_,rfl,?_⟩;clear d;refine fY (b:=false) qE ?_;refine ah (pR rfl rfl rfl) ?_;rcases u:hasB h.up s with _|_
 ·refine bn (eC (aO ?_));refine ah (bF cN a.q6 bE) ?_;refine bW rfl (cs:=aD ve vp vu vs vl) rfl a.b1 a.one bE fun k z m=> ?_;refine ah bN ?_;obtain⟨f,b,_⟩:=a.ans G (by decide) m;exact bn (CW.ret (NX.ret (qf rfl rfl rfl z cN rfl bE ⟨_,rfl,no _ (by unfold zg;rw[I,u];rfl) f,b⟩)))
 refine bn (CW.no (CW.skip (aL ?_)));have l:zg h s=true:=by unfold zg;rw[I,u];rfl
 obtain⟨c,d,j,o⟩:=z7 I;have n:=WA c;have U:(rz h.entries s).length<=1048576:=by
  unfold rz;split
  ·split
   ·exact dK (Ka _ _) i.el
   ·simp
  ·simp
 have V:=Nh (uz c) (fun x X=>(n x X).2) (kA (rz h.entries s) s);refine CW.sl [1,4,6] ?_;refine aO ?_;refine ah (bF cN a.q6 bE) ?_;refine ah aI ?_;refine dD (au9 a.H a.U (Mj (fW _) o) n U (fun j c p d=>by have:=Cc (V j c p d);unfold DT at this;omega) C (Mj i.ul (by decide))) ?_;rintro _ c ⟨bZ,rfl,H,Y,d⟩;refine⟨_,rfl,?_⟩;have c:=a.fr (g':={mV h s with up:=h.up}) ⟨H.gi,H.mb,H.nb,H.e,H.p,H.s,H.l,H.pl,H.gp,H.gl⟩ d rfl;refine bW rfl (cs:=aD ve vp bZ vs vl) rfl c.q6 (c.iU Y) bE fun n j q=> ?_;have n:=c.box (N':=N) (g':=mV h s) G q (fun _ h=>h) (fun x X=>(J6 c.H x X).1) c.nb c.n6 ⟨rfl,rfl⟩ c.H.e Y c.H.s j;clear a c H Y d j q;refine bn ?_;refine CW.sl [1,4,6] ?_;refine aO ?_;refine ah (br tj) ?_;refine ah (bz vc (v:=vl) ((n.q6.cell 4).trans rfl)) ?_;refine ah aI ?_;refine ah (kF (vs:=[(0,.int .i64 2),(1,.string s)]) (Te 2 s)) ?_;obtain⟨t,c,N',y,Z,a,_,_,A⟩:=n.lg G (e:=jm 2 s) (T9 (by decide) C) i.ll;refine ah Ki ?_;refine ah (rB rfl rfl rfl y) ?_;refine ah (br tj) ?_;refine qO (pS rfl rfl rfl (by kernel_rfl) Z ((a.cell 4).trans rfl) (a.frozen 4)) ?_;generalize c.setCell ⟨Q.heap.size,0+4,none⟩ t=a at A ⊢;refine bn ?_;refine CW.sl [4,6] ?_;refine aO ?_;refine ah (bF cN A.q6 bE) ?_;refine bW rfl (cs:=aD ve vp _ vs t) rfl A.b1 A.one bE fun k z m=> ?_;refine ah bN ?_;obtain⟨f,b,_⟩:=A.ans G (by decide) m;refine bn (CW.ret (qf rfl rfl rfl z cN rfl bE ⟨_,rfl,?_,b⟩));have T:Al h s=qB (mV h s) (jm 2 s):=by unfold Al;rw[aC l]
 rw[T,l];exact⟨_,rfl,_,_,rfl,f,_,_,rfl,rfl,rfl⟩
def ayv(h:Host)(s:ByteArray)(a:oz h):aH az 113 none [enc h,.str s] (.aU [enc (Al h s),.bool (zg h s)]) [] :=
 CO (by kernel_rfl) fun w M vs G b=>by obtain⟨v,_,rfl,c,e,_,rfl,⟨rfl,d⟩,rfl⟩:=b;exact aKS G c d a
def ac5{l:List Entry}(r:cm l=true):∀x∈bR l,0<=cV l x/\(cV l x).toNat<l.length:=fun x b=>by unfold bR at b;rw[aC r]at b;obtain⟨i,c,rfl⟩:=fJ.1 b;have a:i<l.length:=yQ (k:=l.length) c;rw[aiR r a];exact⟨by omega,by simpa using a⟩
structure awr(h g:Host)(k:Nat):Prop where
 e:g.entries=h.entries
 l:g.log=h.log
 s:g.shut=h.shut
 n:g.parts.length=h.parts.length
 u:g.up.length<=h.up.length+k
 p:∀p∈g.parts,dC p=true
def V2{h:Host}(H:wJ h)(all:List ByteArray):∀k,k<=(bR h.entries).length->awr h (gY h all k) k
 |0,_=>⟨rfl,rfl,rfl,rfl,bM _,uz H⟩
 |k+1,c=>by
  have ih:=V2 H all k (by omega);unfold gY;simp only;split
  ·refine⟨ih.e,ih.l,ih.s,?_,?_,?_⟩
   ·simp only[xI,uX];exact ih.n
   ·simp only[xI,iZ,List.length_singleton];have:=ih.u;omega
   ·intro p b;simp only[xI]at b;rcases sZ b with a|a
    ·exact ih.p p a
    ·rw[a];refine V9 (ih.p _ (gK ?_)) _;unfold cO;rw[ih.e,ih.n,H.len];exact(ac5 H.qF _ (gK (by omega))).2
  ·exact⟨ih.e,ih.l,ih.s,ih.n,by have:=ih.u;omega,ih.p⟩
set_option maxHeartbeats 4000000 in
def aKR{s:ByteArray}(G:ek w M)(hv:R w M (enc h) v)(hs:s.size<=maxLen)(hh:oz h) :
  Calls az 7 #[v,.string s] w fun e w'=>∃r,e=.returned r/\R w' M (.aU [enc (gM h s),.bool (lO h s)]) r/\Below w.heap.size w w':=by
 obtain⟨ae,ap,au,t,al,rfl,mE,hap,qX,has,hal⟩:=Gf hv;refine pH (E:=[(0,.agg (aD ae ap au t al)),(1,.string s)]) Tryz.func7 rfl Tryz.ntmps7 (by simp) (by simp) ?_;refine aO ?_;refine CZ B0.nil fun _ B=> ?_;refine CY B oT fun w1 B=> ?_;refine ah bN ?_;refine bn ?_;refine CW.sl [1,2,4] ?_;refine aO ?_;refine ah (bF cN B.q0 bE) ?_;refine dD (au7 B G hv hh) ?_;rintro _ X ⟨ve,vp,vu,vs,vl,rfl,one,mk⟩;refine⟨_,rfl,?_⟩;refine ah (eQ rfl oT) ?_;refine bW rfl (cs:=aD ve vp vu vs vl) rfl (xH X) one bE fun w3 q6 oV=> ?_;obtain⟨N,S⟩:=mk w3 q6 oV;have S3:SU 2 [(0,29,aD ae ap au t al),(1,29,#[aP,aP,aP,aP,aP])] M N w w3 X.heap.size h ve vp vu vs vl:=S;clear mk one q6 oV S B;refine bn ?_;refine CW.sl [1,2,4,6] ?_;refine CW.seq (aO ?_);refine ah (bF cN (S3.sb G).b0 bE) ?_;refine ah aI ?_;refine dD (S3.ask (MQ h s hh) ⟨_,_,rfl,S3.kp hv,_,[],rfl,⟨rfl,hs⟩,rfl⟩) ?_;rintro _ w4 ⟨rfl,S4,_⟩;refine⟨_,rfl,?_⟩;clear S3;have no:∀(W:World),lO h s=false->R W M (enc h) (.agg (aD ve vp vu vs vl))->R W M (.aU [enc (gM h s),.bool (lO h s)]) (.tuple #[.agg (aD ve vp vu vs vl),.bool false]):=fun W ho O=>by
  have hd:gM h s=h:=by unfold gM;simp[ho]
  rw[hd,ho];exact⟨_,rfl,_,_,rfl,O,_,_,rfl,rfl,rfl⟩
 refine ah qE ?_;refine ah aI ?_;rcases hm:gW h s with _|_
 ·refine dO (b:=true) ?_;refine dO (b:=true) ?_;refine dO (b:=true) ?_;refine dO (b:=true) ?_;refine ah (nu rfl rfl rfl) ?_;have B4:=S4.sb G;refine bn (eC (aO ?_));refine ah (bF cN B4.q6 bE) ?_;refine bW rfl (cs:=aD ve vp vu vs vl) rfl B4.b1 B4.one bE fun wa Y J=> ?_;refine ah bN ?_;obtain⟨O,n,_⟩:=B4.ans G (by decide) J;exact bn (CW.ret (NX.ret (qf rfl rfl rfl Y cN rfl bE ⟨_,rfl,no _ (by unfold lO;rw[hm];rfl) O,n⟩)))
 refine fY (b:=false) (br qt) ?_;refine fY (b:=false) (bz eX (v:=au) (((S4.sb G).b0.cell 2).trans rfl)) ?_;refine fY (b:=false) aI ?_;refine wN (b:=false) (S4.ask (nM h.up s) ⟨_,_,rfl,S4.kp qX,_,[],rfl,⟨rfl,hs⟩,rfl⟩) ?_;rintro _ w5 ⟨rfl,Z,_⟩;refine⟨_,rfl,?_⟩;clear S4;refine ah (pR rfl rfl rfl) ?_;rcases ni:hasB h.up s with _|_
 rotate_left
 ·have B5:=Z.sb G;refine bn (eC (aO ?_));refine ah (bF cN B5.q6 bE) ?_;refine bW rfl (cs:=aD ve vp vu vs vl) rfl B5.b1 B5.one bE fun wa Y J=> ?_;refine ah bN ?_;obtain⟨O,n,_⟩:=B5.ans G (by decide) J;exact bn (CW.ret (NX.ret (qf rfl rfl rfl Y cN rfl bE ⟨_,rfl,no _ (by unfold lO;rw[hm,ni];rfl) O,n⟩)))
 refine bn (CW.no (CW.skip (aL ?_)));obtain⟨hO,hfs,BA,hi⟩:=z7 hm;have hrl:(mg h.entries s).length<=1048576:=by
  unfold mg;split
  ·split
   ·exact dK (Ka _ _) hh.el
   ·simp
  ·simp
 refine CW.sl [1,2,4,6] ?_;refine aO ?_;refine ah (br qq) ?_;refine ah (bz mR (v:=ae) (((Z.sb G).b0.cell 0).trans rfl)) ?_;refine ah aI ?_;refine dD (aH.calls (aH.eB (ayq h.entries s)) Z.cM (vs:=[ae,.string s]) ⟨_,_,rfl,Z.kp mE,_,[],rfl,⟨rfl,hs⟩,rfl⟩) ?_;rintro _ w6 ⟨vr,rfl,eZ,kU⟩;refine⟨_,rfl,?_⟩;refine ah aI ?_;refine dD (aH.calls (aH.eB (Fz (mg h.entries s) s hrl)) (Z.below kU).cM (vs:=[vr,.string s]) ⟨_,_,rfl,eZ,_,[],rfl,⟨rfl,hs⟩,rfl⟩) ?_;rintro _ w7 ⟨va,rfl,a,iN⟩;refine⟨_,rfl,?_⟩;refine ah bN ?_;refine bn ?_;obtain⟨all,q⟩:∃all,nK h s=all:=⟨_,rfl⟩;have a:R w7 (BM M N) (aj all) va:=by rw[<-q];exact a
 have S:=Z.below (bt kU iN);clear Z kU iN eZ;obtain⟨aa,ac,H9,T,_⟩:=mA (ma (n:=1) (fun _=>rfl) all) a;rw[di]at H9 T;unfold maxLen at T;subst H9;refine CW.sl [1,2,4,6,7] ?_;refine CW.seq (aO ?_);refine ah aI ?_;refine ah (yV rfl rfl rfl rfl eX rfl) ?_;refine ah aI ?_;refine bn ?_;refine CW.sl [1,2,4,6,7,31,32,33] ?_;refine CW.block (CW.loop (fun m E' wr=>∃(k:Nat),m+k=all.length/\E'=[(1,.string s),(2,PH w.heap.size),(4,PH (w.heap.size+1)),(6,PH X.heap.size),(7,.slice aa all.length ac),(31,.slice aa all.length ac),(32,.int .i64 (all.length:Int)),(33,.int .i64 (k:Int))] /\
  (∀i,i<k->hasB h.shut (nth all i)=false)/\SU 2 [(0,29,aD ae ap au t al),(1,29,#[aP,aP,aP,aP,aP])] M N w wr X.heap.size h ve vp vu vs vl/\R wr (BM M N) (aj all) (.slice aa all.length ac)) all.length ⟨0,rfl,rfl,fun i hi=>absurd hi (by omega),S,a⟩ ?_)
 clear S a;rintro m E' wr ⟨k,hmk,rfl,Gk,S,a⟩;refine aO ?_;rcases rU m with u|u
 rotate_left
 ·obtain⟨P,rfl⟩:∃P,m=P+1:=⟨m-1,by omega⟩;have hk:k<all.length:=by omega
  refine ah (gX (b:=true) (hb:=by simp[bg];omega)) ?_;refine bn (CW.seq (eC (CW.skip (aL ?_))));obtain⟨ub,uo,uc,z,c,p⟩:=Py a hk;obtain⟨x,b⟩:∃x,nth all k=x:=⟨_,rfl⟩;rw[b]at c p;simp only[fE,wV]at z;obtain⟨rfl,rfl⟩:=z;refine CW.seq (CW.block ?_);refine aO ?_;refine ah (nZ hk Bj) ?_;refine ah (bz iz (v:=.string x) c) ?_;refine ah bN ?_;refine bn (aO ?_);refine ah (br zN) ?_;refine ah (bz eX (v:=t) (((S.sb G).b0.cell 3).trans rfl)) ?_;refine ah aI ?_;refine dD (S.ask (nM h.shut x) ⟨_,_,rfl,S.kp has,_,[],rfl,⟨rfl,p⟩,rfl⟩) ?_;rintro _ w8 ⟨rfl,A,f⟩;refine⟨_,rfl,?_⟩;refine bn ?_;rcases hxb:hasB h.shut x with _|_
  ·refine CW.no (CW.skip (rO (aL (CW.region ?_))));refine ah (iE (r:=((k+1:Nat):Int)) (hb:=by rw[bC];omega)) ?_;refine ah aI ?_;exact WL.nil (NX.ag P ⟨k+1,by omega,rfl,fun i hi=>by
    rcases dP i k with h1|h1
    ·exact Gk i h1
    ·obtain rfl:i=k:=by omega
     rw[b];exact hxb,A,db (N':=N) a f fun x b=>.inl b⟩)
  ·have hno:lO h s=false:=by
    have:((nK h s).all fun x=> !hasB h.shut x)=false:=by rw[q,List.all_eq_false];exact⟨x,by rw[<-b];exact gK hk,by simp[hxb]⟩
    unfold lO;rw[this];simp
   have B8:=A.sb G;refine eC (aO ?_);refine ah (bF cN A.q6 bE) ?_;refine bW rfl (cs:=aD ve vp vu vs vl) rfl B8.b1 B8.one bE fun wa Y J=> ?_;refine ah bN ?_;obtain⟨O,n,_⟩:=B8.ans G (by decide) J;exact bn (CW.ret (tS (NX.ret (NX.ret (tS (NX.ret (qf rfl rfl rfl Y cN rfl bE ⟨_,rfl,no _ hno O,n⟩)))))))
 subst u;obtain rfl:k=all.length:=by omega
 have ho:lO h s=true:=by
  have:((nK h s).all fun x=> !hasB h.shut x)=true:=by rw[q,fH];intro x b;obtain⟨i,hi,rfl⟩:=Mg.1 b;have:=Gk i hi;rw[nth,List.getD,bX hi]at this;simpa using this
  unfold lO;rw[this,hm,ni];rfl
 refine ah (gX (b:=false) (hb:=by simp[bg])) ?_;refine bn (CW.seq (CW.no (CW.exit (qg (qg (AV (aL ?_)))))));clear Gk hmk no;refine CW.seq (aO ?_);refine ah (br qq) ?_;refine ah (bz mR (v:=ae) (((S.sb G).b0.cell 0).trans rfl)) ?_;refine dD (aH.calls (aH.eB (ayu h.entries)) S.cM (vs:=[ae]) ⟨_,[],rfl,S.kp mE,rfl⟩) ?_;rintro _ w8 ⟨vo,rfl,j,f⟩;refine⟨_,rfl,?_⟩;have A:=S.below f;have a:=db (N':=N) a f fun x b=>.inl b;clear S f;obtain⟨o,d⟩:∃o,bR h.entries=o:=⟨_,rfl⟩;rw[d]at j;have hol:o.length<=6:=by rw[<-d];unfold bR;rw[aC hO.qF,v7];have h1:=amu h.entries;have h2:=(qG hO.qF).1;omega
 obtain⟨J,oc,M3,_⟩:=mA (ma (n:=1) (fun _=>rfl) o) j;rw[di]at M3;subst M3;refine ah (yV rfl rfl rfl rfl eX rfl) ?_;refine ah aI ?_;refine bn ?_;refine CW.sl [1,4,6,7,45,46,47] ?_;refine CW.block (CW.loop (fun m E' wr=>∃(k:Nat) (N:Nat->Prop) (vu:Value),m+k=o.length/\E'=[(1,.string s),(4,PH (w.heap.size+1)),(6,PH X.heap.size),(7,.slice aa all.length ac),(45,.slice J o.length oc),(46,.int .i64 (o.length:Int)),(47,.int .i64 (k:Int))] /\
  SU 2 [(0,29,aD ae ap au t al),(1,29,#[aP,aP,aP,aP,aP])] M N w wr X.heap.size (gY h all k) ve vp vu vs vl/\R wr (BM M N) (aj all) (.slice aa all.length ac)/\R wr (BM M N) (aj o) (.slice J o.length oc)) o.length ⟨0,_,_,rfl,rfl,A,a,j⟩ ?_)
 clear A j a;rintro m E' w7 ⟨k,N,vu,hmk,rfl,S,a,j⟩;have rk:=V2 hO all k (by rw[d];omega);refine aO ?_;rcases rU m with u|u
 rotate_left
 ·obtain⟨P,rfl⟩:∃P,m=P+1:=⟨m-1,by omega⟩;have hk:k<o.length:=by omega
  refine ah (gX (b:=true) (hb:=by simp[bg];omega)) ?_;refine bn (CW.seq (eC (CW.skip (aL ?_))));obtain⟨ub,uo,uc,z,c,p⟩:=Py j hk;obtain⟨x,b⟩:∃x,nth o k=x:=⟨_,rfl⟩;rw[b]at c p;simp only[fE,wV]at z;obtain⟨rfl,rfl⟩:=z;refine CW.seq (CW.block ?_);refine aO ?_;refine ah (nZ hk Bj) ?_;refine ah (bz iz (v:=.string x) c) ?_;refine ah bN ?_;refine bn (aO ?_);refine ah aI ?_;refine ah aI ?_;refine dD (S.ask (nM all x) ⟨_,_,rfl,a,_,[],rfl,⟨rfl,p⟩,rfl⟩) ?_;rintro _ w8 ⟨rfl,A,f⟩;refine⟨_,rfl,?_⟩;have C:=db (N':=N) a f fun x b=>.inl b;have F:=db (N':=N) j f fun x b=>.inl b;clear S a j c f;refine ah aI ?_;have eY:gY h all (k+1)=if hasB all x&& !hasB (gY h all k).up x then xI (gY h all k) x else gY h all k:=by rw[<-b, <-d];rfl
  rcases hab:hasB all x with _|_
  ·refine dO (b:=false) ?_;refine dO (b:=false) ?_;refine dO (b:=false) ?_;refine dO (b:=false) ?_;refine dO (b:=false) ?_;refine ah (pR rfl rfl rfl) ?_;refine bn (CW.no (CW.skip ?_));refine rO (aL (CW.region ?_));refine ah (iE (r:=((k+1:Nat):Int)) (hb:=by rw[bC];omega)) ?_;refine ah aI ?_;exact WL.nil (NX.ag P ⟨k+1,_,vu,by omega,rfl,by rw[eY,hab];exact A,C,F⟩)
  refine fY (b:=true) (br qt) ?_;refine fY (b:=true) (bz eX (v:=vu) ((A.q6.cell 2).trans rfl)) ?_;refine fY (b:=true) aI ?_;refine wN (b:=true) (A.axq G p (nM (gY h all k).up x)) ?_;rintro _ w9 ⟨rfl,l,jP⟩;refine⟨_,rfl,?_⟩;have U:=db (N':=N) C jP fun x b=>.inl b;have V:=db (N':=N) F jP fun x b=>.inl b;clear A C F jP;refine fY (b:=true) qE ?_;refine ah (nu rfl rfl rfl) ?_;rcases JS:hasB (gY h all k).up x with _|_
  rotate_left
  ·refine bn (CW.no (CW.skip ?_));refine rO (aL (CW.region ?_));refine ah (iE (r:=((k+1:Nat):Int)) (hb:=by rw[bC];omega)) ?_;refine ah aI ?_;exact WL.nil (NX.ag P ⟨k+1,_,vu,by omega,rfl,by rw[eY,hab,JS];exact l,U,V⟩)
  refine WL.nil (aL (eC ?_));have hfx:=ac5 hO.qF x (by rw[d, <-b];exact gK hk);have hat:cO (gY h all k) x<(gY h all k).parts.length:=by unfold cO;rw[rk.e,rk.n,hO.len];exact hfx.2
  have hpk:=Cc (rk.p _ (gK hat));refine CW.region ?_;refine ah (bF cN l.q6 bE) ?_;refine ah aI ?_;refine dD (aK3 l.H l.U (fun y hy=>⟨(l.ua y hy).1,by have:=(l.ua y hy).2.1;have:=G.2.2;omega⟩) (by rw[rk.e];exact hfx.1) hat (by have:=hpk.1;omega) (by have:=hpk.2;omega) p (by have:=rk.u;have:=hh.ul;omega)) ?_;rintro _ xZ ⟨bZ,rfl,Yx,Q3,H,Q⟩;refine⟨_,rfl,?_⟩;refine bW rfl (cs:=aD ve vp bZ vs vl) rfl ((Q.block _ l.q6.lt l.n6k).trans l.q6) ((l.sb G).iU Q3.read) bE fun LK z6 I=> ?_;have S11:=l.aF7 G Yx Q3 H Q I z6;have aCs:=l.anp H Q I U;have aCu:=l.anp H Q I V;refine WL.nil ?_;refine rO (aL (CW.region ?_));refine ah (iE (r:=((k+1:Nat):Int)) (hb:=by rw[bC];omega)) ?_;refine ah aI ?_;exact WL.nil (NX.ag P ⟨k+1,_,bZ,by omega,rfl,by rw[eY,hab,JS];exact S11,aCs,aCu⟩)
 subst u;obtain rfl:k=o.length:=by omega
 refine ah (gX (b:=false) (hb:=by simp[bg])) ?_;refine bn (CW.seq (CW.no (CW.exit (qg (qg (AV (aL ?_)))))));have S7:=S.sb G;clear S j a;rw[<-d, <-q]at *;refine aO ?_;refine ah (br tj) ?_;refine ah (bz vc (v:=vl) ((S7.q6.cell 4).trans rfl)) ?_;refine ah aI ?_;refine ah (kF (vs:=[(0,.int .i64 1),(1,.string s)]) (Te 1 s)) ?_;obtain⟨cY,w9,N',F3,yO,x6,_,_,l⟩:=S7.lg G (e:=jm 1 s) (T9 (by decide) hs) (by rw[rk.l];omega);refine ah Ki ?_;refine ah (rB rfl rfl rfl F3) ?_;refine ah (br tj) ?_;refine qO (pS rfl rfl rfl (by kernel_rfl) yO ((x6.cell 4).trans rfl) (x6.frozen 4)) ?_;generalize w9.setCell ⟨X.heap.size,0+4,none⟩ cY=wA at l ⊢;refine bn ?_;refine CW.sl [4,6] ?_;refine aO ?_;refine ah (bF cN l.q6 bE) ?_;refine bW rfl (cs:=aD ve vp _ vs cY) rfl l.b1 l.one bE fun wa Y J=> ?_;refine ah bN ?_;obtain⟨O,n,_⟩:=l.ans G (by decide) J;refine bn (CW.ret (qf rfl rfl rfl Y cN rfl bE ⟨_,rfl,?_,n⟩));have hd:gM h s=qB (gY h (nK h s) (bR h.entries).length) (jm 1 s):=by unfold gM;rw[aC ho]
 rw[hd,ho];exact⟨_,rfl,_,_,rfl,O,_,_,rfl,rfl,rfl⟩
def Tp(h:Host)(s:ByteArray)(a:oz h):aH az 7 none [enc h,.str s] (.aU [enc (gM h s),.bool (lO h s)]) [] :=
 CO (by kernel_rfl) fun w M vs G b=>by obtain⟨v,_,rfl,c,e,_,rfl,⟨rfl,d⟩,rfl⟩:=b;exact aKR G c d a
def E2(arg:Array Value):List (Nat×TypeId×Array Value):=[(0,29,arg),(1,29,#[aP,aP,aP,aP,aP]),(2,102,eW)]
abbrev SH(M:Addr->Prop)(N:Nat->Prop)(w W:World)(b6:Nat)(g:Host)(arg:Array Value)(ve vp vu vs vl:Value):Prop:=SB 3 (E2 arg) M N w W b6 g ve vp vu vs vl
def M7:vD az 24=some 5:=by kernel_rfl
def aaT:mD az 59 1=some 1:=by kernel_rfl
def tO:Array Value:=#[.string ⟨#[]⟩,.bool false,.bool false,aP,.int .i64 0,aP]
def aEA(l:List ByteArray):(dZ l).1.core.cells=[]/\(dZ l).1.ak.length<=3:=by
 unfold dZ;split
 ·exact⟨rfl,fW _⟩
 ·split
  ·exact⟨rfl,fW _⟩
  ·exact EN _ _
def alQ(l:List ByteArray):DT (dZ l).1:=by obtain⟨a,b⟩:=aEA l;exact⟨by rw[a];exact fW _,b⟩
def azT{s:ByteArray}(h:s≠t):gx .eql s t=false:=by simp only[gx,Zw];exact fun e=>h (toList_inj e)
def aEK{s:ByteArray}(h:s≠t):gx .neq s t=true:=by have:=azT h;simp only[gx]at this ⊢;rw[this];rfl
def ahp(m:ByteArray):uk az 31 [(0,.string m)]=some #[.string m,.string ⟨#[]⟩,.int .i64 0,.string ⟨#[]⟩]:=by kernel_rfl
def ahR{m:ByteArray}(a:m.size<=maxLen):R w M (enc (bK m)) (.agg #[.string m,.string ⟨#[]⟩,.int .i64 0,.string ⟨#[]⟩]):=by
 have e:(⟨#[]⟩:ByteArray).size<=maxLen:=by decide
 have i:IntKind.i64.min<=(0:Int)/\(0:Int)<=IntKind.i64.max:=by decide
 exact⟨_,rfl,_,_,rfl,⟨rfl,a⟩,_,_,rfl,⟨rfl,e⟩,_,_,rfl,⟨rfl,i⟩,_,_,rfl,⟨rfl,e⟩,rfl⟩
def VZ{r:gH}(h:R w M (enc r) v):v=.agg (fN r):=by
 obtain⟨c,rfl,v0,r0,e,⟨rfl,a⟩,v1,r1,rfl,⟨rfl,b⟩,d,r2,rfl,⟨rfl,f⟩,i,r3,rfl,⟨rfl,j⟩,v4,r4,rfl,⟨rfl,k⟩,rfl⟩:=h;have:c=fN r:=by rw[<-iX,e];rfl
 rw[this]
def OU{p:Part}{r:gH}(h:R w M (.aU [enc p,enc r]) v):∃cs:Array Value,v=.tuple #[.agg cs,.agg (fN r)]/\cs.size=6/\(∀u∈cs.toList,u.oneCell'=true)/\R w M (enc p) (.agg cs):=by obtain⟨t,rfl,j,r0,e,a,k,r1,rfl,c,rfl⟩:=h;obtain rfl:=VZ c;obtain⟨S,d,rfl,f,i,_⟩:=DW a;refine⟨_,by rw[show t=#[_,_]from by rw[<-iX,e]],rfl,?_,a⟩;intro u b;obtain⟨l,n,m,rfl,_⟩:=(show R w M (.sl (p.core.cells.map aB.cells)) S from f);obtain⟨o,q,x,rfl,_⟩:=(show R w M (.sl (p.ak.map aB.cells)) d from i);simp at b;rcases b with rfl|rfl|rfl|rfl|rfl|rfl<;>rfl
def Pf(r:gH):∀u∈(fN r).toList,u.oneCell'=true:=by intro u a;simp[fN]at a;rcases a with rfl|rfl|rfl|rfl|rfl<;>rfl
def axI(v:Int):uk az 102 [(1,.int .i64 v)]=some #[.int .i64 0,.int .i64 v,.string ⟨#[]⟩,.int .i64 0,.int .i64 0]:=by kernel_rfl
def ME(k:Int):uk az 102 [(0,.int .i64 k)]=some #[.int .i64 k,.int .i64 0,.string ⟨#[]⟩,.int .i64 0,.int .i64 0]:=by kernel_rfl
def Ai{k v:Int}(a:IntKind.i64.min<=k/\k<=IntKind.i64.max)(b:IntKind.i64.min<=v/\v<=IntKind.i64.max):R w M (enc (rep k v 0 0)) (.agg #[.int .i64 k,.int .i64 v,.string ⟨#[]⟩,.int .i64 0,.int .i64 0]):=by
 have e:(⟨#[]⟩:ByteArray).size<=maxLen:=by decide
 have i:IntKind.i64.min<=(0:Int)/\(0:Int)<=IntKind.i64.max:=by decide
 exact⟨_,rfl,_,_,rfl,⟨rfl,a⟩,_,_,rfl,⟨rfl,b⟩,_,_,rfl,⟨rfl,e⟩,_,_,rfl,⟨rfl,i⟩,_,_,rfl,⟨rfl,i⟩,rfl⟩
set_option maxHeartbeats 4000000 in
def aKQ{s:ByteArray}(hG:ek w M)(hv:R w M (enc h) v)(hs:s.size<=maxLen)(hh:oz h) :
  Calls az 115 #[v,.string s] w fun e w'=>∃r,e=.returned r/\R w' M (.aU [enc (uw h s).1,enc (uw h s).2]) r/\Below w.heap.size w w':=by
 obtain⟨ae,ap,au,F,al,rfl,mE,hap,qX,has,hal⟩:=Gf hv;refine pH (E:=[(0,.agg (aD ae ap au F al)),(1,.string s)]) Tryz.func115 rfl Tryz.ntmps115 (by simp) (by simp) ?_;refine aO ?_;refine CZ B0.nil fun _ B=> ?_;refine CY B oT fun _ B=> ?_;refine CY B mJ fun w1 B=> ?_;refine bn ?_;refine CW.sl [1,2,4,5] ?_;refine aO ?_;refine ah (bF cN B.q0 bE) ?_;refine dD (Yi B hG hv hh) ?_;rintro _ n ⟨ve,vp,vu,vs,vl,rfl,one,mk⟩;refine⟨_,rfl,?_⟩;refine ah (eQ rfl oT) ?_;refine bW rfl (cs:=aD ve vp vu vs vl) rfl (xH n) one bE fun w3 q6 oV=> ?_;obtain⟨N,S⟩:=mk w3 q6 oV;have S3:SB 3 (E2 (aD ae ap au F al)) M N w w3 n.heap.size h ve vp vu vs vl:=S;clear mk one q6 oV S B;refine bn ?_;refine CW.sl [1,2,4,5,6] ?_;refine CW.seq (aO ?_);refine ah (bF cN S3.b0 bE) ?_;refine ah aI ?_;refine dD (S3.ask (MQ h s hh) ⟨_,_,rfl,S3.kp hv,_,[],rfl,⟨rfl,hs⟩,rfl⟩) ?_;rintro _ w4 ⟨rfl,S4⟩;refine⟨_,rfl,?_⟩;clear S3;refine ah qE ?_;refine bn ?_;rcases P:gW h s with _|_
 ·refine eC ?_;refine aO ?_;refine ah (bF cN S4.q6 bE) ?_;refine ah (kF (vs:=[(0,.int .i64 7)]) (ME 7)) ?_;refine bW rfl (cs:=aD ve vp vu vs vl) rfl S4.b1 S4.one bE fun wa z4 oa=> ?_;have z5:=(oa.block (w.heap.size+2) (by omega)).trans S4.b2;refine bW rfl (cs:=#[.int .i64 7,.int .i64 0,.string ⟨#[]⟩,.int .i64 0,.int .i64 0]) rfl z5 (by decide) cz fun wb y5 ob=> ?_;have y4:=(ob.block (w.heap.size+1) (by omega)).trans z4;obtain⟨hr,eP⟩:=S4.out hG (by decide) (by decide) oa ob;have hd:uw h s=(h,rep 7 0 0 0):=by unfold uw;rw[aC P]
  refine WL.nil (aL (CW.ret (NX.ret (zu rfl rfl rfl y4 y5 cN gC rfl rfl bE cz ⟨_,rfl,?_,eP⟩))));rw[hd];exact⟨_,rfl,_,_,rfl,hr,_,_,rfl,Ai (by decide) (by decide),rfl⟩
 refine CW.no (CW.skip (aL ?_));refine CW.seq (aO ?_);refine ah (br zN) ?_;refine ah (bz eX (v:=F) ((S4.b0.cell 3).trans rfl)) ?_;refine ah aI ?_;refine dD (S4.ask (nM h.shut s) ⟨_,_,rfl,S4.kp has,_,[],rfl,⟨rfl,hs⟩,rfl⟩) ?_;rintro _ w5 ⟨rfl,S5⟩;refine⟨_,rfl,?_⟩;clear S4;refine ah qE ?_;refine bn ?_;rcases hsh:hasB h.shut s with _|_
 ·refine eC ?_;refine aO ?_;refine ah (bF cN S5.q6 bE) ?_;refine ah (kF (vs:=[(0,.int .i64 6)]) (ME 6)) ?_;refine bW rfl (cs:=aD ve vp vu vs vl) rfl S5.b1 S5.one bE fun wa z4 oa=> ?_;have z5:=(oa.block (w.heap.size+2) (by omega)).trans S5.b2;refine bW rfl (cs:=#[.int .i64 6,.int .i64 0,.string ⟨#[]⟩,.int .i64 0,.int .i64 0]) rfl z5 (by decide) cz fun wb y5 ob=> ?_;have y4:=(ob.block (w.heap.size+1) (by omega)).trans z4;obtain⟨hr,eP⟩:=S5.out hG (by decide) (by decide) oa ob;have hd:uw h s=(h,rep 6 0 0 0):=by unfold uw;rw[aw (by rw[P];decide),aC hsh]
  refine WL.nil (aL (CW.ret (NX.ret (zu rfl rfl rfl y4 y5 cN gC rfl rfl bE cz ⟨_,rfl,?_,eP⟩))));rw[hd];exact⟨_,rfl,_,_,rfl,hr,_,_,rfl,Ai (by decide) (by decide),rfl⟩
 refine CW.no (CW.skip (aL ?_));refine CW.sl [1,2,4,5,6] ?_;have hO:wJ h:=DD.1 (by unfold gW at P;simp only[aX]at P;exact P.1.1);have BA:h.log.length<24:=by unfold gW at P;simp only[aX,du]at P;exact P.2
 have hfs:0<=cV h.entries s:=by unfold gW at P;simp only[aX,qi,oH]at P;have:=P.1.2;omega
 have uy:cV h.entries s=((cO h s:Nat):Int):=(Md hfs).symm;have V:cO h s<h.parts.length:=by obtain⟨i,h1,h2,_⟩:=vF hfs;unfold cO;rw[h1,hO.len];simpa using h2
 have vQ:=Cc (uz hO _ (gK V));obtain⟨i,hid⟩:∃i,cO h s=i:=⟨_,rfl⟩;rw[hid]at uy V vQ;obtain⟨p,xu⟩:∃p,nth h.parts i=p:=⟨_,rfl⟩;rw[xu]at vQ;refine aO ?_;refine ah (br qq) ?_;refine ah (bz mR (v:=ae) ((S5.b0.cell 0).trans rfl)) ?_;refine ah aI ?_;refine dD (aH.calls (qR h.entries s) S5.H.cM (vs:=[ae,.string s]) ⟨_,_,rfl,S5.kp mE,_,[],rfl,⟨rfl,hs⟩,rfl⟩) ?_;rintro _ w6 ⟨_,rfl,hfi,kU⟩;obtain⟨rfl, -⟩:=hfi;rw[uy];refine⟨_,rfl,?_⟩;have S6:=S5.below kU;clear S5 kU;refine ah bN ?_;refine bn ?_;refine CW.sl [1,2,4,5,6,7] ?_;obtain⟨aa,ac,Dp,_,Gg⟩:=mA (ma (n:=6) (fun _=>rfl) h.parts) hap;rw[di]at Dp;subst Dp;obtain⟨pb,po,us,rfl,jq,hRs,z⟩:=Gg i _ (get_map h.parts V);rw[xu]at hRs;have hR0:R w M (enc p) (.agg us.toArray):=⟨_,rfl,hRs⟩;have xn:∀(j:Nat) (u:Value),us[j]? =some u->w6.cell? ((⟨pb,po+i*6,none⟩:Addr).add j)=some u:=fun j u hu=>by rw[tU];have hc:=z j u hu;rw[S6.bw.cell (gm hc)];exact hc
 have Gq:(bK jr).text.size<4294967281:=show cL.size<4294967281 by decide
 refine aO ?_;refine ah (br sj) ?_;refine ah (bz ql (v:=.slice (some ⟨pb,po,none⟩) h.parts.length ac) ((S6.b0.cell 1).trans rfl)) ?_;refine ah aI ?_;refine ah (nZ V FM) ?_;refine ah (yX (cs:=us) rfl rfl dF rfl (by rw[jq];exact lZ) xn) ?_;refine ah (kF (vs:=[(0,.string jr)]) (ahp jr)) ?_;refine dD (aH.calls (ZU p (bK jr) (by have:=vQ.1;omega) (by have:=vQ.2;omega) Gq) S6.H.cM (vs:=[.agg us.toArray,.agg #[.string jr,.string ⟨#[]⟩,.int .i64 0,.string ⟨#[]⟩]]) ⟨_,_,rfl,S6.kp hR0,_,[],rfl,ahR (by decide),rfl⟩) ?_;rintro _ t ⟨vq,rfl,hq,iN⟩;obtain⟨qs,rfl,DE,hq1,Gh⟩:=OU hq;refine⟨_,rfl,?_⟩;have S7:=S6.below iN;clear S6 iN xn hq;obtain⟨q,BI⟩:∃q,gJ p (bK jr)=q:=⟨_,rfl⟩;rw[BI]at Gh;rw[BI];refine ah aI ?_;refine ah fG ?_;refine ah fG ?_;refine ah (eQ rfl Oy) ?_;refine ah (eQ rfl mJ) ?_;have s8:aA ((t.alloc (.cells tO 87)).alloc (.cells eW 102)) t.heap.size 87 tO:=(aA.new t _ _).alloc _;have s9:aA ((t.alloc (.cells tO 87)).alloc (.cells eW 102)) (t.heap.size+1) 102 eW:=by have:=aA.new (t.alloc (.cells tO 87)) 102 eW;rw[gb]at this;exact this
 have G:Below t.heap.size t ((t.alloc (.cells tO 87)).alloc (.cells eW 102)):=bt (iA _ _ _) (iA _ _ _);change WL _ _ _ _ _ _ ((t.alloc (.cells tO 87)).alloc (.cells eW 102));simp only[gb];generalize (t.alloc (.cells tO 87)).alloc (.cells eW 102)=w8 at s8 s9 G ⊢;refine bW rfl (cs:=qs) rfl s8 (hC:=(by rw[DE];rfl)) hq1 (by rw[DE];exact lZ) fun w9 t8 H=> ?_;have t9:=(H.block (t.heap.size+1) (by omega)).trans s9;refine bW rfl (cs:=fN q.2) rfl t9 (Pf _) cz fun xZ u9 I=> ?_;have u8:aA xZ t.heap.size 87 qs:=(I.block _ (by omega)).trans t8;have Q:Below t.heap.size t xZ:=⟨I.os.trans (H.os.trans G.os),I.tape.trans (H.tape.trans G.tape),I.output.trans (H.output.trans G.output),by rw[I.size,H.size];exact G.size,fun i V=>((I.block i (by omega)).trans (H.block i (by omega))).trans (G.block i V)⟩;obtain⟨l,T⟩:∃l:Nat->Prop,l=fun x=>N x\/x=t.heap.size:=⟨_,rfl⟩;have n8:l t.heap.size:=by rw[T];exact .inr rfl
 have Nv:∀x,l x->N x\/t.heap.size<=x:=fun x f=>by rw[T]at f;exact f.imp id fun e=>by omega
 have l10:=u8.lt;have J:=S7.new (N':=l) Q Nv (fun x f=>by rw[T];exact .inl f) fun x f=>by
  rw[T]at f;rcases f with f|f
  ·have:=S7.H.nb x f;have:=Q.size;omega
  ·omega
 have aB2:=R.keep (BM.below (N':=l) Q Nv) _ _ Gh;have UB:w.heap.size+3<=t.heap.size/\t.heap.size≠n.heap.size/\¬KV vp vl t.heap.size:=⟨by have:=S7.q6.lt;have:=S7.lo;omega,by have:=S7.q6.lt;omega,fun hk=>hk.elim (fun e=>by have:=(S7.H.p.lt _ e).2;omega) fun e=>by have:=(S7.H.l.lt _ e).2;omega⟩;clear S7 Gh G Q s8 s9 t8 t9 H I;obtain⟨g8,aj7⟩:∃g8,t.heap.size=g8:=⟨_,rfl⟩;rw[aj7]at u8 u9 UB n8 l10;rw[aj7];refine bn ?_;refine aO ?_;refine ah bN ?_;refine bn ?_;have hqo:DT q.1:=by rw[<-BI];exact Cc (MS (xu▸uz hO _ (gK V)) _).1
 refine CW.seq (QS (fun E' W=>∃(pp:Part) (vv:Int) (cs:Array Value),E'=[(1,.string s),(4,PH (w.heap.size+1)),(5,PH (w.heap.size+2)),(6,PH n.heap.size),(7,.int .i64 ((i:Nat):Int)),(8,PH g8),(10,.int .i64 vv)]/\pp=(if q.2.code=0 then q.1 else(dZ (nth h.entries i).recipe).1)/\vv=(if q.2.code=0 then 1 else 0) /\
  SH M l w W n.heap.size h (aD ae (.slice (some ⟨pb,po,none⟩) h.parts.length ac) au F al) ve vp vu vs vl/\aA W g8 87 cs/\cs.size=6/\(∀u∈cs.toList,u.oneCell'=true)/\R W (BM M l) (enc pp) (.agg cs)/\DT pp) ?_ ?_)
 ·refine aO ?_;refine ah (br FR) ?_;refine ah (bz kO (v:=.int .i64 q.2.code) ((u9.cell 0).trans rfl)) ?_;by_cases X:q.2.code=0
  ·refine ah (gX (b:=false) (hb:=by simp[bg,X])) ?_;refine WL.nil (aL (CW.no (CW.skip ?_)));exact AW ⟨q.1,1,qs,rfl,by rw[aC X],by rw[aC X],J,u8,DE,hq1,aB2,hqo⟩ ⟨rfl,rfl,rfl,rfl,rfl,rfl,rfl,trivial⟩
  ·refine ah (gX (b:=true) (hb:=by simp[bg,X])) ?_;refine WL.nil (aL (eC ?_));obtain⟨ea,ec,Dn,_,NM⟩:=mA (ma (n:=5) (fun _=>rfl) h.entries) mE;rw[di]at Dn;have hie:i<h.entries.length:=by rw[<-hO.len];exact V
   obtain⟨eb,eo,es,rfl,hes,⟨c0,_,hcc,⟨rfl,_⟩,c1,_,rfl,N9,_⟩,abz⟩:=NM i _ (get_map h.entries hie);subst Dn;have hrec:xZ.cell? ⟨eb,eo+i*5+1,none⟩=some c1:=by have hc:=abz 1 c1 (by rw[hcc];rfl);rw[J.bw.cell (gm hc)];exact hc
   refine aO ?_;refine ah (br qq) ?_;refine ah (bz mR (v:=.slice (some ⟨eb,eo,none⟩) h.entries.length ec) ((J.b0.cell 0).trans rfl)) ?_;refine ah aI ?_;refine ah (nZ hie M7) ?_;refine ah (br aaT) ?_;refine ah (bz eX (v:=c1) hrec) ?_;refine dD (aH.calls (aH.eB (Tn (nth h.entries i).recipe)) J.H.cM (vs:=[c1]) ⟨_,[],rfl,xy (show R w M (aj (nth h.entries i).recipe) c1 from N9) J.bw J.nw,rfl⟩) ?_;rintro _ LK ⟨vm,rfl,hmk,ajJ⟩;obtain⟨ms,rfl,hms,lM,jd⟩:=OU hmk;refine⟨_,rfl,?_⟩;refine ah aI ?_;refine ah fG ?_;refine ah fG ?_;refine bW rfl (cs:=ms) rfl (u8.below ajJ u8.lt) (hC:=(by rw[hms,DE])) lM (by rw[hms];exact lZ) fun w12 y8 amk=> ?_;have S12:=(J.below ajJ).wr hG amk n8 UB.2.2 UB.1 UB.2.1;have aBL:=iC jd amk n8;refine WL.nil (aL (CW.region ?_));refine ah bN ?_;refine WL.nil ?_;exact AW ⟨_,0,ms,rfl,by rw[aw X],by rw[aw X],S12,y8,hms,lM,aBL,alQ _⟩ ⟨rfl,rfl,rfl,rfl,rfl,rfl,rfl,trivial⟩
 rintro E' W ⟨pp,vv,cs,rfl,tv,hvv,S,u8,hcs,hc1,qw,hok⟩;have kr:(h.parts.map (aB.cells (α:=Part))).length=h.parts.length:=di _;obtain⟨b,cap,_,uB,_⟩:=S.H.p.row (get_map h.parts V);rw[kr]at uB;subst uB;have hbk:=S.kv b (.inl rfl);have Dx:=(S.H.p.lt b rfl).1;refine aL ?_;refine CW.seq (CW.any (fun W=>aA W n.heap.size 29 (aD ve (.slice (some ⟨b,0,none⟩) h.parts.length cap) vu vs vl)/\aA W g8 87 cs) 6 mo fun wa hwd Y=>⟨⟨S.q6.below Y S.q6.lt,u8.below Y u8.lt⟩,?_⟩);have Sa:=S.below Y;have a8:=u8.below Y u8.lt;have ajR:=R.keep (BM.below (N':=l) Y fun x f=>.inl f) _ _ qw;clear S u8 qw Y;refine bf 0 rfl (fun W hW=>br sj) ⟨Sa.q6,a8⟩ ?_;refine bf 1 rfl (fun W hW=>bz ql (v:=.slice (some ⟨b,0,none⟩) h.parts.length cap) ((hW.1.cell 1).trans rfl)) ⟨Sa.q6,a8⟩ ?_;refine bf 2 rfl (fun W hW=>aI) ⟨Sa.q6,a8⟩ ?_;refine bf 3 rfl (fun W hW=>bF dF hW.2 (by rw[hcs];exact lZ)) ⟨Sa.q6,a8⟩ ?_;refine qK 4 rfl (aH.calls (Tt pp dY (by have:=hok.1;omega) (by have:=hok.2;omega)) Sa.H.cM (vs:=[.agg cs,.string dY]) ⟨_,_,rfl,ajR,_,[],rfl,⟨rfl,by decide⟩,rfl⟩) ?_;rintro _ wb ⟨vq,rfl,hq,qY⟩;obtain⟨ds,rfl,hds,hone,Bu⟩:=VP hq;have Sb:=Sa.below qY;have b8:=a8.below qY a8.lt;clear Sa a8 qY;refine⟨_,rfl,fun _=>⟨Sb.q6,b8⟩,?_⟩;refine gP 5 rfl (yU rfl rfl rfl V FN) (fun _=>⟨Sb.q6,b8⟩) ?_;refine Yp 6 rfl (by kernel_rfl) rfl rfl rfl rfl rfl rfl Sb.H.p (by rw[kr];exact V) rfl hds hone Bu lZ fun A mZ Ca=> ?_;refine iH (by kernel_rfl) (aL ?_);have Sc:SH M l w A n.heap.size {h with parts:=h.parts.set i (nz pp dY)} (aD ae (.slice (some ⟨pb,po,none⟩) h.parts.length ac) au F al) ve (.slice (some ⟨b,0,none⟩) h.parts.length cap) vu vs vl :=
  Sb.part mZ Ca
 clear Sb b8 hq mZ Ca Bu ajR;refine CW.sl [1,4,5,6,10] ?_;obtain⟨ti,aK,hz,hsz,hby⟩:=wT (P:=az) (e:=9) (z:=.string ⟨#[]⟩) (size:=1) (bytes:=16) (by kernel_rfl);have hgd:({h with parts:=h.parts.set i (nz pp dY)}:Host).shut=h.shut:=rfl;obtain⟨g,hgg⟩:∃g:Host,{h with parts:=h.parts.set i (nz pp dY)}=g:=⟨_,rfl⟩;rw[hgg]at Sc hgd;obtain⟨sa,sc,Hr,aMk,_⟩:=mA (ma (n:=1) (fun _=>rfl) h.shut) (show R A (BM M l) (.sl (h.shut.map aB.cells)) vs from hgd▸Sc.H.s);rw[di]at Hr;subst Hr;have hsl:=hh.sl;refine aO ?_;refine ah (adj rfl eX aK hsz hz rfl) ?_;refine ah bN ?_;have JC:=iA A #[] 9;have hzz:(A.alloc (.cells #[] 9)).heap.size=A.heap.size+1:=gb _ _;have ow:(A.alloc (.cells #[] 9)).ownsRow 0 9 1 (.slice (some ⟨A.heap.size,0,none⟩) 0 0) 0 []:=⟨rfl,.inr ⟨A.heap.size,0,#[],rfl,fW _,vg A _,bM _,fW _,rfl,rfl⟩⟩;have Sd:=Sc.new (N':=fun x=>l x\/x=A.heap.size) JC (fun x f=>f.imp id fun e=>by omega) (fun x f=>.inl f) fun x f=>by
  rcases f with f|f
  ·have:=Sc.H.nb x f;omega
  ·omega
 have hcl:=Sc.q6.lt;have aLS:=Sc.lo;have Od:OR M (fun x=>l x\/x=A.heap.size) (A.alloc (.cells #[] 9)) 9 1 (((h.shut.take 0).filter fun x=> !decide (x=s)).map aB.cells) (.slice (some ⟨A.heap.size,0,none⟩) 0 0):=⟨fun r hr=>by simp at hr,[],ow,fun x f=>by cases f;exact .inr rfl,fun i j r d V=>by simp at V⟩;have ad:∀x,(Value.slice (some ⟨A.heap.size,0,none⟩) 0 0).ownBlock=some x->¬KV (.slice (some ⟨b,0,none⟩) h.parts.length cap) vl x/\w.heap.size+3<=x/\x≠n.heap.size:=fun x f=>by have e:A.heap.size=x:=iR f;subst e;exact⟨fun hk=>hk.elim (fun e=>by have:=(Sc.H.p.lt _ e).2;omega) fun e=>by have:=(Sc.H.l.lt _ e).2;omega,by omega,by omega⟩
 clear Sc;generalize A.alloc (.cells #[] 9)=wd at JC hzz ow Sd Od ⊢;refine bn ?_;refine CW.seq (aO ?_);refine ah (br zN) ?_;refine ah (bz eX (v:=.slice sa h.shut.length sc) ((Sd.q6.cell 3).trans rfl)) ?_;refine ah (yV rfl rfl rfl rfl eX rfl) ?_;refine ah aI ?_;refine bn ?_;refine CW.sl [1,4,5,6,10,11,64,65,66] ?_;refine CW.block (CW.loop (fun m E' wr=>∃(k:Nat) (N:Nat->Prop) (v:Value),m+k=h.shut.length/\E'=[(1,.string s),(4,PH (w.heap.size+1)),(5,PH (w.heap.size+2)),(6,PH n.heap.size),(10,.int .i64 vv),(11,v),(64,.slice sa h.shut.length sc),(65,.int .i64 (h.shut.length:Int)),(66,.int .i64 (k:Int))] /\
  SH M N w wr n.heap.size g (aD ae (.slice (some ⟨pb,po,none⟩) h.parts.length ac) au F al) ve (.slice (some ⟨b,0,none⟩) h.parts.length cap) vu (.slice sa h.shut.length sc) vl/\OR M N wr 9 1 (((h.shut.take k).filter fun x=> !decide (x=s)).map aB.cells) v /\
  (∀x,v.ownBlock=some x->¬KV (.slice (some ⟨b,0,none⟩) h.parts.length cap) vl x/\w.heap.size+3<=x/\x≠n.heap.size)) h.shut.length ⟨0,_,_,rfl,rfl,Sd,Od,ad⟩ ?_)
 clear Sd Od ad ow;rintro m E' wr ⟨k,N,v,hmk,rfl,S,O,av⟩;refine aO ?_;rcases rU m with hm0|hm0
 rotate_left
 ·obtain⟨m',rfl⟩:∃m',m=m'+1:=⟨m-1,by omega⟩;have hk:k<h.shut.length:=by omega
  refine ah (gX (b:=true) (hb:=by simp[bg];omega)) ?_;refine WL.nil (aL (CW.seq (eC (CW.skip (aL ?_)))));obtain⟨ub,uo,uc,uA,z,hxs⟩:=Py (show R wr (BM M N) (aj h.shut) (.slice sa h.shut.length sc)from hgd▸S.H.s) hk;obtain⟨x,f⟩:∃x,nth h.shut k=x:=⟨_,rfl⟩;rw[f]at z hxs;simp only[fE,wV]at uA;obtain⟨rfl,rfl⟩:=uA;have Z:(h.shut.take (k+1)).filter (fun x=> !decide (x=s))=(h.shut.take k).filter (fun x=> !decide (x=s))++(if x=s then []else [x]):=by rw[Pr hk,f,Y0];by_cases e:x=s<;>simp[e]
  refine CW.seq (CW.block ?_);refine aO ?_;refine ah (nZ hk Bj) ?_;refine ah (bz iz (v:=.string x) z) ?_;refine ah bN ?_;refine bn ?_;refine aO ?_;refine ah aI ?_;refine ah aI ?_;refine ah (aFJ rfl rfl rfl) ?_;refine bn ?_;by_cases U:x=s
  ·have hc:gx .neq x s=false:=by simp[gx,U]
   rw[hc];refine CW.no (CW.skip ?_);rw[aC U,qP]at Z;refine rO (aL (CW.region ?_));refine ah (iE (r:=((k+1:Nat):Int)) (hb:=by rw[bC];omega)) ?_;refine ah aI ?_;exact WL.nil (NX.ag m' ⟨k+1,_,v,by omega,rfl,S,by rw[Z];exact O,av⟩)
  ·have hc:gx .neq x s=true:=aEK U;rw[hc];rw[aw U]at Z;refine eC (CW.region ?_);refine ah aI ?_;refine ah aI ?_;refine ah (VR rfl rfl rfl eX aK hsz hz rfl) ?_;have fw:=iA wr #[.string x] 9;have hnew:∀(j:Nat) (u:Value),[Value.string x][j]? =some u->(wr.alloc (.cells #[.string x] 9)).cell? ((⟨wr.heap.size,0,none⟩:Addr).add j)=some u:=fun j u hu=>FC (w:=wr) (xs:=[.string x]) (T:=9) j u hu;generalize wr.alloc (.cells #[.string x] 9)=we at fw hnew ⊢;have Se:=S.below fw;have Oe:=O.below fw (N':=N) (fun x f=>.inl f) fun x f=>f;have hfl:((h.shut.take k).filter fun x=> !decide (x=s)).length<=h.shut.length:=dK (Rh _ _) (by rw[lG];omega);obtain⟨v',wf,aAL,Us,hgf,akw⟩:=or_append (P:=az) (ty:=26) (c:=1) (a:=⟨wr.heap.size,0,none⟩) eX aK hz hsz hby rfl (by decide) Oe Se.H.nb (r:=[.str x]) (us:=[.string x]) rfl rfl (fun j d hj=>by
    match j,hj with
    |0,hj=>cases hj;exact⟨_,rfl,rfl,hxs⟩
    |j+1,hj=>simp at hj) hnew (by intro u hu;simp at hu;subst hu;rfl) (by rw[di];omega) (by decide)
   refine ah (rB rfl rfl rfl aAL) ?_;refine ah bN ?_;have Us:OR M (fun y=>N y\/v'.ownBlock=some y) wf 9 1 (((h.shut.take (k+1)).filter fun x=> !decide (x=s)).map aB.cells) v':=by rw[Z,zC];exact Us
   have l6e:=Se.q6.lt;have loe:=Se.lo;have Sf:=Se.grow (N':=fun y=>N y\/v'.ownBlock=some y) hG hgf (fun y C=>⟨(Oe.lt y C).1,av y C⟩) (fun y C=>C.elim .inl fun e=>by
     rcases akw with e2|e2
     ·rw[e2]at e;exact .inl (Oe.lt y e).1
     ·rw[e2]at e;have:=iR e;exact .inr (by omega)) (fun y C=>.inl C) fun y C=>C.elim (fun C=>dS (Se.H.nb y C) hgf.size) fun C=>(Us.lt y C).2
   have af:∀y,v'.ownBlock=some y->¬KV (.slice (some ⟨b,0,none⟩) h.parts.length cap) vl y/\w.heap.size+3<=y/\y≠n.heap.size:=fun y C=>by
    rcases akw with e2|e2
    ·exact av y (e2▸C)
    ·rw[e2]at C;have e3:=iR C;exact⟨fun hk=>hk.elim (fun e=>by have:=(Se.H.p.lt _ e).2;omega) fun e=>by have:=(Se.H.l.lt _ e).2;omega,by omega,by omega⟩
   refine WL.nil ?_;refine rO (aL (CW.region ?_));refine ah (iE (r:=((k+1:Nat):Int)) (hb:=by rw[bC];omega)) ?_;refine ah aI ?_;exact WL.nil (NX.ag m' ⟨k+1,_,v',by omega,rfl,Sf,Us,af⟩)
 subst hm0;obtain rfl:k=h.shut.length:=by omega
 refine ah (gX (b:=false) (hb:=by simp[bg])) ?_;refine WL.nil (aL (CW.seq (CW.no (CW.exit (qg (qg (AV (aL ?_))))))));have Z:h.shut.take h.shut.length=h.shut:=uY;rw[Z]at O;have ov:v.oneCell'=true:=by obtain⟨a,c,rfl,_⟩:=O.len;rfl
 refine CW.sl [1,4,5,6,10,11] ?_;refine aO ?_;refine ah aI ?_;refine ah (br zN) ?_;refine qO (pS rfl rfl rfl (by kernel_rfl) ov ((S.q6.cell 3).trans rfl) (S.q6.frozen 3)) ?_;have z6:aA (wr.setCell ⟨n.heap.size,0+3,none⟩ v) n.heap.size 29 (aD ve (.slice (some ⟨b,0,none⟩) h.parts.length cap) vu v vl):=S.q6.xN 3 v;have v8:bU wr (wr.setCell ⟨n.heap.size,0+3,none⟩ v) n.heap.size:=(bU.refl wr n.heap.size).set (0+3) v;generalize wr.setCell ⟨n.heap.size,0+3,none⟩ v=wg at z6 v8 ⊢;have n6:N n.heap.size/\v.ownBlock≠some n.heap.size:=⟨S.n6,fun e=>(av _ e).2.2 rfl⟩;have nkv:∀x,KV (.slice (some ⟨b,0,none⟩) h.parts.length cap) vl x->N x/\v.ownBlock≠some x:=fun x f=>⟨f.elim (fun e=>(S.H.p.lt x e).1) fun e=>(S.H.l.lt x e).1,fun e=>(av x e).1 f⟩;have Sg:SH M (fun x=>N x/\v.ownBlock≠some x) w wg n.heap.size {g with shut:=h.shut.filter fun x=> !decide (x=s)} (aD ae (.slice (some ⟨pb,po,none⟩) h.parts.length ac) au F al) ve (.slice (some ⟨b,0,none⟩) h.parts.length cap) vu v vl :=
  S.box hG v8 (fun x f=>f.1) nkv (fun k hk=>⟨S.nb k hk,fun e=>by have:=(av _ e).2.1;omega⟩) n6 ⟨rfl,rfl⟩ (R.less S.H.e fun q hq=>hq.imp id C4) (R.less S.U fun q hq=>hq.imp id C4)
   (O.GV (fun x f=>f.1) fun x f=>⟨fun hq=>hq.2 f,fun o P=>by have:=(av x f).2.1;have h2:x<w.heap.size:=hG.1 _ P;omega⟩) z6
 clear S O z6 v8;refine bn ?_;refine CW.sl [1,4,5,6,10] ?_;obtain⟨N2,iM⟩:∃N2:Nat->Prop,N2=fun x=>N x/\v.ownBlock≠some x:=⟨_,rfl⟩;rw[<-iM]at Sg;have hgl:g.log=h.log:=by rw[<-hgg]
 obtain⟨g',abH⟩:∃g':Host,{g with shut:=h.shut.filter fun x=> !decide (x=s)}=g':=⟨_,rfl⟩;rw[abH]at Sg;have aBo:g'.log=h.log:=by rw[<-abH];exact hgl
 refine aO ?_;refine ah (br tj) ?_;refine ah (bz vc (v:=vl) ((Sg.q6.cell 4).trans rfl)) ?_;refine ah aI ?_;refine ah (kF (vs:=[(0,.int .i64 4),(1,.string s)]) (Te 4 s)) ?_;obtain⟨cY,wj,N3,ND,yO,x6,_,_,Sk⟩:=Sg.lg hG (e:=jm 4 s) (T9 (by decide) hs) (by rw[aBo];omega);refine ah Ki ?_;refine ah (rB rfl rfl rfl ND) ?_;refine ah (br tj) ?_;refine qO (pS rfl rfl rfl (by kernel_rfl) yO ((x6.cell 4).trans rfl) (x6.frozen 4)) ?_;generalize wj.setCell ⟨n.heap.size,0+4,none⟩ cY=wk at Sk ⊢;clear Sg x6;refine bn ?_;refine CW.sl [4,5,6,10] ?_;refine aO ?_;refine ah (bF cN Sk.q6 bE) ?_;refine ah aI ?_;refine ah (kF (vs:=[(1,.int .i64 vv)]) (axI vv)) ?_;refine bW rfl (cs:=aD ve (.slice (some ⟨b,0,none⟩) h.parts.length cap) vu v cY) rfl Sk.b1 Sk.one bE fun wl z4 oa=> ?_;have z5:=(oa.block (w.heap.size+2) (by omega)).trans Sk.b2;refine bW rfl (cs:=#[.int .i64 0,.int .i64 vv,.string ⟨#[]⟩,.int .i64 0,.int .i64 0]) rfl z5 (by intro u hu;simp at hu;rcases hu with rfl|rfl|rfl|rfl|rfl<;>rfl) cz fun wm y5 ob=> ?_;have y4:=(ob.block (w.heap.size+1) (by omega)).trans z4;obtain⟨hr,eP⟩:=Sk.out hG (by decide) (by decide) oa ob;have hd:uw h s=(qB g' (jm 4 s),rep 0 vv 0 0):=by unfold uw;rw[aw (by rw[P];decide),aw (by rw[hsh];decide), <-abH, <-hgg,tv,hvv];simp only[hid,xu,BI]
 refine WL.nil (aL (CW.ret (zu rfl rfl rfl y4 y5 cN gC rfl rfl bE cz ⟨_,rfl,?_,eP⟩)));rw[hd];exact⟨_,rfl,_,_,rfl,hr,_,_,rfl,Ai (by decide) (by rw[hvv];split<;>decide),rfl⟩
def ayf(h:Host)(s:ByteArray)(a:oz h):aH az 115 none [enc h,.str s] (.aU [enc (uw h s).1,enc (uw h s).2]) [] :=
 CO (by kernel_rfl) fun w M vs G b=>by obtain⟨v,_,rfl,c,e,_,rfl,⟨rfl,d⟩,rfl⟩:=b;exact aKQ G c d a
end
end Go.Proofs.YtoomhbopolalnabGreatDoor
