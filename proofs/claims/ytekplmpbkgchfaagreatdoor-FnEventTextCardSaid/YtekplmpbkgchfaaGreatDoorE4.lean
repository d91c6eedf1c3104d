/- Each operation does to a world what the executor says it does: append; and all operations together. No program in sight. -/
import Derived.Test.YtekplmpbkgchfaaGreatDoorE3
import Derived.Orders
set_option linter.all false
namespace Go.Proofs.YtekplmpbkgchfaaGreatDoor
section
open Go.RowKit
variable [GC]
section
variable {w:World}{M:Addr->Prop}
def iU.cells: ∀{rows:List (List D)} {b o:Nat},iU w M rows b o-> ∃vs:List Value,vs.length=rows.flatten.length/\Rs w M rows.flatten vs/\ ∀i u,vs[i]? =some u->w.cell? ⟨b,o+i,none⟩=some u
 | [],_,_,_=>⟨[],rfl,rfl,fun i u h=>by simp at h⟩
 | r::l,b,o,⟨h1,h2⟩=>by
  obtain ⟨vs,e1,r1,c1⟩:=h1.cells;obtain ⟨us,e2,r2,c2⟩:=iU.cells h2;refine ⟨vs++us,by simp [e1,e2],by simpa using r1.append r2,fun i u hu=> ?_⟩;rw [List.getElem?_append] at hu;split at hu
  ·exact c1 i u hu
  ·have:=c2 _ _ hu
   rwa [show o+r.length+(i-vs.length)=o+i by omega] at this
def Y6{n:Nat}: ∀{rows:List (List D)},(∀r∈rows,r.length=n)->rows.flatten.length=rows.length*n
 | [],_=>by simp
 | r::l,h=>by have ih:=Y6 (rows:=l) (fun x hx=>h x (by simp [hx]));have hr:=h r (by simp);simp only [Xp,jw,fw,ih,hr,jO,sW];omega
def aj6{tab:Nat->List CT}{ts:List CT}: ∀{rows:List (List D)} {vs:List Value},cN tab ts rows->Rs w M rows.flatten vs-> ∀v∈vs,v.oneCell'=true
 | [],vs,_,h,v,hv=>by simp [Rs] at h;subst h;simp at hv
 | r::l,vs,ht,h,v,hv=>by
  simp only [cN] at ht;simp only [Xp] at h;have h1:=h.take r.length;have h2:=h.drop r.length;rw [Xw rfl] at h1;rw [Xn rfl] at h2;rw [<-Ez r.length vs] at hv;rcases jx.1 hv with hv|hv
  ·exact Yj ht.1 h1 v hv
  ·exact aj6 ht.2 h2 v hv
def iU.append: ∀{rows r2:List (List D)} {b o:Nat},iU w M rows b o->iU w M r2 b (o+rows.flatten.length)->iU w M (rows++r2) b o
 | [],_,_,_,_,h=>by simpa using h
 | r::l,r2,b,o,⟨h1,h2⟩,h=>⟨h1,iU.append h2 (by simpa [zX] using h)⟩
def ag8(n:Nat): ∀(r c:Nat),Builtin.growBy n r c+768<=(c+768)*2^r
 | 0,c=>by simp [Builtin.growBy]
 | r+1,c=>by
  have hp:0<2^r:=Nat.two_pow_pos r;simp only [Builtin.growBy];split
  ·rw [Nat.pow_succ];have:(c+768)*1<=(c+768)*(2^r*2):=Nat.mul_le_mul_left _ (by omega)
   rwa [Nat.mul_one] at this
  ·refine dq (ag8 n r _) ?_;rw [Nat.pow_succ,show (c+768)*(2^r*2)=((c+768)*2)*2^r by rw [Nat.mul_assoc,Nat.mul_comm 2]];exact pX _ (by omega)
def axX(n c:Nat):Builtin.growBy n 4 c<=16*(c+768):=by
 have h:=ag8 n 4 c;have e2:(2:Nat)^4=16:=by decide
 have e:(c+768)*2^4=16*(c+768):=by rw [e2,Nat.mul_comm]
 rw [e] at h;exact dq (Nat.le_add_right _ _) h
def aCp{need cap:Nat}(h:cap<need)(h':need<=4294967296):Builtin.nextslicecap need cap<=16*(4294967296+768):=by
 unfold Builtin.nextslicecap;by_cases h1:need>2*cap
 ·rw [aA h1];omega
 ·rw [ak h1];by_cases h2:cap<256
  ·rw [aA h2];omega
  ·rw [ak h2];exact dq (axX need cap) (Nat.mul_le_mul_left _ (by omega))
end
section
variable {P:Program}{c:SC}{F:Nat->Prop}{σ:Nat->ST}{bm:Nat->Nat}{tm:Nat->Value}{a:Act}{w w':World}{tb:TB}{Γ:List VT}{gs:Gd}
def aS.append(hs:aS c F σ bm tm a w){g n:Nat}(hg: ¬F g)(oh:Option Nat)(I2: ∀h,oh=some h->σ (3*h+2)= .live ⟨n,none⟩)(v':Value)(blk:Option Nat)
  (hfr:Fr c.B c.X w w') (hk:bY w (MM c.M0 bm tm σ) w' (MM c.M0 bm (bF tm g v') (bF (kX σ oh) (3*g+2) (.live ⟨n,none⟩))))
  (oy: ∀k,k<w.heap.size->some k≠blk->w'.heap[k]? =w.heap[k]?)
  (hblk: ∀b,blk=some b-> ∃h o s len cap,oh=some h/\tm h= .slice (some ⟨b,o,s⟩) len cap/\0<cap)
  (rP:tX c w' (bF tm g v') g ⟨n,none⟩) (hv': ∀b o s len cap,v'= .slice (some ⟨b,o,s⟩) len cap->0<cap->w.heap.size<=b\/blk=some b) :
  aS c (fun x=>F x\/x=g) (bF (kX σ oh) (3*g+2) (.live ⟨n,none⟩)) bm (bF tm g v') a w':=by
 have nI: ∀x,F x->bF tm g v' x=tm x:=fun x hx=>iS _ _ (fun e=>hg (e▸hx));have wE: ∀x m,σ (3*x+2)= .live m->bF tm g v' x=tm x/\ ∀y,cP (.live m) y->bF tm g v' y=tm y:=fun x m h=>⟨nI x (hs.f3 x m h),fun y hy=>nI y (hs.f1 (3*x+2) y (by rw [h];exact hy))⟩;have yV: ∀id cs,σ (3*id+1)= .box cs->some (bm id)≠blk:=fun id cs hc e=>by obtain ⟨h,o,s,len,cap,h1,h2,h3⟩:=hblk _ e.symm;exact hs.pg id cs h ⟨n,none⟩ _ hc (I2 h h1) (.inl ⟨o,s,len,cap,h2,h3⟩) rfl
 have MH: ∀x m b,σ (3*x+2)= .live m->oh≠some x->mz tm x m b->some b≠blk:=fun x m b hx hne hb e=>by obtain ⟨h,o',s',len',cap',h1,h2,h3⟩:=hblk _ e.symm;exact hs.rI x m h ⟨n,none⟩ b b hx (I2 h h1) (fun e=>hne (e▸h1)) hb (.inl ⟨o',s',len',cap',h2,h3⟩) rfl
 have Z4: ∀b,mz (bF tm g v') g ⟨n,none⟩ b->w.heap.size<=b\/blk=some b:=fun b hb=>by obtain ⟨o,s,len,cap,h1,h2⟩:=xd hb;rw [eF] at h1;exact hv' b o s len cap h1 h2
 refine hs.turn (fun t=>by rw [ab1,axg]) (fun x hx=>⟨rfl,nI x hx⟩) (fun _ h=> .inl h) hfr hk ?_ ?_ ?_ ?_ ?_ ?_ ?_ ?_
 ·intro id cs h;rw [Gs,Im] at h;refine (hs.box id cs h).keep hk rfl (oy _ (hs.box id cs h).lt (yV id cs h)) fun x hx=>nI x ?_;exact hs.f1 (3*id+1) x (by rw [h];exact hx)
 ·intro x m h;by_cases e:x=g
  ·subst e;rw [eF] at h;simp at h;subst h;exact rP
  ·rw [zD _ e] at h;obtain ⟨h1,h2⟩:=yN h;exact (hs.live x m h1).keep (fun b hb=>oy _ ((hs.live x m h1).lt hb) (MH x m b h1 h2 hb)) (wE x m h1).1 (wE x m h1).2
 ·intro id id' cs cs' h h';rw [Gs,Im] at h h';exact hs.rH id id' cs cs' h h'
 ·intro id cs x m b h hx hb;rw [Gs,Im] at h;by_cases e:x=g
  ·subst e;rw [eF] at hx;simp at hx;subst hx;rcases Z4 b hb with h1|h1
   ·have:=(hs.box id cs h).lt;omega
   ·exact fun e=>yV id cs h (by rw [e,h1])
  ·rw [zD _ e] at hx;obtain ⟨h1,h2⟩:=yN hx;exact hs.pg id cs x m b h h1 ((yp (wE x m h1).1 (wE x m h1).2).1 hb)
 ·intro x m y m' b b' hx hy hne hb hb';by_cases e:x=g<;>by_cases e':y=g
  ·exact absurd (e.trans e'.symm) hne
  ·subst e;rw [eF] at hx;simp at hx;subst hx;rw [zD _ e'] at hy;obtain ⟨h1,h2⟩:=yN hy;have hb':=(yp (wE y m' h1).1 (wE y m' h1).2).1 hb';rcases Z4 b hb with h3|h3
   ·have:=(hs.live y m' h1).lt hb';omega
   ·exact fun q=>MH y m' b' h1 h2 hb' (by rw [<-q,h3])
  ·subst e';rw [eF] at hy;simp at hy;subst hy;rw [zD _ e] at hx;obtain ⟨h1,h2⟩:=yN hx;have hb:=(yp (wE x m h1).1 (wE x m h1).2).1 hb;rcases Z4 b' hb' with h3|h3
   ·have:=(hs.live x m h1).lt hb;omega
   ·exact fun q=>MH x m b h1 h2 hb (by rw [q,h3])
  ·rw [zD _ e] at hx;rw [zD _ e'] at hy;obtain ⟨h1,h2⟩:=yN hx;obtain ⟨h3,h4⟩:=yN hy;exact hs.rI x m y m' b b' h1 h3 hne ((yp (wE x m h1).1 (wE x m h1).2).1 hb) ((yp (wE y m' h3).1 (wE y m' h3).2).1 hb')
 ·intro l x h;by_cases e:l=3*g+2
  ·subst e;rw [eF] at h;obtain ⟨_,_,h⟩:=h;cases h
  ·rw [iS _ _ e] at h;exact .inl (hs.f1 l x (axf h))
 ·intro id cs h;rw [Gs,Im] at h;exact .inl (hs.f2 id cs h)
 ·intro x m h;by_cases e:x=g
  ·exact .inr e
  ·rw [zD _ e] at h;exact .inl (hs.f3 x m (yN h).1)
def zS{oh:Option Nat}{p:Addr}{g n:Nat}{v':Value}(hs:aS c F σ bm tm a w)(hg: ¬F g)(h:MM c.M0 bm (bF tm g v') (bF (kX σ oh) (3*g+2) (.live ⟨n,none⟩)) p) :
  (MM c.M0 bm tm (kX σ oh) p)\/Gm v' n p:=by
 rcases h with h|⟨id,cs,h1,h2⟩|⟨x,m,h1,h2⟩
 ·exact .inl (.inl h)
 ·rw [Gs] at h1;exact .inl (.inr (.inl ⟨id,cs,h1,h2⟩))
 ·by_cases e:x=g
  ·subst e;rw [eF] at h1;simp at h1;subst h1;have:=Jo h2;rw [eF] at this;exact .inr this
  ·rw [zD _ e] at h1;obtain ⟨h3,_⟩:=yN h1;refine .inl (.inr (.inr ⟨x,m,h1,aki (iS _ _ e) (fun y hy=>iS _ _ fun e'=> ?_) h2⟩));subst e';exact hg (hs.f1 (3*x+2) _ (by rw [h3];exact hy))
def BW{oh:Option Nat}{p:Addr}(h:MM c.M0 bm tm (kX σ oh) p):MM c.M0 bm tm σ p:=by
 rcases h with h|⟨id,cs,h1,h2⟩|⟨x,m,h1,h2⟩
 ·exact .inl h
 ·rw [Im] at h1;exact .inr (.inl ⟨id,cs,h1,h2⟩)
 ·exact .inr (.inr ⟨x,m,(yN h1).1,h2⟩)
def abF: ∀(l:List Value) (C:Array Value) (o i:Nat),i<o\/o+l.length<=i->(iQ C o l)[i]? =C[i]?
 | [],_,_,_,_=>rfl
 | x::r,C,o,i,h=>by simp only [fw] at h;unfold iQ;rw [abF r _ _ _ (by omega)];simp [Et];omega
def alF: ∀(l:List Value) (C:Array Value) (o j:Nat) (u:Value),o+l.length<=C.size->l[j]? =some u->(iQ C o l)[o+j]? =some u
 | [],_,_,_,_,_,h=>by simp at h
 | v::r,C,o,0,u,hs,h=>by simp only [fw] at hs;simp at h;subst h;unfold iQ;rw [abF r _ _ _ (by omega)];simp [Et];omega
 | v::r,C,o,j+1,u,hs,h=>by
  simp only [fw] at hs;simp at h;unfold iQ;have:=alF r (C.setIfInBounds o v) (o+1) j u (by simp;omega) h
  rwa [show o+(j+1)=o+1+j by omega]
def Xe(w:World)(M:Addr->Prop)(rows:List (List D))(ad:Option Addr)(len cap:Nat):Prop :=
 len=rows.length/\len<=cap/\cap<=maxLen/\(ad=none->cap=0)/\ ∀b o s,ad=some ⟨b,o,s⟩->(0<len->s=none)/\iU w M rows b o
def agP{M:Addr->Prop}{rows:List (List D)}{ad:Option Addr}{len cap n:Nat}(h:Xe w M rows ad len cap)(hn: ∀r∈rows,r.length=n) :
  ∃vs:List Value,vs.length=len*n/\Rs w M rows.flatten vs/\ ∀w1:World,w1.heap=w.heap->(Builtin.firstCells n len (.slice ad len cap)).run P w1= .ok vs.toArray w1:=by
 obtain ⟨h1,h2,h3,h4,h5⟩:=h;rcases ad with _|⟨b,o,s⟩
 ·have:rows=[]:=oR (by have:=h4 rfl;omega);subst this;exact ⟨[],by simp at h1;simp [h1],rfl,fun w1 _=>by simp [Builtin.firstCells]⟩
 ·obtain ⟨vs,e,hr,hc⟩:=(h5 b o s rfl).2.cells;have hlen:vs.length=len*n:=by rw [e,Y6 hn,h1]
  refine ⟨vs,hlen,hr,fun w1 hw1=> ?_⟩;by_cases h0:len=0
  ·subst h0;have:vs=[]:=oR (by simpa using hlen);subst this;simp [Builtin.firstCells,loadCells,loadCellsFrom]
  ·have rT:=(h5 b o s rfl).1 (by omega);subst rT;have:=KU (P:=P) (w:=w1) ⟨b,o,none⟩ vs (fun j u hu=>by rw [addr_add,ER (w:=w) (by rw [hw1])];exact hc j u hu)
   rw [hlen] at this;simpa [Builtin.firstCells] using this
def aD6(aJ:dz P tb tb=true)(hs:aS c F σ bm tm a w)(aB:cq tb.tab Γ c.env){g n:Nat}(lQ: ¬F g){o:Oper}{x y:Operand}{T U:Nat}{cl:Call}(ho:o.op= .call cl)(hcl:cl.callee= .builtin .append)(har:cl.args.toList=[x,y])(hat:cl.argTypes.toList=[T,U])
  (hd: ∀d,o.dst=some d->d<c.nt) {ti ui:TI} (aO:tb.get T=some ti) (MU:tb.get U=some ui) {aZ:bf}
  (h:Iq tb Γ gs o.dst σ g ti ui (aY tb σ T x) (aY tb σ U y)=some aZ):sR P c F σ bm tm a w g gs n o aZ:=by
 have har':cl.args= #[x,y]:=by rw [<-kJ,har]
 have hat':cl.argTypes= #[T,U]:=by rw [<-kJ,hat]
 unfold Iq at h;split at h
 ·rename_i el YT hv hv';split at h
  ·rename_i k ex ky ey ei hx hy jG;split at h
   ·rename_i hc;obtain ⟨ayB,ayC,hby,aIV,aaf⟩:=hc;split at h
    ·simp at h
    ·rename_i v1 hv1;obtain ⟨j,hj,hjs,hjb⟩:=ye aJ jG hv1;have ahP:ei.cells=v1.cells:=by simp [TI.cells,hv1]
     have htab:tb.tab el=v1.cells:=by simp [TB.tab,jG,ahP]
     rw [ahP] at h aaf;obtain ⟨z0,hz0,hz1⟩: ∃z,j.zero=some z/\z.cells.size=v1.cells.length:=by
      cases v1 with
      | c t => obtain ⟨i',d',hi',_,_,⟨z,hz,hzv⟩,_⟩:=jl aJ jG hv1;rw [hj] at hi';simp at hi';subst hi';refine ⟨z,hz,?_⟩;cases t<;>cases z<;>simp [zeroV] at hzv<;>rfl
      | agg ts => obtain ⟨i',f',cs',hi',_,_,hz,hzv,_⟩:=tP aJ jG hv1;rw [hj] at hi';simp at hi';subst hi';refine ⟨_,hz,?_⟩;have:=(WH (w:=w) (M:=fun _=>False) (tm:=tm) (c:=c) hzv).1.length;simpa [Value.cells,V1.cells] using this
     obtain ⟨_,d1,_,_,_,_,hd1,eO⟩:=jl aJ aO hv;simp only [ju] at eO;subst eO;obtain ⟨_,d2,_,_,_,_,nF,CJ⟩:=jl aJ MU hv';simp only [ju] at CJ;subst CJ;have MV:=(dU hs hx).1 (dZ _);have azY:=(dU hs hy).1 (dZ _);obtain ⟨rows,hrows,fK,ad,len,cap,hval,hF⟩:=Ff aB (wH ayB) MV;obtain ⟨Gg,aiv,aiw,ady,jr,awq,I4,hFy⟩:=Ff aB (wH ayC) azY;have aya:Xe w (MM c.M0 bm tm σ) rows ad len cap:=hF;have ayb:Xe w (MM c.M0 bm tm σ) Gg ady jr awq:=hFy;have tE: ∀r∈rows,r.length=v1.cells.length:=fun r hr=>by rw [fK.len r hr,htab]
     have hny: ∀r∈Gg,r.length=v1.cells.length:=fun r hr=>by rw [aiw.len r hr,htab]
     obtain ⟨vx,az0,az1,az2⟩:=agP (P:=P) aya tE;obtain ⟨vy,SX,aak,I6⟩:=agP (P:=P) ayb hny;have hone:=aj6 aiw aak;have iA:(E.app ex ey).den c.env= .sl (rows++Gg):=by simp [E.den,hrows,aiv]
     have ayK:(rows++Gg).flatten=rows.flatten++Gg.flatten:=by simp
     obtain ⟨hl1,lC,IX,MG,Sw⟩:=hF;obtain ⟨mM,hm2,IZ,hm4,hm5⟩:=hFy;generalize hsz:v1.cells.length=sz at *;have aac:len+jr<=cap->(jr=0\/ ∃b o' cells T0,ad=some ⟨b,o',none⟩/\w.heap[b]? =some (.cells cells T0 (0,0))/\o'+len*sz+jr*sz<=cells.size) ->
       ∃w',(execOp a.eval o).run P w= .ok (.value (.slice ad (len+jr) cap)) w'/\((jr=0/\w'=w)\/ ∃b o' cells T0,ad=some ⟨b,o',none⟩/\w.heap[b]? =some (.cells cells T0 (0,0))/\w'.heap[b]? =some (.cells (iQ cells (o'+len*sz) vy) T0 (0,0))/\bN w w' b/\o'+len*sz+jr*sz<=cells.size):=by
      intro hle hroom;rcases hroom with h0|⟨b,o',cells,T0,rfl,hblk,vL⟩
      ·subst h0;have aaj:vy=[]:=oR (by simpa using SX);subst aaj;refine ⟨w,?_,.inl ⟨rfl,rfl⟩⟩;rcases ad with _|ad
       ·simp [execOp,ho,resolve,hcl,invoke,builtin,Builtin.append_,har',hat',hval,I4,run_underlying hd1,run_underlying nF,run_sizeOf hj,hjs,Builtin.lenOf,lC,I6 w rfl,show len<=cap from lC]
       ·simp [execOp,ho,resolve,hcl,invoke,builtin,Builtin.append_,har',hat',hval,I4,run_underlying hd1,run_underlying nF,run_sizeOf hj,hjs,Builtin.lenOf,lC,I6 w rfl,show len<=cap from lC,storeCells]
      ·obtain ⟨w',h1,h2,h3⟩:=Jy (P:=P) b T0 vy w cells (o'+len*sz) 0 hblk hone (by rw [SX];omega);refine ⟨w',?_,.inr ⟨b,o',cells,T0,rfl,hblk,by simpa using h2,h3,vL⟩⟩;simp [execOp,ho,resolve,hcl,invoke,builtin,Builtin.append_,har',hat',hval,I4,run_underlying hd1,run_underlying nF,run_sizeOf hj,hjs,Builtin.lenOf,hle,I6 w rfl,addr_add,h1]
     have SK:cap<len+jr->len+jr<=4294967296-> ∃(cells:Array Value) (nc:Nat),(execOp a.eval o).run P w= .ok (.value (.slice (some ⟨w.heap.size,0,none⟩) (len+jr) nc)) (w.drew.alloc (.cells cells el))/\len+jr<=nc/\nc<=maxLen/\cells.size=nc*sz/\ ∀(i:Nat) (u:Value),(vx++vy)[i]? =some u->cells[i]? =some u:=by
      intro hgt xG;have hq: ¬(Builtin.nextslicecap (len+jr) cap*j.bytes>2^48):=by have h1:=aCp hgt xG;have h2:Builtin.nextslicecap (len+jr) cap*j.bytes<=(16*(4294967296+768))*1024:=Xz h1 (by omega);omega
      have ayw: ¬(j.bytes=0):=by omega
      have hnl: ¬(len+jr<=cap):=by omega
      refine ⟨vx.toArray++vy.toArray++Builtin.zeroCells z0.cells ((len+jr+w.tape w.drawn (.appendCap (len+jr) cap el)%(2^63-(len+jr)))-(len+jr)),len+jr+w.tape w.drawn (.appendCap (len+jr) cap el)%(2^63-(len+jr)),?_,by omega,?_,?_,?_⟩
      ·have aI1:(w.drew).heap.size=w.heap.size:=rfl;simp [execOp,ho,resolve,hcl,invoke,builtin,Builtin.append_,har',hat',hval,I4,run_underlying hd1,run_underlying nF,run_sizeOf hj,run_typeInfo hj,hjs,Builtin.lenOf,hnl,ayw,Nat.not_lt.2 (Nat.not_lt.1 hq),Question.forced,Question.cut,zeroValue,hz0,newRow,az2 w.drew rfl,I6 w.drew rfl];rw [<-List.append_toArray,Array.append_assoc]
      ·have:=Nat.mod_lt (w.tape w.drawn (.appendCap (len+jr) cap el)) (show 0<2^63-(len+jr) by omega);unfold maxLen;omega
      ·simp [Builtin.zeroCells,az0,SX,hz1];rw [<-jO, <-jO]
      ·intro i u hu;have hi:i<(vx++vy).length:=(dQ.1 hu).1;rw [Xh (by simpa using hi)];rw [List.append_toArray];simpa using hu
     have main: ∀oh:Option Nat,(∀h,oh=some h->σ (3*h+2)= .live ⟨sz,none⟩/\tm h= .slice ad len cap)->(oh=none->cap=0)->len+jr<=4294967296-> ∀(K:Act->World->Prop) (Q:Exit->Act->World->Prop),
       (∀dD tm' a' w',aS c (fun x=>F x\/lW g x) (dS (bF (kX σ oh) (3*g+2) (.live ⟨sz,none⟩)) (wv o.dst (.v [] (.own g) (.app ex ey)))) dD tm' a' w'->K a' w')->o.wp P a w K Q:=by
      intro oh I2 ain xG K Q hK;have azp: ∀h,oh=some h->σ (3*h+2)= .live ⟨sz,none⟩:=fun h e=>(I2 h e).1;have fin: ∀(v':Value) (w':World) (blk:Option Nat),(execOp a.eval o).run P w= .ok (.value v') w'->Fr c.B c.X w w' ->
        bY w (MM c.M0 bm tm σ) w' (MM c.M0 bm (bF tm g v') (bF (kX σ oh) (3*g+2) (.live ⟨sz,none⟩))) ->
        (∀k,k<w.heap.size->some k≠blk->w'.heap[k]? =w.heap[k]?) ->
        (∀b,blk=some b-> ∃h o s len cap,oh=some h/\tm h= .slice (some ⟨b,o,s⟩) len cap/\0<cap) ->
        tX c w' (bF tm g v') g ⟨sz,none⟩->(∀b o s len cap,v'= .slice (some ⟨b,o,s⟩) len cap->0<cap->w.heap.size<=b\/blk=some b) ->
        R w' (MM c.M0 bm (bF tm g v') (bF (kX σ oh) (3*g+2) (.live ⟨sz,none⟩))) (.sl (rows++Gg)) v'->o.wp P a w K Q:=by
       intro v' w' blk hrun hfr hk oy hblk rP azU hR;unfold Oper.wp;rw [hrun];refine hK _ _ _ _ (Kq ((hs.append lQ oh azp v' blk hfr hk oy hblk rP azU).qW hd (fU (dZ _) ⟨?_,?_⟩) fun x hx=> ?_))
       ·rw [iA];exact hR
       ·rw [eF]
       ·exact .inr hx
      by_cases hle:len+jr<=cap
      ·
       by_cases h0:jr=0
       ·subst h0;obtain ⟨w',hrun,hcase⟩:=aac hle (.inl rfl);have hw:w'=w:=by
         rcases hcase with ⟨_,h⟩|⟨b,o',cells,T0,h1,h2,h3,h4,h5⟩
         ·exact h
         ·have aaj:vy=[]:=oR (by simpa using SX);subst aaj;obtain ⟨w2,azI,hc2⟩:=aac hle (.inl rfl);have e1:=hrun.symm.trans azI;simp only [Result.ok.injEq,sX] at e1;have:(execOp a.eval o).run P w= .ok (.value (.slice ad (len+0) cap)) w:=by
           rcases ad with _|ad
           ·simp [execOp,ho,resolve,hcl,invoke,builtin,Builtin.append_,har',hat',hval,I4,run_underlying hd1,run_underlying nF,run_sizeOf hj,hjs,Builtin.lenOf,lC,I6 w rfl]
           ·simp [execOp,ho,resolve,hcl,invoke,builtin,Builtin.append_,har',hat',hval,I4,run_underlying hd1,run_underlying nF,run_sizeOf hj,hjs,Builtin.lenOf,lC,I6 w rfl,storeCells]
          have e2:=hrun.symm.trans this;simp only [Result.ok.injEq,sX] at e2;exact e2
        subst hw;have FG:Gg=[]:=oR (by omega);subst FG;simp only [EA] at hrun;by_cases hlc:0<cap
        ·obtain ⟨h',rfl⟩: ∃h',oh=some h':=by
          cases oh with
          | none=>have:=ain rfl;omega
          | some h'=>exact ⟨h',rfl⟩
         obtain ⟨hl',ht'⟩:=I2 h' rfl;rcases ad with _|⟨b,o',s⟩
         ·have:=MG rfl;omega
         refine fin _ _ (some b) hrun (Fr.refl _ _ _) (fun p v hp hn=>⟨hp,fun hm=> ?_⟩) (fun _ _ _=>rfl) (fun b' hb'=>⟨h',o',s,len,cap,rfl,by simp at hb';subst hb';exact ht',hlc⟩) ?_ (fun b' o2 s2 l2 c2 he _=> .inr (by simp at he;rw [he.1.1])) ?_
         ·rcases zS hs lQ hm with h|h
          ·exact hn (BW h)
          ·exact hn (.inr (.inr ⟨h',⟨sz,none⟩,hl',Dc (by rw [ht'];exact h)⟩))
         ·refine ⟨fun b' o2 s2 l2 c2 he hlt=> ?_,(fun e dp he=>by cases he),(fun e gv ms he=>by cases he)⟩;rw [eF] at he;exact (hs.live h' ⟨sz,none⟩ hl').sp b' o2 s2 l2 c2 (by rw [ht',he]) hlt
         ·rw [oQ, <-hrows, <-hval];refine R.keep (fun p v hp hn=>⟨hp,fun hm=> ?_⟩) _ _ MV.rd;rw [hval] at hm;rcases zS hs lQ hm with h|h
          ·exact hn (BW h)
          ·exact hn (.inr (.inr ⟨h',⟨sz,none⟩,hl',Dc (by rw [ht'];exact h)⟩))
        ·have Z2: ∀p,¬Gm (.slice ad len cap) sz p:=by
          rintro p ⟨b,o',s,l2,c2,he,_,h1,h2⟩;simp only [gF] at he;obtain ⟨_,rfl,rfl⟩:=he;have e1:cap=0:=by omega
          rw [e1] at h2;omega
         have hkk:bY w' (MM c.M0 bm tm σ) w' (MM c.M0 bm (bF tm g (.slice ad len cap)) (bF (kX σ oh) (3*g+2) (.live ⟨sz,none⟩))):=fun p v hp hn=>⟨hp,fun hm=>by
          rcases zS hs lQ hm with h|h
          ·exact hn (BW h)
          ·exact Z2 p h⟩
         refine fin _ _ none hrun (Fr.refl _ _ _) hkk (fun _ _ _=>rfl) (fun b' hb'=>by cases hb') ?_ (fun b' o2 s2 l2 c2 he hlt=>by simp only [gF] at he;omega) ?_
         ·refine ⟨fun b' o2 s2 l2 c2 he hlt=> ?_,(fun e dp he=>by cases he),(fun e gv ms he=>by cases he)⟩;rw [eF] at he;simp only [gF] at he;omega
         ·rw [oQ, <-hrows];have:=R.keep hkk _ _ MV.rd
          rwa [hval] at this
       ·
        have hlc:0<cap:=by omega
        obtain ⟨h',rfl⟩: ∃h',oh=some h':=by
         cases oh with
         | none=>have:=ain rfl;omega
         | some h'=>exact ⟨h',rfl⟩
        obtain ⟨hl',ht'⟩:=I2 h' rfl;rcases ad with _|⟨b,o',s⟩
        ·have:=MG rfl;omega
        obtain ⟨rT,hBb,cells,T0,hblk,hroom⟩:=(hs.live h' ⟨sz,none⟩ hl').sp b o' s len cap ht' hlc;subst rT;replace hroom:o'+cap*sz<=cells.size:=hroom;have hmul:len*sz+jr*sz<=cap*sz:=by rw [<-jO];exact pX _ hle
        obtain ⟨w',hrun,hcase⟩:=aac hle (.inr ⟨b,o',cells,T0,rfl,hblk,by omega⟩);rcases hcase with ⟨h,_⟩|⟨b1,o1,aIK,T1,h1,h2,h3,h4,h5⟩
        ·exact absurd h h0
        simp only [bg,mC,vR] at h1;obtain ⟨rfl,rfl⟩:=h1;rw [hblk] at h2;simp only [bg,Obj.cells.injEq] at h2;obtain ⟨rfl,rfl,_⟩:=h2;have hspare: ∀i,len*sz<=i->i<cap*sz->MM c.M0 bm tm σ ⟨b,o'+i,none⟩:=fun i hi1 hi2 =>
         .inr (.inr ⟨h',⟨sz,none⟩,hl',Dc ⟨b,o',none,len,cap,ht',rfl,by show o'+len*sz<=o'+i;omega,by show o'+i<o'+cap*sz;omega⟩⟩)
        have R5: ∀i,w'.cell? ⟨b,i,none⟩=(iQ cells (o'+len*sz) vy)[i]? :=fun i=>z7 w' b i _ _ _ h3;have ayz: ∀i,w.cell? ⟨b,i,none⟩=cells[i]? :=fun i=>z7 w b i _ _ _ hblk;have Fm: ∀p,p.block=b-> ¬MM c.M0 bm tm (kX σ (some h')) p:=by
         rintro p jH (h|⟨id,cs,q1,q2⟩|⟨x,m,q1,q2⟩)
         ·have:=hs.m0.1 p h;omega
         ·rw [Im] at q1;exact hs.pg id cs h' ⟨sz,none⟩ b q1 hl' (.inl ⟨o',none,len,cap,ht',hlc⟩) (by rw [<-q2,jH])
         ·obtain ⟨q6,q7⟩:=yN q1;exact hs.rI x m h' ⟨sz,none⟩ p.block b q6 hl' (fun e=>q7 (by rw [e])) (akj q2) (.inl ⟨o',none,len,cap,ht',hlc⟩) jH
        have hkk:bY w (MM c.M0 bm tm σ) w' (MM c.M0 bm (bF tm g (.slice (some ⟨b,o',none⟩) (len+jr) cap)) (bF (kX σ (some h')) (3*g+2) (.live ⟨sz,none⟩))):=by
         intro p v hp hn;constructor
         ·by_cases jH:p.block=b
          ·have hsp:=World.cell?_spot hp;obtain ⟨pb,po,ps⟩:=p;simp only at jH hsp;subst jH hsp;rw [R5,abF]
           ·rw [<-ayz];exact hp
           ·rcases dY po (o'+len*sz) with h|h
            ·exact .inl h
            ·refine .inr ?_;rcases dY po (o'+len*sz+vy.length) with h6|h6
             ·refine absurd (hspare (po-o') (by omega) (by omega)) ?_
              rwa [show o'+(po-o')=po by omega]
             ·exact h6
          ·rw [<-hp];exact ER (h4.block _ jH)
         ·intro hm;rcases zS hs lQ hm with h|⟨b2,o2,s2,l2,c2,q1,q2,q3,q4⟩
          ·exact hn (BW h)
          ·simp only [gF,bg,mC] at q1;obtain ⟨⟨rfl,rfl,rfl⟩,rfl,rfl⟩:=q1;rw [jO] at q3;exact hn (.inr (.inr ⟨h',⟨sz,none⟩,hl',Dc ⟨b,o',none,len,cap,ht',q2,(by show o'+len*sz<=_;omega),q4⟩⟩))
        refine fin _ _ (some b) hrun (WN h4 (.inl hBb)) hkk (fun k _ hk=>h4.block k (fun e=>hk (by rw [e]))) (fun b' hb'=>⟨h',o',none,len,cap,rfl,by simp at hb';subst hb';exact ht',hlc⟩) ?_ (fun b' o2 s2 l2 c2 he _=> .inr (by simp at he;rw [he.1.1])) ?_
        ·refine ⟨fun b' o2 s2 l2 c2 he hlt=> ?_,(fun e dp he=>by cases he),(fun e gv ms he=>by cases he)⟩;rw [eF] at he;simp only [gF,bg,mC] at he;obtain ⟨⟨rfl,rfl,rfl⟩,rfl,rfl⟩:=he;exact ⟨rfl,hBb,_,T0,h3,by rw [Jz];exact hroom⟩
        ·refine ⟨_,_,_,rfl,by simp;omega,hle,IX,(fun h=>by cases h),fun b2 o2 s2 he=> ?_⟩;simp only [bg,mC] at he;obtain ⟨rfl,rfl,rfl⟩:=he;refine ⟨fun _=>rfl,iU.append (iU.keep hkk _ _ _ (Sw b o' none rfl).2) ?_⟩;rw [Y6 tE, <-hl1];refine PD aak hkk fun i u hu=> ?_;have hi:i<vy.length:=(dQ.1 hu).1;refine ⟨by rw [R5];exact alF vy cells _ i u (by omega) hu,fun hm=> ?_⟩;rcases zS hs lQ hm with h|⟨b2,o2,s2,l2,c2,q1,q2,q3,q4⟩
         ·exact Fm _ rfl h
         ·simp only [gF,bg,mC] at q1;obtain ⟨⟨rfl,rfl,rfl⟩,rfl,rfl⟩:=q1;simp only at q3;rw [jO] at q3;omega
      ·
       obtain ⟨cells,nc,hrun,hn1,hn2,Sz,hn4⟩:=SK (by omega) xG;have hb:Below w.heap.size w (w.drew.alloc (.cells cells el)):=((dP _ _).drew).alloc (bU _) _;have R5: ∀i,(w.drew.alloc (.cells cells el)).cell? ⟨w.heap.size,i,none⟩=cells[i]? :=fun i=>by have:=World.cell?_alloc_new (w:=w.drew) cells el i;exact this
       have hkk:bY w (MM c.M0 bm tm σ) (w.drew.alloc (.cells cells el)) (MM c.M0 bm (bF tm g (.slice (some ⟨w.heap.size,0,none⟩) (len+jr) nc)) (bF (kX σ oh) (3*g+2) (.live ⟨sz,none⟩))):=by
        refine bY.below hb fun p hp hm=> ?_;rcases zS hs lQ hm with h|⟨b2,o2,s2,l2,c2,q1,q2,q3,q4⟩
        ·exact BW h
        ·simp only [gF,bg,mC] at q1;omega
       refine fin _ _ none hrun (yq hb hs.hB) hkk (fun k hk _=>hb.block k hk) (fun b' hb'=>by cases hb') ?_ (fun b' o2 s2 l2 c2 he _=> .inl (by simp at he;omega)) ?_
       ·refine ⟨fun b' o2 s2 l2 c2 he hlt=> ?_,(fun e dp he=>by cases he),(fun e gv ms he=>by cases he)⟩;rw [eF] at he;simp only [gF,bg,mC] at he;obtain ⟨⟨rfl,rfl,rfl⟩,rfl,rfl⟩:=he;exact ⟨rfl,hs.hB,cells,el,xn w.drew _,by show 0+nc*sz<=_;rw [Sz];omega⟩
       ·refine ⟨_,_,_,rfl,by simp;omega,hn1,hn2,(fun h=>by cases h),fun b2 o2 s2 he=> ?_⟩;simp only [bg,mC] at he;obtain ⟨rfl,rfl,rfl⟩:=he;refine ⟨fun _=>rfl,PD (by rw [ayK];exact az1.append aak) hkk fun i u hu=> ?_⟩;have hi:i<(vx++vy).length:=(dQ.1 hu).1;rw [qE];refine ⟨by rw [R5];exact hn4 i u hu,fun hm=> ?_⟩;rcases zS hs lQ hm with h|⟨b2,o2,s2,l2,c2,q1,q2,q3,q4⟩
        ·have:=hs.WW _ (BW h);simp at this
        ·simp only [gF,bg,mC] at q1;obtain ⟨⟨rfl,rfl,rfl⟩,rfl,rfl⟩:=q1;simp only [qE,jO] at q3;simp only [jw] at hi;omega
     have ah1:(∀r∈aZ.rq,kS P c.env n r)->(Rq.cond [] (.few ex ey))∈aZ.rq->len+jr<=4294967296:=fun hr hin=>by have:=hr _ hin (dZ _);simp [E.den,hrows,aiv] at this;omega
     cases k with
     | d=>simp at h
     | full =>
      simp only [bg] at h;subst h;refine ⟨fun _ hr K Q hK=>main none (by simp) (fun _=> ?_) (ah1 hr (by simp)) K Q fun dD tm' a' w' hS=>hK dD tm' a' w' ?_,fun hn=>absurd (dZ _) hn⟩
      ·obtain ⟨_,a2,he⟩:=MV;rw [hval] at he;simp only [gF] at he;omega
      ·rw [JJ (by intro p hp d;simp at hp;subst hp;simp;omega)];exact hS
     | ag _=>simp at h
     | own h' =>
      simp only at h;split at h
      ·rename_i m hm;split at h
       ·rename_i azj;subst azj;simp only [bg] at h;subst h;refine ⟨fun _ hr K Q hK=>main (some h') (fun q hq=> ?_) (by simp) (ah1 hr (by simp)) K Q fun dD tm' a' w' hS=>hK dD tm' a' w' ?_,fun hn=>absurd (dZ _) hn⟩
        ·simp only [bg] at hq;subst hq;exact ⟨hm,by rw [<-hval];exact MV.2.symm⟩
        ·rw [JJ (by intro p hp d;simp at hp;rcases hp with rfl|rfl<;>simp<;>omega)];exact hS
       ·simp at h
      ·simp at h
   ·simp at h
  ·simp at h
 ·simp at h
def aEb(aJ:dz P tb tb=true)(hs:aS c F σ bm tm a w)(aB:cq tb.tab Γ c.env){g n:Nat}(lQ: ¬F g){o:Oper}{T len:Nat}{parts:Array (Nat×Operand)}(ho:o.op= .buildSlice T len parts)(hd: ∀d,o.dst=some d->d<c.nt){ti:TI}(aO:tb.get T=some ti){aZ:bf}
  (h:Rn tb Γ gs o.dst σ g ti len parts.toList=some aZ):sR P c F σ bm tm a w g gs n o aZ:=by
 unfold Rn at h;split at h
 ·rename_i el hv;split at h
  ·rename_i hcnd;obtain ⟨hlen,hok⟩:=hcnd;simp only [lJ] at h;obtain ⟨e,he,rfl⟩:=h;refine ⟨fun _ _ K Q hK=> ?_,fun hn=>absurd (dZ _) hn⟩;obtain ⟨w',cells,h1,h2,h3,h3',h4⟩:=ala aJ hs aB ho aO hv hlen hok he (dZ _);have Fm: ∀p,MM c.M0 bm (bF tm g (.slice (some ⟨w.heap.size,0,none⟩) len len)) (bF (kX σ none) (3*g+2) (.live ⟨(tb.tab el).length,none⟩)) p->MM c.M0 bm tm σ p:=fun p hp=>by
    rcases zS hs lQ hp with h|⟨b2,o2,s2,l2,c2,q1,q2,q3,q4⟩
    ·exact BW h
    ·simp only [gF] at q1;obtain ⟨_,rfl,rfl⟩:=q1;omega
   unfold Oper.wp;rw [h1];refine hK bm (bF tm g (.slice (some ⟨w.heap.size,0,none⟩) len len)) _ _ ?_;rw [JJ (by intro p hp d;simp at hp;subst hp;simp;omega)];refine Kq ((hs.append lQ none (by simp) _ none (yq h2 hs.hB) (bY.below h2 fun p _ h=>Fm p h) (fun k hk _=>h2.block k hk) (fun b hb=>by cases hb) ?_ (fun b' o2 s2 l2 c2 he _=> .inl (by simp at he;omega))).qW hd (fU (dZ _) ⟨h4 _ Fm,?_⟩) fun x hx=> ?_)
   ·refine ⟨fun b' o2 s2 l2 c2 he hlt=> ?_,(fun e dp he=>by cases he),(fun e gv ms he=>by cases he)⟩;rw [eF] at he;simp only [gF,bg,mC] at he;obtain ⟨⟨rfl,rfl,rfl⟩,rfl,rfl⟩:=he;exact ⟨rfl,hs.hB,cells,el,h3,by show 0+len*(tb.tab el).length<=_;omega⟩
   ·rw [eF]
   ·exact .inr hx
  ·simp at h
 ·simp at h
def aD5(aJ:dz P tb tb=true)(hs:aS c F σ bm tm a w)(aB:cq tb.tab Γ c.env){g n:Nat}(Mz: ∀x,lW g x-> ¬F x){o:Oper}{x y:Operand}{T U:Nat}{cl:Call}(ho:o.op= .call cl)(hcl:cl.callee= .builtin .append)(har:cl.args.toList=[x,y])(hat:cl.argTypes.toList=[T,U])
  (hd: ∀d,o.dst=some d->d<c.nt) {ti ui:TI} (aO:tb.get T=some ti) (MU:tb.get U=some ui) {aZ:bf}
  (h:Ip tb Γ gs o.dst σ g ti ui (aY tb σ T x) (aY tb σ U y)=some aZ):sR P c F σ bm tm a w g gs n o aZ:=by
 unfold Ip at h;split at h
 ·rename_i hy;exact (by simp [af9] at h)
 ·exact aD6 aJ hs aB (Mz g (WZ g)) ho hcl har hat hd aO MU h
def aEh(aJ:dz P tb tb=true)(hs:aS c F σ bm tm a w)(aB:cq tb.tab Γ c.env){g q:Nat}(lQ: ¬F g){o:Oper}{x y:Operand}{T:Nat}(ho:o.op= .slice T x (some y) none none)(hd: ∀d,o.dst=some d->d<c.nt){ti:TI}(aO:tb.get T=some ti){h:Nat}{ex:E}(hx:aY tb σ T x=some (.v [] (.own h) ex)){aZ:bf}
  (he:Rp tb Γ o.dst σ g ti h ex (aY tb σ 0 y)=some aZ):sR P c F σ bm tm a w g [] q o aZ:=by
 unfold Rp at he;split at he
 ·rename_i el kl IB n hv hlo hlv;split at he
  ·rename_i hc;simp only [bg] at he;subst he;obtain ⟨rO,hil,uF,rfl⟩:=hc;refine ⟨fun _ hr K Q hK=> ?_,fun hn=>absurd (dZ _) hn⟩;have hin:kS P c.env q (.cond [] (.inc ex IB (.len ex))):=hr _ (by simp);replace hin:=hin (dZ _);obtain ⟨kk,hkk⟩:=CS hil;obtain ⟨l,hl,azd,_⟩:=p9 aB hkk ((dU hs hlo).1 (dZ _));obtain ⟨hr0,nI⟩:=(uQ hs hx).1.1 (dZ _);have fT:cz w (MM c.M0 bm tm σ) tm c.env (.own h) ex (a.eval x):=⟨hr0,nI⟩;obtain ⟨_,d1,_,_,_,_,hd1,eO⟩:=jl aJ aO hv;simp only [ju] at eO;subst eO;obtain ⟨rows,hrows,fK,ad,len,cap,hval,hlen,hcap,hmax,hnone,hcells⟩:=Ff aB (by rw [rO,hv]) fT;simp only [E.den,hl,hrows,dL,iF,D.bool.injEq,cC] at hin;obtain ⟨Sv,MA,_⟩:=hin;rw [<-hlen] at MA;rw [hv] at uF;simp only [Uq] at uF;split at uF
   ·rename_i ei jG;split at uF
    ·rename_i v1 hv1;obtain ⟨j,hj,hjs,_⟩:=ye aJ jG hv1;have htab:tb.tab el=v1.cells:=by simp [TB.tab,jG,TI.cells,hv1]
     let v':Value:= .slice (if cap=l.toNat then ad else ad.map (·.add (l.toNat*v1.cells.length))) (len-l.toNat) (cap-l.toNat)
     have hrun:(execOp a.eval o).run P w= .ok (.value v') w:=by have hL:((some y).map a.eval=none/\l=0)\/ ∃k,(some y).map a.eval=some (.int k l):= .inr ⟨kk,by simp [azd]⟩;have hH:((none:Option Operand).map a.eval=none/\(len:Int)=len)\/ ∃k,(none:Option Operand).map a.eval=some (.int k (len:Int)):= .inl ⟨rfl,rfl⟩;have hb:=fun isS=>XX (P:=P) (w:=w) (isS:=isS) hL hH Sv MA (PL _) hcap;simp only [jP,XC] at hb;simp [execOp,ho,hval,Instr.sliceAt,Instr.slice,run_underlying hd1,hb,run_sizeOf hj,hjs,v']
     have rP:=hs.live h _ hlv;have SQ:tm h= .slice ad len cap:=by rw [<-nI,hval]
     have hlc:l.toNat<=cap:=by omega
     have Z3: ∀b o2 s2 l2 c2,v'= .slice (some ⟨b,o2,s2⟩) l2 c2->0<c2-> ∃o',ad=some ⟨b,o',none⟩/\o2=o'+l.toNat*v1.cells.length/\s2=none/\l2=len-l.toNat/\c2=cap-l.toNat/\0<cap:=by
      intro b o2 s2 l2 c2 e2 hc2;simp only [v',gF] at e2;obtain ⟨e3,rfl,rfl⟩:=e2;rw [ak (by omega)] at e3;rcases ad with _|⟨b',o',s'⟩
      ·cases e3
      ·have rT:=(rP.sp b' o' s' len cap SQ (by omega)).1;subst rT;simp only [jP,addr_add,bg,mC] at e3;obtain ⟨rfl,rfl,rfl⟩:=e3;exact ⟨o',rfl,rfl,rfl,rfl,rfl,by omega⟩
     have hmul:l.toNat*v1.cells.length+(len-l.toNat)*v1.cells.length=len*v1.cells.length/\l.toNat*v1.cells.length+(cap-l.toNat)*v1.cells.length=cap*v1.cells.length:=by
      constructor
      ·rw [<-jO];congr 1;omega
      ·rw [<-jO];congr 1;omega
     have Fm: ∀p,MM c.M0 bm (bF tm g v') (bF (kX σ (some h)) (3*g+2) (.live ⟨(tb.tab el).length,none⟩)) p->MM c.M0 bm tm σ p:=fun p hp=>by
      rcases zS hs lQ hp with h1|⟨b2,o2,s2,l2,c2,q1,q2,q3,q4⟩
      ·exact BW h1
      ·have hc2:0<c2:=by
        rcases vP c2 with e|e
        ·subst e;omega
        ·exact e
       obtain ⟨o',rfl,rfl,rfl,rfl,rfl,hcp⟩:=Z3 _ _ _ _ _ q1 hc2;refine .inr (.inr ⟨h,_,hlv,Dc ⟨b2,o',none,len,cap,SQ,q2,?_,?_⟩⟩)
       ·show o'+len*(tb.tab el).length<=_;rw [htab] at q3 ⊢;omega
       ·show _<o'+cap*(tb.tab el).length;rw [htab] at q4 ⊢;omega
     unfold Oper.wp;rw [hrun];refine hK bm (bF tm g v') _ _ ?_;rw [JJ (by intro p hp d;simp at hp;rcases hp with rfl|rfl<;>simp<;>omega)];show aS c _ (dS (bF (kX σ (some h)) (3*g+2) _) _) _ _ _ _;refine Kq ((hs.append lQ (some h) (fun h1 e1=>by simp at e1;subst e1;exact hlv) v' (match ad with|some ⟨b,_,_⟩=>(if 0<cap then some b else none)|none=>none) (Fr.refl _ _ _) (fun p v hp hn=>⟨hp,fun hm=>hn (Fm p hm)⟩) (fun _ _ _=>rfl) (fun b hb=> ?_) ⟨?_,(fun e dp he=>by cases he),(fun e gv ms he=>by cases he)⟩ (fun b' o2 s2 l2 c2 he hl=> ?_)).qW hd (fU (dZ _) ⟨?_,?_⟩) fun x hx=> ?_)
     ·rcases ad with _|⟨b',o',s'⟩
      ·cases hb
      ·simp only at hb;split at hb
       ·rename_i hcp;simp only [bg] at hb;subst hb;exact ⟨h,o',s',len,cap,rfl,SQ,hcp⟩
       ·cases hb
     ·intro b o2 s2 l2 c2 he hl;rw [eF] at he;obtain ⟨o',rfl,rfl,rfl,rfl,rfl,hcp⟩:=Z3 _ _ _ _ _ he hl;obtain ⟨_,h2,C,T0,h3,h4⟩:=rP.sp b o' none len cap SQ hcp;refine ⟨rfl,h2,C,T0,h3,?_⟩;have h4':o'+cap*(tb.tab el).length<=C.size:=h4;show o'+l.toNat*v1.cells.length+(cap-l.toNat)*(tb.tab el).length<=_;rw [htab] at h4' ⊢;omega
     ·obtain ⟨o',rfl,_,_,_,_,hcp⟩:=Z3 _ _ _ _ _ he hl;right;simp [hcp]
     ·have ay3:bY w (MM c.M0 bm tm σ) w (MM c.M0 bm (bF tm g v') (bF (kX σ (some h)) (3*g+2) (.live ⟨(tb.tab el).length,none⟩))):=fun p v hp hn=>⟨hp,fun hm=>hn (Fm p hm)⟩;have hR:R w (MM c.M0 bm tm σ) ((E.cut ex IB (.len ex)).den c.env) v':=by
       simp only [E.den,hrows,hl,iF,dL,qI,R];refine ⟨_,_,_,rfl,by simp;omega,by omega,by omega,fun hn=> ?_,fun b o' s he=> ?_⟩
       ·rcases ad with _|ad
        ·have:=hnone rfl;omega
        ·split at hn
         ·omega
         ·simp at hn
       ·by_cases hz:len-l.toNat=0
        ·refine ⟨fun h=>by omega,?_⟩;have:((rows.drop l.toNat).take ((rows.length:Int).toNat-l.toNat))=[]:=by apply oR;simp;omega
         rw [this];trivial
        ·have hcl: ¬cap=l.toNat:=by omega
         rw [ak hcl] at he;rcases ad with _|⟨b1,o1,s1⟩
         ·cases he
         ·have hs1:=(hcells b1 o1 s1 rfl).1 (by omega);subst hs1;simp only [jP,addr_add,bg,mC] at he;obtain ⟨rfl,rfl,rfl⟩:=he;refine ⟨fun _=>rfl,?_⟩;have hlr: ∀r∈rows,r.length=v1.cells.length:=fun r hr=>by rw [fK.len r hr,htab]
          refine B6 (n:=v1.cells.length) (fun r hr=>hlr r (PT (PU hr))) fun i r hi=> ?_;simp only [pV,xm] at hi;split at hi
          ·have:=(hcells b1 o1 none rfl).2.get hlr hi;rw [jO] at this
           rwa [zX]
          ·cases hi
      exact R.keep ay3 _ _ hR
     ·rw [eF]
     ·exact .inr hx
    ·simp at uF
   ·simp at uF
  ·simp at he
 ·simp at he
def sSl(aJ:dz P tb tb=true)(hs:aS c F σ bm tm a w)(aB:cq tb.tab Γ c.env){g n:Nat}(lQ: ¬F g){o:Oper}{x:Operand}{lo hi:Option Operand}{T:Nat}(ho:o.op= .slice T x lo hi none)(hd: ∀d,o.dst=some d->d<c.nt){ti:TI}(aO:tb.get T=some ti){aZ:bf}
  (h:Iy tb Γ gs o.dst σ g ti (aY tb σ T x) (lo.map (aY tb σ 0)) (hi.map (aY tb σ 0))=some aZ):sR P c F σ bm tm a w g gs n o aZ:=by
 unfold Iy at h;split at h
 ·rename_i h' ex l hx hlo hhi;split at h
  ·rename_i e he;simp only [bg] at h;subst h;cases lo with
   | none=>simp at hlo
   | some y =>
    cases hi with
    | some z=>simp at hhi
    | none => simp only [jP,bg] at hlo;subst hlo;exact aEh aJ hs aB lQ ho hd aO hx he
  ·exact oO hs hd (alB aJ hs aB ho aO h)
 ·exact oO hs hd (alB aJ hs aB ho aO h)
end
section
variable {P:Program}{c:SC}{F:Nat->Prop}{σ:Nat->ST}{bm:Nat->Nat}{tm:Nat->Value}{a:Act}{w:World}{cx:Cx}{Γ:List VT}{gs:Gd}{ops:Array Oper}
def asv(hs:aS c F σ bm tm a w)(aB:cq cx.tb.tab Γ c.env){o:Oper}(h:yR cx.tb.tab Γ ops σ o=some gs):Region.wanted o (yielded ops a.tmps)=true↔cK c.env gs:=by
 unfold yR at h;unfold Region.wanted;split at h
 ·rename_i hg;simp only [bg] at h;subst h;simp [hg,dZ]
 ·rename_i j b hg;rw [hg];simp only;split at h
  ·rename_i d hd;split at h
   ·rename_i g' k e hσ;cases hb:iO .bool (e.inf cx.tb.tab Γ)<;>rw [hb] at h<;>simp at h;subst h;have hr:=hs.tmps d;rw [hσ] at hr;rw [Ze];unfold yielded;rw [hd];simp only [P5];by_cases hg':cK c.env g'
    ·obtain ⟨x,hx,hv⟩:=Cy aB (wH hb) (hr.1 hg');have hv':a.tmps[d]? =some (.bool x):=by
      simp only [rC] at hv;cases hq:a.tmps[d]? with
      | none=>rw [hq] at hv;simp [undef] at hv
      | some z=>rw [hq] at hv;simp at hv;rw [hv]
     rw [hv',hx];simp [hg']
    ·have hv:=hr.2 hg';simp only [rC] at hv;have hv':a.tmps[d]? =none\/a.tmps[d]? =some (.tuple #[]):=by
      cases hq:a.tmps[d]? with
      | none=>exact .inl rfl
      | some z=>rw [hq] at hv;simp [undef] at hv;exact .inr (by rw [hv])
     rcases hv' with hv'|hv'<;>rw [hv']<;>simp [hg']
   ·simp at h
  ·simp at h
def aa1(aJ:dz P cx.tb cx.tb=true)(hnt:c.nt=cx.nt)(hs:aS c F σ bm tm a w)(aB:cq cx.tb.tab Γ c.env){g:Nat}(Mz: ∀x,lW g x-> ¬F x){o:Oper}{aZ:bf}(h:xS cx ops Γ g o σ=some aZ) :
  ∃gs,yR cx.tb.tab Γ ops σ o=some gs/\sR P c F σ bm tm a w g gs Γ.length o aZ:=by
 have hg: ¬F g:=Mz g (WZ g);unfold xS at h;split at h
 ·simp at h
 ·rename_i gs hgs;refine ⟨gs,hgs,?_⟩;cases rM:Io cx.nt o.dst with
  | false=>rw [rM] at h;simp at h
  | true =>
   rw [rM] at h;simp only [ib] at h;have hd: ∀d,o.dst=some d->d<c.nt:=fun d he=>by rw [he] at rM;simp only [Io] at rM;rw [hnt];exact ia rM
   split at h
   ·rename_i x ho;exact oO hs hd (alA hs (.inl ho) h)
   ·rename_i x ho;exact oO hs hd (alA hs (.inr ho) h)
   ·rename_i T x ho;split at h
    ·rename_i ti aO;exact oO hs hd (sLd aJ hs hs.gi aB ho aO h)
    ·simp at h
   ·rename_i T y x ho;split at h
    ·rename_i ti aO;exact sSt aJ hs aB hg ho aO h
    ·simp at h
   ·rename_i T x f ho;split at h
    ·rename_i ti aO;exact oO hs hd (aEk aJ hs ho aO h)
    ·simp at h
   ·rename_i T x i ho;split at h
    ·rename_i ti aO;exact oO hs hd (aEn aJ hs aB ho aO h)
    ·simp at h
   ·rename_i T x i ho;split at h
    ·rename_i ti aO;exact oO hs hd (aEv aJ hs aB ho aO h)
    ·simp at h
   ·rename_i T x ho;exact aD9 aJ hs aB hg ho hd h
   ·rename_i T ho;split at h
    ·rename_i ti aO;exact aD4 aJ hs hg ho hd aO h
    ·simp at h
   ·rename_i T parts ho;split at h
    ·rename_i ti aO;exact oO hs hd (aEa aJ hs aB ho aO h)
    ·simp at h
   ·rename_i T l cc ho;split at h
    ·rename_i ti aO;exact (by simp [agj] at h)
    ·simp at h
   ·rename_i T len parts ho;split at h
    ·rename_i ti aO;cases hb:(Nat.blt 0 len&&gs.isEmpty) with
     | true=>rw [hb] at h;exact aEb aJ hs aB hg ho hd aO h
     | false=>rw [hb] at h;exact oO hs hd (aEc aJ hs aB ho aO h)
    ·simp at h
   ·rename_i T x lo hi ho;split at h
    ·rename_i ti aO;exact sSl aJ hs aB hg ho hd aO h
    ·simp at h
   ·rename_i S T x ho;split at h
    ·rename_i si ti hsi aO;exact oO hs hd (aEg aJ hs aB ho hsi aO h)
    ·simp at h
   ·rename_i x i ho;exact oO hs hd (aEi hs aB ho h)
   ·rename_i T x ho;exact oO hs hd (aEt hs aB ho h)
   ·rename_i T x ho;exact oO hs hd (aEq hs aB ho h)
   ·rename_i x y z ho;exact oO hs hd (aEu hs aB ho h)
   ·rename_i f first jQ ho;exact (by simp [Ru] at h)
   ·rename_i x ho;exact oO hs hd (aEs hs ho h)
   ·rename_i op T x y T' ho;exact oO hs hd (aD8 aJ hs aB ho h)
   ·rename_i cl ho;split at h
    ·rename_i f hcl;split at h
     ·rename_i ti aO;split at h
      ·exact aEr hs aB hg ho hcl hd rfl h
      ·exact aEd hs aB Mz ho hcl hd rfl h
     ·simp at h
    ·rename_i t hcl;split at h
     ·rename_i ti aO;exact (by simp [aga] at h)
     ·simp at h
    ·rename_i hcl;split at h
     ·rename_i x T har hat;split at h
      ·rename_i ti aO;exact oO hs hd (sLen aJ hs aB ho hcl har hat aO h)
      ·simp at h
     ·simp at h
    ·rename_i hcl;split at h
     ·rename_i x y T U har hat;split at h
      ·rename_i ti ui aO MU;exact aD5 aJ hs aB Mz ho hcl har hat hd aO MU h
      ·simp at h
     ·simp at h
    ·simp at h
   ·simp at h
def WD(aJ:dz P cx.tb cx.tb=true)(hnt:c.nt=cx.nt)(hs:aS c F σ bm tm a w)(aB:cq cx.tb.tab Γ c.env){g i:Nat}(hg: ∀x,lW g x-> ¬F x){o:Oper}(hi:ops[i]? =some o){aZ:bf}(h:xS cx ops Γ g o σ=some aZ)
  (hr: ∀r∈aZ.rq,kS P c.env Γ.length r) {Q:Exit->Act->World->Prop} {K:Act->World->Prop} (hK: ∀dD tm' a' w',aS c (fun x=>F x\/lW g x) (dS σ aZ.wr) dD tm' a' w'->K a' w'):wpOp P ops Q i K a w:=by
 obtain ⟨gs,hgs,hok⟩:=aa1 aJ hnt hs aB hg h;unfold wpOp;rw [hi];simp only;by_cases hw:cK c.env gs
 ·rw [aA ((asv hs aB hgs).2 hw)];exact .inl (hok.1 hw hr K Q hK)
 ·rw [ak (fun e=>hw ((asv hs aB hgs).1 e))];exact hK _ _ _ _ (hok.2 hw)
def zU(P:Program)(env:List D):Nat->List bf->Prop
 | _,[]=>True
 | n,e::r=>(∀q∈e.rq,kS P env n q)/\zU P env (n+(kN e.rq).length) r
def cq.RF{tab:Nat->List CT}{Γ Δ:List VT}{env:List D}(h:cq tab (Γ++Δ) env):cq tab Γ env:=fun i t ht=>h i t (by rw [mW (dQ.1 ht).1];exact ht)
def Ge{ops:Array Oper}: ∀{l:List Oper} {ss:SS} {es:List bf} {s:SS},nM cx ops l ss=some (es,s)-> ∃Δ,s.Γ=ss.Γ++Δ/\s.nt=ss.nt+rm*l.length/\s.lv=ss.lv
 | [],ss,es,s,h=>by simp [nM] at h;obtain ⟨_,rfl⟩:=h;exact ⟨[],by simp⟩
 | o::r,ss,es,s,h=>by
  simp only [nM] at h;split at h
  ·simp at h
  ·rename_i e he;split at h
   ·simp at h
   ·rename_i es' s' hrec;simp only [bg,oU] at h;obtain ⟨rfl,rfl⟩:=h;obtain ⟨Δ,h1,h2,h3⟩:=Ge hrec;exact ⟨kN e.rq++Δ,by rw [h1];simp [SS.step],by rw [h2];simp only [SS.step,fw,Nat.mul_add];omega,by rw [h3];rfl⟩
def NI(ss:SS)(e:bf):(ss.step e).σ.get=dS ss.σ.get e.wr:=aeH _ _
def below(n:Nat):Nat->Prop:=fun x=>x<n
def alD(aJ:dz P cx.tb cx.tb=true)(hnt:c.nt=cx.nt){Q:Exit->Act->World->Prop}: ∀(l:List Oper) (k:Nat) (ss:SS) (es:List bf) (s:SS),(∀j,l[j]? =ops[k+j]?)->nM cx ops l ss=some (es,s)->cq cx.tb.tab s.Γ c.env->zU P c.env ss.Γ.length es ->
  (∀dD tm' a' w',aS c (below s.nt) s.σ.get dD tm' a' w'->Q .normal a' w')-> ∀bm tm a w,aS c (below ss.nt) ss.σ.get bm tm a w->wpOps P ops Q (List.range' k l.length) a w
 | [],k,ss,es,s,hl,h,aB,hr,hQ,bm,tm,a,w,hs=>by simp [nM] at h;obtain ⟨_,rfl⟩:=h;exact hQ _ _ _ _ hs
 | o::r,k,ss,es,s,hl,h,aB,hr,hQ,bm,tm,a,w,hs=>by
  simp only [nM] at h;split at h
  ·simp at h
  ·rename_i e he;split at h
   ·simp at h
   ·rename_i es' s' hrec;simp only [bg,oU] at h;obtain ⟨rfl,rfl⟩:=h;obtain ⟨Δ,h1,h2,_⟩:=Ge hrec;have FL:cq cx.tb.tab ss.Γ c.env:=by rw [h1] at aB;simp only [SS.step,iG] at aB;exact aB.RF
    simp only [fw,KE];rw [wpOps_cons];refine WD aJ hnt hs FL (g:=ss.nt) (fun x hx=>by have:=hx.1;simp only [below];omega) (by have:=hl 0;simpa using this.symm) he hr.1 fun dD tm' a' w' hS=> ?_;refine alD aJ hnt r (k+1) (ss.step e) es' s' (fun j=>by have:=hl (j+1);simpa [zX,Ck 1 j] using this) hrec aB (by have:=hr.2;simpa [SS.step] using this) hQ dD tm' a' w' ?_
    rw [NI];exact hS.mono fun x hx=>by simp only [below,SS.step,lW] at *;omega
def aDw(aJ:dz P cx.tb cx.tb=true)(hnt:c.nt=cx.nt){Q:Exit->Act->World->Prop}{id:Nat}{ss s:SS}{es:List bf}(h:nM cx ops ops.toList ss=some (es,s))(aB:cq cx.tb.tab s.Γ c.env)(hr:zU P c.env ss.Γ.length es)
  (hQ: ∀dD tm' a' w',aS c (below s.nt) s.σ.get dD tm' a' w'->Q .normal a' w') (hs:aS c (below ss.nt) ss.σ.get bm tm a w):(Code.region id ops false).wp P Q a w:=by
 refine wp_region ?_;have:=alD (ops:=ops) aJ hnt ops.toList 0 ss es s (fun j=>by simp) h aB hr hQ bm tm a w hs;rw [xj, <-PX] at this;exact this
end
section
variable {tb:TB}{Γ:List VT}{gs:Gd}{σ bH:Nat->ST}{ops:Array Oper}
def Nt{T:Nat}{x:Operand}(h: ∀t,x= .tmp t->bH (3*t)=σ (3*t)):aY tb bH T x=aY tb σ T x:=by
 cases x with
 | tmp t=>simp only [aY,h t rfl]
 | _=>rfl
def aj8{T:Nat}{x:Operand}{g:Gd}{id off:Nat}(h:aY tb σ T x=some (.ptr g id off)): ∃t,x= .tmp t/\σ (3*t)= .ptr g id off:=by
 cases x with
 | tmp t=>simp only [aY,bg] at h;exact ⟨t,rfl,h⟩
 | const v =>
  simp only [aY] at h;unfold E5 at h
  (repeat' split at h)<;>simp at h
 | _=>simp [aY] at h
def aCK{T:Nat}{x:Operand}{g0:Gd}{g n:Nat}{i:E}{off:Nat}(h:aY tb σ T x=some (.mp g0 g n i off)): ∃t,x= .tmp t/\σ (3*t)= .mp g0 g n i off:=by
 cases x with
 | tmp t=>simp only [aY,bg] at h;exact ⟨t,rfl,h⟩
 | const v =>
  simp only [aY] at h;unfold E5 at h
  (repeat' split at h)<;>simp at h
 | _=>simp [aY] at h
def aCI{T:Nat}{x:Operand}{gd:Gd}{g gv n:Nat}{i:E}{off:Nat}{j:E}{m o2:Nat}(h:aY tb σ T x=some (.ip gd g gv n i off j m o2)): ∃t,x= .tmp t/\σ (3*t)= .ip gd g gv n i off j m o2:=by
 cases x with
 | tmp t=>simp only [aY,bg] at h;exact ⟨t,rfl,h⟩
 | const v =>
  simp only [aY] at h;unfold E5 at h
  (repeat' split at h)<;>simp at h
 | _=>simp [aY] at h
def aCJ{T:Nat}{x:Operand}{gd:Gd}{g gv n:Nat}{i:E}{off:Nat}{l:E}(h:aY tb σ T x=some (.iv gd g gv n i off l)): ∃t,x= .tmp t/\σ (3*t)= .iv gd g gv n i off l:=by
 cases x with
 | tmp t=>simp only [aY,bg] at h;exact ⟨t,rfl,h⟩
 | const v =>
  simp only [aY] at h;unfold E5 at h
  (repeat' split at h)<;>simp at h
 | _=>simp [aY] at h
def aCL{T:Nat}{x:Operand}{gs:Gd}{g:Nat}{e:E}(h:aY tb σ T x=some (.v gs (.own g) e)): ∃t,x= .tmp t/\σ (3*t)= .v gs (.own g) e:=by
 cases x with
 | tmp t=>simp only [aY,bg] at h;exact ⟨t,rfl,h⟩
 | const v =>
  simp only [aY] at h;unfold E5 at h
  (repeat' split at h)<;>simp at h
 | _=>simp [aY] at h
structure Alike(ops:Array Oper)(o:Oper)(σ bH:Nat->ST):Prop where
 t: ∀t∈tmpsOf ops o,bH (3*t)=σ (3*t)
 p:looks o.op=true-> ∀t∈tmpsOf ops o,∀g id off,σ (3*t)= .ptr g id off->bH (3*id+1)=σ (3*id+1)
 r:looks o.op=true-> ∀t∈tmpsOf ops o,∀gs g e,σ (3*t)= .v gs (.own g) e->bH (3*g+2)=σ (3*g+2)
 ip:looks o.op=true-> ∀t∈tmpsOf ops o,∀gd g gv n i off j m o2,σ (3*t)= .ip gd g gv n i off j m o2->bH (3*g+2)=σ (3*g+2)
 iv:looks o.op=true-> ∀t∈tmpsOf ops o,∀gd g gv n i off l,σ (3*t)= .iv gd g gv n i off l->bH (3*g+2)=σ (3*g+2)
 m:looks o.op=true-> ∀t∈tmpsOf ops o,∀g0 g n i off,σ (3*t)= .mp g0 g n i off->bH (3*g+2)=σ (3*g+2)
def af4: ∀{l:List Nat} {t:Nat},t∈l-> ∀{gd:Gd} {g gv n:Nat} {i:E} {off:Nat} {j:E} {m o2:Nat},σ (3*t)= .ip gd g gv n i off j m o2->3*g+2∈p8 σ l
 | [],t,h,_,_,_,_,_,_,_,_,_,_=>by simp at h
 | x::r,t,h,gd,g,gv,n,i,off,j,m,o2,he=>by
  unfold p8;rcases fJ.1 h with rfl|h
  ·rw [he];simp
  ·have:=af4 h he;split<;>simp [this]
def af5: ∀{l:List Nat} {t:Nat},t∈l-> ∀{gd:Gd} {g gv n:Nat} {i:E} {off:Nat} {le:E},σ (3*t)= .iv gd g gv n i off le->3*g+2∈p8 σ l
 | [],t,h,_,_,_,_,_,_,_,_=>by simp at h
 | x::r,t,h,gd,g,gv,n,i,off,le,he=>by
  unfold p8;rcases fJ.1 h with rfl|h
  ·rw [he];simp
  ·have:=af5 h he;split<;>simp [this]
def af6: ∀{l:List Nat} {t:Nat},t∈l-> ∀{g0:Gd} {g n:Nat} {i:E} {off:Nat},σ (3*t)= .mp g0 g n i off->3*g+2∈p8 σ l
 | [],t,h,_,_,_,_,_,_=>by simp at h
 | x::r,t,h,g0,g,n,i,off,he=>by
  unfold p8;rcases fJ.1 h with rfl|h
  ·rw [he];simp
  ·have:=af6 h he;split<;>simp [this]
def af8: ∀{l:List Nat} {t:Nat},t∈l-> ∀{g:Gd} {id off:Nat},σ (3*t)= .ptr g id off->3*id+1∈p8 σ l
 | [],t,h,_,_,_,_=>by simp at h
 | x::r,t,h,g,id,off,he=>by
  unfold p8;rcases fJ.1 h with rfl|h
  ·rw [he];simp
  ·have:=af8 h he;split<;>simp [this]
def af7: ∀{l:List Nat} {t:Nat},t∈l-> ∀{gs:Gd} {g:Nat} {e:E},σ (3*t)= .v gs (.own g) e->3*g+2∈p8 σ l
 | [],t,h,_,_,_,_=>by simp at h
 | x::r,t,h,gs,g,e,he=>by
  unfold p8;rcases fJ.1 h with rfl|h
  ·rw [he];simp
  ·have:=af7 h he;split<;>simp [this]
def asH{o:Oper}(h: ∀l∈readsOf ops σ o,bH l=σ l):Alike ops o σ bH where
 t:=fun t ht=>h _ (by unfold readsOf;simp only [jx,gD];exact .inl ⟨t,ht,rfl⟩)
 p:=fun hl t ht g id off he=>h _ (by unfold readsOf;rw [hl];simp only [jx,ib];exact .inr (af8 ht he))
 r:=fun hl t ht gs g e he=>h _ (by unfold readsOf;rw [hl];simp only [jx,ib];exact .inr (af7 ht he))
 ip:=fun hl t ht gd g gv n i off j m o2 he=>h _ (by unfold readsOf;rw [hl];simp only [jx,ib];exact .inr (af4 ht he))
 iv:=fun hl t ht gd g gv n i off l he=>h _ (by unfold readsOf;rw [hl];simp only [jx,ib];exact .inr (af5 ht he))
 m:=fun hl t ht g0 g n i off he=>h _ (by unfold readsOf;rw [hl];simp only [jx,ib];exact .inr (af6 ht he))
def uL{o:Oper}{x:Operand}{t:Nat}(hx:x∈o.op.operands.toList)(e:x= .tmp t):t∈tmpsOf ops o:=by unfold tmpsOf;simp only [jx,List.mem_filterMap];exact .inl ⟨x,hx,by rw [e]⟩
def axZ{tab:Nat->List CT}{o:Oper}(h:Alike ops o σ bH):yR tab Γ ops bH o=yR tab Γ ops σ o:=by
 unfold yR;cases hg:o.guard with
 | none=>rfl
 | some jb =>
  obtain ⟨j,b⟩:=jb;simp only;cases hd:(ops[j]?).bind (·.dst) with
  | none=>rfl
  | some d => simp only;rw [h.t d (by unfold tmpsOf;simp only [jx,hg];exact .inr (by simp [hd]))]
def axl{tab:Nat->List CT}{dst:Option Nat}{ti:TI}{s:Option ST}(h: ∀g id off,s=some (.ptr g id off)->bH (3*id+1)=σ (3*id+1)):Ix tab Γ gs dst bH ti s=Ix tab Γ gs dst σ ti s:=by
 unfold Ix;cases hb:s.bind (under gs) with
 | none=>rfl
 | some st =>
  cases st with
  | ptr g id off => simp only;obtain ⟨st0,h1,h2⟩:=xw hb;rcases Bt h2 with ⟨_,_,_,_,_,h3⟩|⟨g',i',o',rfl,_,h3⟩|⟨_,_,_,_,_,h3⟩<;>cases h3;rw [h _ _ _ h1]
  | _=>rfl
def axk{dst:Option Nat}{ti:TI}{x:Operand}(h1:aY tb bH 0 x=aY tb σ 0 x)(h: ∀g id off,aY tb σ 0 x=some (.ptr g id off)->bH (3*id+1)=σ (3*id+1))(hm: ∀g0 g n i off,aY tb σ 0 x=some (.mp g0 g n i off)->bH (3*g+2)=σ (3*g+2))(hp: ∀gd g gv n i off j m o2,aY tb σ 0 x=some (.ip gd g gv n i off j m o2)->bH (3*g+2)=σ (3*g+2)):Iw tb Γ gs dst bH ti x=Iw tb Γ gs dst σ ti x:=by
 have hl:=axl (tab:=tb.tab) (Γ:=Γ) (gs:=gs) (dst:=dst) (ti:=ti) h;cases x with
 | global g=>rfl
 | _ =>
  simp only [Iw];rw [h1];revert hl hm hp;generalize aY tb σ 0 _=s;intro hm hp hl;split
  ·rfl
  ·rfl
  ·rfl
  ·exact hl
def axp{tab:Nat->List CT}{dst:Option Nat}{ti:TI}{s x:Option ST}(h: ∀g id off,s=some (.ptr g id off)->bH (3*id+1)=σ (3*id+1)):Cu tab Γ gs dst bH ti s x=Cu tab Γ gs dst σ ti s x:=by
 unfold Cu;cases gs with
 | cons _ _=>rfl
 | nil =>
  cases dst with
  | some _=>rfl
  | none =>
   cases hb:s.bind (under []) with
   | none=>rfl
   | some st =>
    cases st with
    | ptr g id off =>
     obtain ⟨st0,h1,h2⟩:=xw hb;rcases Bt h2 with ⟨_,_,_,_,_,h3⟩|⟨g',i',o',rfl,_,h3⟩|⟨_,_,_,_,_,h3⟩<;>cases h3;cases hx:gX [] x with
     | none=>rfl
     | some ke => obtain ⟨k,e⟩:=ke;simp only;rw [h _ _ _ h1]
    | _=>cases hx:gX [] x<;>rfl
def axo{dst:Option Nat}{g0:Nat}{ti:TI}{s x:Option ST}(hm: ∀g0 g n i off,s=some (.mp g0 g n i off)->bH (3*g+2)=σ (3*g+2))(hp: ∀gd g gv n i off j m o2,s=some (.ip gd g gv n i off j m o2)->bH (3*g+2)=σ (3*g+2))
  (ho: ∀gs g e,x=some (.v gs (.own g) e)->bH (3*g+2)=σ (3*g+2)) (he:Cu tb.tab Γ gs dst bH ti s x=Cu tb.tab Γ gs dst σ ti s x):Iz tb Γ gs dst bH g0 ti s x=Iz tb Γ gs dst σ g0 ti s x:=by
 unfold Iz;split
 ·rfl
 ·rfl
 ·exact he
def agk{fs:List (Nat×Nat)}: ∀{parts:List (Nat×Operand)} {cs:List (K×E)},(∀p∈parts,∀t,p.2= .tmp t->bH (3*t)=σ (3*t))->tk tb Γ gs bH fs parts cs=tk tb Γ gs σ fs parts cs
 | [],cs,_=>rfl
 | (f,x)::r,cs,h=>by
  unfold tk;cases fs[f]? with
  | none=>rfl
  | some p => obtain ⟨fo,ft⟩:=p;simp only;rw [Nt (fun t ht=>h (f,x) (by simp) t ht)];have ih: ∀cs,tk tb Γ gs bH fs r cs=tk tb Γ gs σ fs r cs:=fun cs=>agk fun p hp=>h p (by simp [hp]);simp only [ih]
def agl{el:Nat}: ∀{parts:List (Nat×Operand)} {n:Nat} {acc:E},(∀p∈parts,∀t,p.2= .tmp t->bH (3*t)=σ (3*t))->qK tb Γ gs bH el n parts acc=qK tb Γ gs σ el n parts acc
 | [],n,acc,_=>rfl
 | (f,x)::r,n,acc,h=>by unfold qK;rw [Nt (fun t ht=>h (f,x) (by simp) t ht)];have ih: ∀n acc,qK tb Γ gs bH el n r acc=qK tb Γ gs σ el n r acc:=fun n acc=>agl fun p hp=>h p (by simp [hp]);simp only [ih]
def LN: ∀{xs:List Operand} {Ts:List Nat},(∀x∈xs,∀t,x= .tmp t->bH (3*t)=σ (3*t))->ny tb Γ gs bH xs Ts=ny tb Γ gs σ xs Ts
 | [],[],_=>rfl
 | [],_::_,_=>rfl
 | _::_,[],_=>rfl
 | x::xs,T::Ts,h=>by unfold ny;rw [Nt (fun t ht=>h x (by simp) t ht),LN fun y hy=>h y (by simp [hy])]
def axj{dst:Option Nat}{g:Nat}{rt:List (Nat×Nat)}{ti:TI}{f:Nat}{args:List Operand}{Ts:List Nat}(h: ∀x∈args,∀t,x= .tmp t->bH (3*t)=σ (3*t))(hp: ∀x∈args,∀t,x= .tmp t-> ∀g id off,σ (3*t)= .ptr g id off->bH (3*id+1)=σ (3*id+1)) :
  Ir tb Γ gs dst bH g rt ti f args Ts=Ir tb Γ gs dst σ g rt ti f args Ts:=by
 unfold Ir;cases args with
 | nil=>cases Ts<;>rfl
 | cons x xs =>
  cases Ts with
  | nil=>rfl
  | cons T Ts =>
   simp only;rw [Nt (fun t ht=>h x (by simp) t ht)];cases hi:Ja (aY tb σ T x) with
   | none=>simp only;rw [LN h]
   | some gi =>
    obtain ⟨g,id⟩:=gi;simp only;have hx:bH (3*id+1)=σ (3*id+1):=by
     unfold Ja at hi;split at hi
     ·rename_i g2 id2 hst;simp only [bg,oU] at hi;obtain ⟨rfl,rfl⟩:=hi;obtain ⟨t,ht,hs⟩:=aj8 hst;exact hp x (by simp) t ht _ _ _ hs
     ·simp at hi
    have e2:ny tb Γ gs bH xs Ts=ny tb Γ gs σ xs Ts:=LN fun y hy=>h y (by simp [hy]);have e3:Iu tb Γ gs dst bH rt ti f xs Ts g id=Iu tb Γ gs dst σ rt ti f xs Ts g id:=by unfold Iu;rw [hx,e2]
    rw [hx,e3];have e:ny tb Γ [] bH xs Ts=ny tb Γ [] σ xs Ts:=LN fun y hy=>h y (by simp [hy]);rw [e]
def axi{dst:Option Nat}{g:Nat}{ti ui:TI}{s x:Option ST}(h: ∀gs g e,s=some (.v gs (.own g) e)->bH (3*g+2)=σ (3*g+2)):Iq tb Γ gs dst bH g ti ui s x=Iq tb Γ gs dst σ g ti ui s x:=by
 unfold Iq;cases gs with
 | cons _ _=>rfl
 | nil =>
  cases hu:gX [] s with
  | none=>rfl
  | some ke =>
   obtain ⟨k,e⟩:=ke;obtain ⟨st,g',h1,h2⟩:=amz hu;have hk: ∀h',k= .own h'->bH (3*h'+2)=σ (3*h'+2):=by rintro h' rfl;rcases Bt h2 with ⟨g2,k2,e2,rfl,_,h3⟩|⟨_,_,_,_,_,h3⟩|⟨_,_,_,_,_,h3⟩<;>cases h3;exact h _ _ _ h1
   rcases ti.vt with (⟨_|_|_|el⟩|_)|_<;>try rfl
   rcases ui.vt with (⟨_|_|_|YT⟩|_)|_<;>try rfl
   simp only;cases gX [] x with
   | none=>rfl
   | some ke' =>
    obtain ⟨k',e'⟩:=ke';cases tb.get el with
    | none=>rfl
    | some ei =>
     simp only;cases k with
     | own h'=>simp only [hk h' rfl]
     | _=>rfl
def axh{dst:Option Nat}{g:Nat}{ti ui:TI}{s x:Option ST}(h: ∀gs g e,s=some (.v gs (.own g) e)->bH (3*g+2)=σ (3*g+2))(hi: ∀gd g gv n i off l,x=some (.iv gd g gv n i off l)->bH (3*g+2)=σ (3*g+2)):Ip tb Γ gs dst bH g ti ui s x=Ip tb Γ gs dst σ g ti ui s x:=by
 unfold Ip;split
 ·rfl
 ·exact axi h
def axn{dst:Option Nat}{g:Nat}{ti:TI}{x:Option ST}{lo hi:Option (Option ST)}(h: ∀gs g e,x=some (.v gs (.own g) e)->bH (3*g+2)=σ (3*g+2)):Iy tb Γ gs dst bH g ti x lo hi=Iy tb Γ gs dst σ g ti x lo hi:=by
 unfold Iy;split
 ·unfold Rp;rw [h _ _ _ rfl]
 ·rfl
def axm{tab:Nat->List CT}{dst:Option Nat}{f:Nat}{first xs:List Operand}(h: ∀x∈xs,∀t,x= .tmp t->bH (3*t)=σ (3*t))(hp: ∀x∈xs,∀t,x= .tmp t-> ∀gd id off,σ (3*t)= .ptr gd id off->bH (3*id+1)=σ (3*id+1)):Ru tab Γ gs dst bH f first xs=Ru tab Γ gs dst σ f first xs:=by rfl
def aCH{cx:Cx}{g:Nat}{o:Oper}(h:Alike ops o σ bH):xS cx ops Γ g o bH=xS cx ops Γ g o σ:=by
 have hop: ∀(T:Nat) (x:Operand),x∈o.op.operands.toList->aY cx.tb bH T x=aY cx.tb σ T x:=fun T x hx=>Nt fun t ht=>h.t t (uL hx ht);have hpt:looks o.op=true-> ∀(T:Nat) (x:Operand),x∈o.op.operands.toList-> ∀g id off,aY cx.tb σ T x=some (.ptr g id off)->bH (3*id+1)=σ (3*id+1):=fun hl T x hx g id off he=>by obtain ⟨t,ht,hs⟩:=aj8 he;exact h.p hl t (uL hx ht) _ _ _ hs
 have hiv:looks o.op=true-> ∀(T:Nat) (x:Operand),x∈o.op.operands.toList-> ∀gd g gv n i off l,aY cx.tb σ T x=some (.iv gd g gv n i off l)->bH (3*g+2)=σ (3*g+2):=fun hl T x hx gd g gv n i off l he=>by obtain ⟨t,ht,hs⟩:=aCJ he;exact h.iv hl t (uL hx ht) _ _ _ _ _ _ _ hs
 have hip:looks o.op=true-> ∀(T:Nat) (x:Operand),x∈o.op.operands.toList-> ∀gd g gv n i off j m o2,aY cx.tb σ T x=some (.ip gd g gv n i off j m o2)->bH (3*g+2)=σ (3*g+2):=fun hl T x hx gd g gv n i off j m o2 he=>by obtain ⟨t,ht,hs⟩:=aCI he;exact h.ip hl t (uL hx ht) _ _ _ _ _ _ _ _ _ hs
 have hmp:looks o.op=true-> ∀(T:Nat) (x:Operand),x∈o.op.operands.toList-> ∀g0 g n i off,aY cx.tb σ T x=some (.mp g0 g n i off)->bH (3*g+2)=σ (3*g+2):=fun hl T x hx g0 g n i off he=>by obtain ⟨t,ht,hs⟩:=aCK he;exact h.m hl t (uL hx ht) _ _ _ _ _ hs
 have how:looks o.op=true-> ∀(T:Nat) (x:Operand),x∈o.op.operands.toList-> ∀gs g e,aY cx.tb σ T x=some (.v gs (.own g) e)->bH (3*g+2)=σ (3*g+2):=fun hl T x hx gs g e he=>by obtain ⟨t,ht,hs⟩:=aCL he;exact h.r hl t (uL hx ht) _ _ _ hs
 unfold xS;rw [axZ h];cases hgs:yR cx.tb.tab Γ ops σ o with
 | none=>rfl
 | some gs =>
  simp only;congr 1;cases ho:o.op with
  | move x=>simp only;rw [hop _ x (by simp [ho,Op.operands])]
  | assign x=>simp only;rw [hop _ x (by simp [ho,Op.operands])]
  | load T x =>
   simp only;cases cx.tb.get T with
   | none=>rfl
   | some ti=>simp only;exact axk (hop _ x (by simp [ho,Op.operands])) (fun g id off he=>hpt (by rw [ho];rfl) 0 x (by simp [ho,Op.operands]) g id off he) (fun g0 g n i off he=>hmp (by rw [ho];rfl) 0 x (by simp [ho,Op.operands]) g0 g n i off he) fun gd g gv n i off j m o2 he=>hip (by rw [ho];rfl) 0 x (by simp [ho,Op.operands]) gd g gv n i off j m o2 he
  | store T y x =>
   simp only;rw [hop _ y (by simp [ho,Op.operands]),hop _ x (by simp [ho,Op.operands])];cases cx.tb.get T with
   | none=>rfl
   | some ti=>simp only;exact axo (fun g0 g n i off he=>hmp (by rw [ho];rfl) 0 y (by simp [ho,Op.operands]) g0 g n i off he) (fun gd g gv n i off j m o2 he=>hip (by rw [ho];rfl) 0 y (by simp [ho,Op.operands]) gd g gv n i off j m o2 he) (fun gs g e he=>how (by rw [ho];rfl) T x (by simp [ho,Op.operands]) gs g e he) (axp fun g id off he=>hpt (by rw [ho];rfl) 0 y (by simp [ho,Op.operands]) g id off he)
  | fieldAddr T x f=>simp only;rw [hop _ x (by simp [ho,Op.operands])]
  | indexAddr T x i =>
   have hx:=hop T x (by simp [ho,Op.operands]);have hi:=hop 0 i (by simp [ho,Op.operands]);have hq: ∀ti,Iv cx.tb Γ gs o.dst bH ti T x i=Iv cx.tb Γ gs o.dst σ ti T x i:=by intro ti;cases x<;>simp only [Iv,hx,hi]
   simp only [hq]
  | index T x i=>simp only;rw [hop _ x (by simp [ho,Op.operands]),hop _ i (by simp [ho,Op.operands])]
  | box T x=>simp only;rw [hop _ x (by simp [ho,Op.operands])]
  | makeSlice T l cc=>simp only;rw [hop _ l (by simp [ho,Op.operands]),hop _ cc (by simp [ho,Op.operands])]
  | build T parts =>
   simp only;cases cx.tb.get T with
   | none=>rfl
   | some ti =>
    simp only;unfold Rm;cases ti.vt with
    | aL _=>rfl
    | one v =>
     cases v with
     | c _=>rfl
     | agg ts=>simp only;rw [agk fun p hp t ht=>h.t t (uL (x:=p.2) (by simp only [ho,Op.operands,gD];exact ⟨p,hp,rfl⟩) ht)]
  | buildSlice T len parts =>
   simp only;cases cx.tb.get T with
   | none=>rfl
   | some ti =>
    simp only;have xI: ∀gs' el,qK cx.tb Γ gs' bH el 0 parts.toList (.iB el)=qK cx.tb Γ gs' σ el 0 parts.toList (.iB el):=fun gs' el =>
     agl fun p hp t ht=>h.t t (uL (x:=p.2) (by simp only [ho,Op.operands,gD];exact ⟨p,hp,rfl⟩) ht)
    unfold Ro Rn;simp only [xI]
  | slice T x lo hi mx =>
   cases mx with
   | some _=>rfl
   | none =>
    simp only;rw [hop _ x (by simp [ho,Op.operands])];have e1:lo.map (aY cx.tb bH 0)=lo.map (aY cx.tb σ 0):=by
     cases lo with
     | none=>rfl
     | some y=>simp only [jP];rw [hop _ y (by simp [ho,Op.operands])]
    have e2:hi.map (aY cx.tb bH 0)=hi.map (aY cx.tb σ 0):=by
     cases hi with
     | none=>rfl
     | some y=>simp only [jP];rw [hop _ y (by simp [ho,Op.operands])]
    rw [e1,e2];cases cx.tb.get T with
    | none=>rfl
    | some ti=>exact axn fun gs g e he=>how (by rw [ho];rfl) T x (by simp [ho,Op.operands]) gs g e he
  | convert S T x=>simp only;rw [hop _ x (by simp [ho,Op.operands])]
  | extract x i=>simp only;rw [hop _ x (by simp [ho,Op.operands])]
  | unOp op T x => cases op<;>first|rfl|(simp only;rw [hop _ x (by simp [ho,Op.operands])])
  | pick x y z=>simp only;rw [hop _ x (by simp [ho,Op.operands]),hop _ y (by simp [ho,Op.operands]),hop _ z (by simp [ho,Op.operands])]
  | makeFunc fn first jQ =>
   cases fn with
   | func f =>
    simp only;have hc: ∀x∈jQ.toList,x∈o.op.operands.toList:=fun x hx=>by rw [ho];simp only [Op.operands,Array.toList_append,jx];exact .inr hx
    exact axm (fun x hx t ht=>h.t t (uL (hc x hx) ht)) fun x hx t ht g id off he=>h.p (by rw [ho];rfl) t (uL (hc x hx) ht) _ _ _ he
   | _=>rfl
  | nilCheck x=>simp only;rw [hop _ x (by simp [ho,Op.operands])]
  | binOp op T x y T'=>simp only;rw [hop _ x (by simp [ho,Op.operands]),hop _ y (by simp [ho,Op.operands])]
  | call cl =>
   have hargs: ∀x∈cl.args.toList,x∈o.op.operands.toList:=fun x hx=>by rw [ho];simp only [Op.operands,Call.operands];cases cl.callee<;>simp<;>first|exact .inr (by simpa using hx)|(simpa using hx)
   simp only;cases hcl:cl.callee with
   | invoke r m=>rfl
   | value f =>
    cases f with
    | func f =>
     simp only;cases cx.tb.get o.type with
     | none=>rfl
     | some ti =>
      simp only;cases aiZ ti with
      | some nb=>simp only;unfold eNew;rw [LN fun x hx t ht=>h.t t (uL (hargs x hx) ht)]
      | none=>exact axj (fun x hx t ht=>h.t t (uL (hargs x hx) ht)) (fun x hx t ht g id off he=>h.p (by rw [ho];rfl) t (uL (hargs x hx) ht) _ _ _ he)
    | tmp t =>
     simp only;have hx:aY cx.tb bH 0 (.tmp t)=aY cx.tb σ 0 (.tmp t):=hop 0 (.tmp t) (by simp [ho,Op.operands,Call.operands,hcl]);rw [hx];cases cx.tb.get o.type with
     | none=>rfl
     | some ti=>rfl
    | _=>rfl
   | builtin b =>
    cases b with
    | len =>
     simp only;split
     ·rename_i x T har hat;rw [hop _ x (hargs x (by rw [har];simp))]
     ·rfl
    | append =>
     simp only;split
     ·rename_i x y T U har hat;rw [hop _ x (hargs x (by rw [har];simp)),hop _ y (hargs y (by rw [har];simp))];split
      ·exact axh (fun gs g e he=>how (by rw [ho];rfl) T x (hargs x (by rw [har];simp)) gs g e he) fun gd g gv n i off l he=>hiv (by rw [ho];rfl) U y (hargs y (by rw [har];simp)) gd g gv n i off l he
      ·rfl
     ·rfl
    | _=>rfl
  | _=>rfl
end
end
end Go.Proofs.YtekplmpbkgchfaaGreatDoor
