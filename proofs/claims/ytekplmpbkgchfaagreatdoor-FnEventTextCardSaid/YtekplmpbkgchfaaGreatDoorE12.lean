/- Rows in a block that may be written, where what the rows hold lies elsewhere: a row is read, a row is stored. -/
import Derived.Test.YtekplmpbkgchfaaGreatDoorE11
import Derived.Maps.AppendAt
import Derived.PlainAid
import Derived.Test.YtekplmpbkgchfaaGreatDoorE0
set_option linter.all false
set_option maxRecDepth 100000
namespace Go.Proofs.YtekplmpbkgchfaaGreatDoor
section
open Go.RowKit Go
variable [GC]
def BM(M:Addr->Prop)(N:Nat->Prop):Addr->Prop:=fun q=>M q\/N q.block
structure OR(M:Addr->Prop)(N:Nat->Prop)(w:World)(T:TypeId)(m:Nat)(rows:List (List D))(v:Value):Prop where
 hn: ∀r∈rows,r.length=m
 ex: ∃xs,w.ownsRow 0 T m v rows.length xs/\(∀x,v.ownBlock=some x->N x)/\ ∀i j r d,rows[i]? =some r->r[j]? =some d-> ∃u,xs[i*m+j]? =some u/\u.oneCell'=true/\R w (BM M N) d u
def aCR{w w':World}{B T m n:Nat}{v:Value}{xs:List Value}(h:w.ownsRow B T m v n xs)(hb: ∀x,v.ownBlock=some x->w'.heap[x]? =w.heap[x]?):w'.ownsRow B T m v n xs:=by
 obtain ⟨h0,h|⟨g',cap,cur,h1,h2,h3,h4⟩⟩:=h
 ·exact ⟨h0,.inl h⟩
 ·exact ⟨h0,.inr ⟨g',cap,cur,h1,h2,by rw [hb g' (by rw [h1];rfl)];exact h3,h4⟩⟩
section
variable {M:Addr->Prop}{N N':Nat->Prop}{w w':World}{T m:Nat}{rows:List (List D)}{v:Value}
def BM.below(hb:Below w.heap.size w w')(hN: ∀x,N' x->N x\/w.heap.size<=x):bY w (BM M N) w' (BM M N') :=
 bY.below hb fun q hq hn=>hn.imp id fun hn=>(hN _ hn).elim id fun h=>by omega
def BM.one{g:Nat}(ho:bN w w' g)(hg:N g):bY w (BM M N) w' (BM M N):=fun p u hc hn=>⟨by
 have hb:w'.heap[p.block]? =w.heap[p.block]? :=ho.block p.block fun e=>hn (.inr (by show N p.block;rw [e];exact hg));unfold World.cell? at hc ⊢;rw [hb];exact hc,hn⟩
def OR.nil:OR M N w T m [] (.slice none 0 0):=⟨fun r hr=>(by cases hr),[],World.ownsRow_nil _ _ _ _,fun x hx=>(by cases hx),fun i j r d hi=>by simp at hi⟩
def OR.keep(h:OR M N w T m rows v)(hb: ∀x,v.ownBlock=some x->w'.heap[x]? =w.heap[x]?)(hk:bY w (BM M N) w' (BM M N'))(hN: ∀x,v.ownBlock=some x->N' x):OR M N' w' T m rows v:=by obtain ⟨hn,xs,h1,h2,h3⟩:=h;refine ⟨hn,xs,aCR h1 hb,hN,fun i j r d hi hj=> ?_⟩;obtain ⟨u,q1,q2,q3⟩:=h3 i j r d hi hj;exact ⟨u,q1,q2,R.keep hk _ _ q3⟩
def OR.lt(h:OR M N w T m rows v): ∀x,v.ownBlock=some x->N x/\x<w.heap.size:=fun x hx=>by obtain ⟨hn,xs,h1,h2,h3⟩:=h;exact ⟨h2 x hx,(h1.lt x hx).2⟩
def OR.len(h:OR M N w T m rows v): ∃a c,v= .slice a rows.length c/\rows.length<=c:=by
 obtain ⟨hn,xs,⟨_,⟨rfl,h⟩|⟨g,cap,cur,rfl,_,_,h,_⟩⟩,_⟩:=h
 ·exact ⟨_,_,by rw [h],by rw [h];exact fX _⟩
 ·exact ⟨_,_,rfl,h⟩
def OR.below(h:OR M N w T m rows v)(hb:Below w.heap.size w w')(hN: ∀x,N' x->N x\/w.heap.size<=x)(iz: ∀x,N x->N' x):OR M N' w' T m rows v :=
 h.keep (fun x hx=>hb.block x (h.lt x hx).2) (BM.below hb hN) fun x hx=>iz x (h.lt x hx).1
def OR.one{g:Nat}(h:OR M N w T m rows v)(ho:bN w w' g)(hg:N g)(hne:v.ownBlock≠some g):OR M N w' T m rows v :=
 h.keep (fun x hx=>ho.block x fun e=>hne (by rw [<-e];exact hx)) (BM.one ho hg) fun x hx=>(h.lt x hx).1
def OR.row(h:OR M N w T m rows v){i:Nat}{r:List D}(hi:rows[i]? =some r): ∃(b cap:Nat) (us:List Value),v= .slice (some ⟨b,0,none⟩) rows.length cap/\us.length=m/\(∀j u,us[j]? =some u->w.cell? ((⟨b,i*m,none⟩:Addr).add j)=some u)/\(∀u∈us,u.oneCell'=true)/\Rs w (BM M N) r us:=by
 obtain ⟨hn,xs,ho,h2,h6⟩:=h;have hil:=(dQ.1 hi).1;obtain ⟨h0,⟨rfl,hz⟩|⟨b,cap,cur,rfl,p1,p2,p3,p4,p5,p6⟩⟩:=ho
 ·omega
 have hr:=hn r (kV hi);have key: ∀(k:Nat),k<=m-> ∃us:List Value,us.length=m-k/\(∀(j:Nat) (u:Value),us[j]? =some u->xs[i*m+(k+j)]? =some u)/\(∀u∈us,u.oneCell'=true)/\Rs w (BM M N) (r.drop k) us:=by
  intro k;induction hk:m-k generalizing k with
  | zero =>
   intro hkm;obtain rfl:k=m:=by omega
   exact ⟨[],rfl,fun j u hu=>by simp at hu,fun u hu=>by simp at hu,by rw [Ha (by omega)];rfl⟩
  | succ n ih =>
   intro hkm;obtain ⟨us,q1,q2,q3,q4⟩:=ih (k+1) (by omega) (by omega);have hkr:k<r.length:=by omega
   obtain ⟨u,s1,s2,s3⟩:=h6 i k r r[k] hi (cO hkr);refine ⟨u::us,by simp [q1],fun j x hx=> ?_,fun x hx=> ?_,?_⟩
   ·cases j with
    | zero=>simp at hx;subst hx;exact s1
    | succ j => rw [Xq] at hx;have:=q2 j x hx;rw [show k+(j+1)=k+1+j by omega];exact this
   ·rcases fJ.1 hx with e|e
    ·rw [e];exact s2
    ·exact q3 x e
   ·rw [List.drop_eq_getElem_cons hkr];exact ⟨u,us,rfl,s3,q4⟩
 obtain ⟨us,q1,q2,q3,q4⟩:=key 0 (by omega);refine ⟨b,cap,us,rfl,by omega,fun j u hu=> ?_,q3,by simpa using q4⟩;have hx:=q2 j u hu;rw [qE] at hx;rw [vK];unfold World.cell?;simp only [p2];rw [<-p6,pV] at hx;split at hx
 ·simpa using hx
 ·cases hx
def OR.put{b cap:Nat}(h:OR M N w T m rows (.slice (some ⟨b,0,none⟩) rows.length cap)){i:Nat}{r:List D}{us:List Value}(hi:i<rows.length)(hr:r.length=m)(hu:us.length=m)(hone: ∀u∈us,u.oneCell'=true)(hR: ∀(j:Nat) (d:D),r[j]? =some d-> ∃u,us[j]? =some u/\R w (BM M N) d u)
  (hw: ∀T C,aC w b T C->aC w' b T (iQ C (i*m) us)) (ho:bN w w' b):OR M N w' T m (rows.set i r) (.slice (some ⟨b,0,none⟩) rows.length cap):=by
 have hNb:N b:=(h.lt b rfl).1;obtain ⟨hn,xs,hown,h2,h6⟩:=h;have kp:bY w (BM M N) w' (BM M N):=BM.one ho hNb;obtain ⟨h0,⟨hv,hz⟩|⟨b',cap',cur,hv,p1,p2,p3,p4,p5,p6⟩⟩:=hown
 ·cases hv
 simp only [gF,bg,mC,vR,sX] at hv;obtain ⟨rfl,rfl⟩:=hv;have him:i*m+m<=rows.length*m:=by have:(i+1)*m<=rows.length*m:=pX _ (by omega);rw [jO,sW] at this;exact this
 have hlc:rows.length*m<=cur.size:=by rw [p5];exact pX _ p3
 have hnew:=hw T cur p2;have hxs:(iQ cur (i*m) us).toList.take (rows.length*m)=xs.take (i*m)++us++xs.drop (i*m+m):=by
  have e1:cur.toList.take (i*m)=xs.take (i*m):=by rw [<-p6,List.take_take];congr 1;omega
  apply zV;intro k;rw [pV];by_cases hk:k<rows.length*m
  ·rw [aA hk];have hxl:xs.length=rows.length*m:=h0;have IU:xs[k]? =cur[k]? :=by rw [<-p6,pV,aA hk,yD]
   rw [yD,alE];by_cases k1:k<i*m
   ·rw [ak (by omega),iG,mW (by rw [lX];omega),pV,aA k1,IU]
   ·by_cases k2:k<i*m+m
    ·rw [aA (by rw [hu];omega),iG,oT (by rw [lX];omega),lX,P4 (by omega),mW (by omega)]
    ·rw [ak (by rw [hu];omega),oT (by rw [jw,lX];omega),jw,lX,P4 (by omega),hu,xm, <-IU];congr 1;omega
  ·rw [ak hk,nU];rw [jw,jw,lX,KA,hu];have hxl:xs.length=rows.length*m:=h0;omega
 have hsz:(xs.take (i*m)++us++xs.drop (i*m+m)).length=rows.length*m:=by have hxl:xs.length=rows.length*m:=h0;rw [jw,jw,lX,KA,hu];omega
 refine ⟨fun q hq=> ?_,xs.take (i*m)++us++xs.drop (i*m+m),?_,h2,fun i' j r' d hi' hj=> ?_⟩
 ·rcases sU hq with h|h
  ·exact hn q h
  ·rw [h];exact hr
 ·rw [uh];exact ⟨hsz,.inr ⟨b,cap,_,rfl,p1,hnew,p3,p4,by rw [Jz];exact p5,hxs⟩⟩
 ·have hxl:xs.length=rows.length*m:=h0;by_cases e:i'=i
  ·subst e;rw [PO hi] at hi';cases hi';have hjm:j<m:=by rw [<-hr];exact (dQ.1 hj).1
   obtain ⟨u,s1,s2⟩:=hR j d hj;refine ⟨u,?_,hone u (kV s1),R.keep kp _ _ s2⟩;rw [iG,oT (by rw [lX];omega),lX,P4 (by omega),mW (by omega),show i'*m+j-i'*m=j by omega];exact s1
  ·rw [Kz (fun h=>e h.symm)] at hi';have hjm:j<m:=by rw [<-hn r' (kV hi')];exact (dQ.1 hj).1
   obtain ⟨u,s1,s2,s3⟩:=h6 i' j r' d hi' hj;refine ⟨u,?_,s2,R.keep kp _ _ s3⟩;rcases dY i' i with hlt|hge
   ·have:(i'+1)*m<=i*m:=pX _ hlt;rw [jO,sW] at this;rw [iG,mW (by rw [lX];omega),pV,aA (by omega)];exact s1
   ·have:(i+1)*m<=i'*m:=pX _ (by omega);rw [jO,sW] at this;rw [oT (by rw [jw,lX];omega),jw,lX,P4 (by omega),hu,xm,show i*m+m+(i'*m+j-(i*m+m))=i'*m+j by omega];exact s1
end
def or_append{M:Addr->Prop}{P:Program}{T Tl ty:TypeId}{ti:TypeInfo}{z:Value}{m Q0:Nat}(ht:P.underlying Tl=some (.slice T))(aO:P.info? T=some ti)(hz:ti.zero=some z)(hsz:ti.size=m)(hby:ti.bytes=Q0)(hzs:z.cells.size=m)(hm:0<m)
  {N:Nat->Prop} {w:World} {rows:List (List D)} {v:Value} (h1:OR M N w T m rows v) (Fo: ∀x,N x->x<w.heap.size) {r:List D} {us:List Value} {a:Addr} {c:Nat} (hr:r.length=m) (hu:us.length=m) (hR: ∀(j:Nat) (d:D),r[j]? =some d-> ∃u,us[j]? =some u/\R w (BM M N) d u) (hnews: ∀j u,us[j]? =some u->w.cell? (a.add j)=some u) (hone: ∀u∈us,u.oneCell'=true) (hl:rows.length<1048576) (lP:Q0<=1024) :
  ∃v' w',(Builtin.append_ #[Tl,Tl] ty #[v,.slice (some a) 1 c]).run P w= .ok v' w'/\OR M (fun x=>N x\/v'.ownBlock=some x) w' T m (rows++[r]) v'/\w.grownBy w' v.ownBlock/\(v'.ownBlock=v.ownBlock\/v'.ownBlock=some w.heap.size):=by
 have hlt:=h1.lt;obtain ⟨hn,xs,O1,h2,h3⟩:=h1;have ayx:(rows.length+1)*Q0<=140737488355328:=dq (Xz (show rows.length+1<=1048576 by omega) lP) (by decide);obtain ⟨v',w',q1,q2,q3,_,q5⟩:=run_append_own_at (P:=P) w 0 Tl ty T ti z m Q0 ht aO hz hsz hby hzs hm v rows.length xs O1 a 1 c us (by omega) hnews hone (by unfold maxLen;omega) ayx (fX _);have kp:bY w (BM M N) w' (BM M fun x=>N x\/v'.ownBlock=some x):=fun p u hc I1=>by
  have hpl:=gR hc;have hnb: ¬N p.block:=fun h=>I1 (.inr h);have hb:w'.heap[p.block]? =w.heap[p.block]? :=q3.block p.block hpl fun e=>hnb (h2 _ e.symm);refine ⟨by unfold World.cell? at hc ⊢;rw [hb];exact hc,fun h=>h.elim (fun h=>I1 (.inl h)) fun h=>h.elim hnb fun h=> ?_⟩;rcases q5 with e|e
  ·exact hnb (h2 _ (by rw [<-e];exact h))
  ·rw [e] at h;have e3:=gh h;omega
 have hxl:xs.length=rows.length*m:=O1.1;refine ⟨v',w',q1,⟨fun r' hr'=> ?_,xs++us,by simpa using q2,fun x hx=> .inr hx,fun i j r' d hi hj=> ?_⟩,q3,q5⟩
 ·rcases jx.1 hr' with h|h
  ·exact hn r' h
  ·rw [nV] at h;rw [h];exact hr
 ·by_cases hil:i<rows.length
  ·rw [mW hil] at hi;obtain ⟨u,s1,s2,s3⟩:=h3 i j r' d hi hj;exact ⟨u,by rw [mW (dQ.1 s1).1];exact s1,s2,R.keep kp _ _ s3⟩
  ·rw [oT (by omega)] at hi;have hi0:i-rows.length=0:=by have:=(dQ.1 hi).1;simp at this;omega
   rw [hi0] at hi;simp at hi;subst hi;obtain rfl:i=rows.length:=by omega
   obtain ⟨u,s1,s2⟩:=hR j d hj;refine ⟨u,?_,hone u (kV s1),R.keep kp _ _ s2⟩;rw [oT (by omega),hxl,show rows.length*m+j-rows.length*m=j by omega];exact s1
section
variable {n:Nat}{P:Program}{ops:Array Oper}{Q:Exit->Act->World->Prop}{E:List (Nat×Value)}{w w':World}{o:Oper}{rest:List Oper}
def aDc{T:TypeId}{x y:Operand}{b off:Nat}{t:TypeId}{C cs:Array Value}(ho:o.op= .store T x y)(hx:ev E x=some (.pointer (some ⟨b,off,none⟩)))(hy:ev E y=some (.agg cs))(hsz:(P.info? T).map (·.size)=some cs.size)(hone: ∀u∈cs.toList,u.oneCell'=true)(hC:off+cs.size<=C.size)(hb:aC w b t C) :
  ∃w',Em n P E o w w'/\aC w' b t (iQ C off cs.toList)/\bN w w' b:=by
 simp only [lJ] at hsz;obtain ⟨i,hi,hs⟩:=hsz;obtain ⟨w',h1,h2,h3⟩:=Jy (P:=P) b t cs.toList w C off 0 hb hone (by simp;omega);refine ⟨w',fun a hE=> ?_,h2,h3⟩;have h4:(storeVar T ⟨b,off,none⟩ (.agg cs)).run P w= .ok () w':=by simp only [storeVar,Value.cells,lK,run_sizeOf hi,uk,hs];simp [h1]
 simp [execOp,ho,hE.ev hx,hE.ev hy,Instr.storeAt,Instr.sureAddr,h4]
def abe{M:Addr->Prop}{N:Nat->Prop}{T T':TypeId}{x y:Operand}{b m i cap len:Nat}{rows:List (List D)}{r:List D}{cs:Array Value}(ho:o.op= .store T x y)(hx:ev E x=some (.pointer (some ⟨b,i*m,none⟩)))(hy:ev E y=some (.agg cs))(Mm:OR M N w T' m rows (.slice (some ⟨b,0,none⟩) len cap))(hi:i<rows.length)(hr:r.length=m)(hu:cs.size=m)
  (hone: ∀u∈cs.toList,u.oneCell'=true) (hR:Rs w (BM M N) r cs.toList) (hsz:(P.info? T).map (·.size)=some m) :
  ∃w',Em n P E o w w'/\OR M N w' T' m (rows.set i r) (.slice (some ⟨b,0,none⟩) len cap)/\bN w w' b:=by
 obtain rfl:len=rows.length:=by obtain ⟨_,_,e,_⟩:=Mm.len;simp only [gF] at e;exact e.2.1
 obtain ⟨hn,xs,hown,h2,h6⟩:=id Mm;obtain ⟨h0,⟨hv,hz⟩|⟨b',cap',cur,hv,p1,p2,p3,p4,p5,p6⟩⟩:=hown
 ·cases hv
 simp only [gF,bg,mC,vR,sX] at hv;obtain ⟨rfl,rfl⟩:=hv;have hCi:i*m+m<=cur.size:=by have h1:(i+1)*m<=rows.length*m:=pX _ (by omega);have h2:rows.length*m<=cap*m:=pX _ p3;rw [jO,sW] at h1;omega
 obtain ⟨w',q1,q2,q3⟩:=aDc (n:=n) (P:=P) (E:=E) ho hx hy (by rw [hu];exact hsz) hone (by omega) p2;refine ⟨w',q1,Mm.put hi hr (by simpa using hu) hone (fun j d hj=> ?_) (fun T2 C2 hb=> ?_) q3,q3⟩
 ·have key: ∀(r:List D) (us:List Value),Rs w (BM M N) r us-> ∀(j:Nat) (d:D),r[j]? =some d-> ∃u,us[j]? =some u/\R w (BM M N) d u:=by
   intro r;induction r with
   | nil=>intro us _ j d hj;simp at hj
   | cons d0 r ih =>
    rintro us ⟨u,NZ,rfl,p1,p2⟩ j d hj;cases j with
    | zero=>simp at hj;subst hj;exact ⟨u,rfl,p1⟩
    | succ j=>exact ih NZ p2 j d hj
  exact key r _ hR j d hj
 ·have:(Obj.cells C2 T2 (0,0))= .cells cur T' (0,0):=by have:=hb.symm.trans p2;simpa using this
  cases this;exact q2
end
def qB.ok(v:qB):Bool:=decide (0<=v.qb)&&decide (v.qb<=99)&&decide (0<=v.min)&&decide (v.min<=99)
def afq(v:qB):aH ay 201 none [enc v] (.bool v.ok) []:=by refine cB anA ams (by simp [ams,fM,bA,db,enc,UN]) fun hfit=> ?_;simp only [anA,gS,afI];simp [ba,qB.ok]
end
section
def xL(f:Int):Bool:=decide (0<=f)&&decide (f<=63)
def aiY{f:Int}(h:xL f=true): ∃n:Nat,f=n/\n<64:=by unfold xL at h;simp at h;exact ⟨f.toNat,by omega,by omega⟩
def awC(a b c d:Int):Int:=if a<c\/(a=c/\b<d) then -1 else if a=c/\b=d then 0 else 1
def aEI:Nat->Int|0=>1|1=>1|2=>1|3=>1|4=>2|5=>2|_=>0
def aEJ:Nat->Int|0=>0|1=>0|2=>1|3=>2|4=>0|5=>1|_=>0
def aIF(a b:Int)(k:Nat):Bool:=decide (awC (aEI k) (aEJ k) a b<=0)
end
section
open Go.RowKit Go
variable [GC]
def afj(f:Int):aH ay 194 none [.int .i64 f] (.bool (xL f)) []:=by refine cB amR amm (by simp [amm,fM,bA,db,cD]) fun hfit=> ?_;simp only [amR,gS];simp [ba,xL]
def auK: ∀k:Fin 6,dJ .shl .i64 1 ((k:Nat):Int)=((2^(k:Nat):Nat):Int):=by decide +kernel
def auY: ∀n:Fin 64,∀k:Fin 6,ba .eql (dJ .rem .i64 (dJ .shr .i64 ((n:Nat):Int) ((k:Nat):Int)) 2) 1=n.val.testBit k.val:=by decide +kernel
end
section
open Go.RowKit
end
section
open Go.RowKit Go
variable [GC]
def LD(m k:Nat)(hm:m<64)(hk:k<6):aH ay 136 none [.int .i64 m,.int .i64 k] (.bool (m.testBit k)) []:=by
 refine cB aob amw (by simp [amw,fM,bA,db,cD]) fun hfit=> ?_;unfold aob;refine aX (fun _=> ?_) (aX (fun _=>rfl) (az ?_))
 ·simp [E.den,ba]
 have hb:=auY ⟨m,hm⟩ ⟨k,hk⟩;simp only at hb;simp only [E.den,pU,qD,iF,hb]
def Yb(f:Int):aH ay 135 none [.int .i64 f] (.bool (xL f)) []:=by refine cB ant amr (by simp [amr,fM,bA,db,cD]) fun hfit=> ?_;simp only [ant,gS];simp [ba,xL]
def cG(a b:Int):Bool:=xL a&&xL b&&ba .eql (dJ .andNot .i64 b a) 0
def afk(a b:Int):aH ay 161 none [.int .i64 a,.int .i64 b] (.bool (cG a b)) []:=by
 refine cB amZ amn (by simp [amn,fM,bA,db,cD]) fun hfit=> ?_;unfold amZ
 (apply Ik;(focus (simp only [gS];try exact rfl));(focus (exact afj a));(focus (simp [fM,bA,db,cD,br,kH,enc]));(simp only [cA]))
 (apply Ik;(focus (simp only [gS];try exact rfl));(focus (exact afj b));(focus (simp [fM,bA,db,cD,br,kH,enc]));(simp only [cA]))
 exact az rfl
def avu(rows:List (List D))(hr:cN aI.tab (aI.tab 5) rows):aH ay 6 none [.sl rows] (.bool (decide ((rows.length:Int)>4096))) []:=by refine cB aHN aF3 ⟨hr,trivial⟩ fun hfit=> ?_;exact az rfl
def oA(s:ByteArray)(k:Nat):Bool:=(decide (97<=yF s k)&&decide (yF s k<=122))||(!(k==0)&&(decide (48<=yF s k)&&decide (yF s k<=57)))
def jj(s:ByteArray):Bool:=decide (1<=s.size)&&decide (s.size<=8)&&fz (oA s) s.size
def avS(b:Int)(f:Bool):aH ay 77 none [.int .u8 b,.bool f] (.bool ((decide (97<=b)&&decide (b<=122))||(!f&&(decide (48<=b)&&decide (b<=57))))) []:=by refine cB an1 aGQ ⟨rfl,trivial,trivial⟩ fun hfit=> ?_;unfold an1;refine az ?_;simp [E.den,ba,Bool.and_assoc]
def LB(s:ByteArray):aH ay 37 none [.str s] (.bool (jj s)) []:=by
 refine cB anv aGn ⟨trivial,trivial⟩ fun hfit=> ?_;have hl:=agS hfit.1;unfold anv;refine eZ s.size (fun k=>[.int .i64 k]) (fun k=>fz (oA s) k=true) rfl rfl ?_;intro k hk hI _;simp only [cA];apply aq<;>intro h2<;>simp only [eS] at h2
 ·have h2:k<s.size:=by simp at h2;exact h2
  refine fZ ?_;refine aF (avS (yF s k) ((k:Int)==0)) ?_ (ha:=by (simp only [gS,ae3,Yk,jv];try exact rfl));apply aq<;>intro h3<;>simp only [eS] at h3
  ·have hb:oA s k=false:=by simp at h3;simp [oA];omega
   refine az ?_;simp [E.den,jj,xq h2 hb]
  ·have hb:oA s k=true:=by simp at h3;simp [oA];omega
   refine dK h2 ?_ (show (fz (oA s) k&&oA s k)=true by rw [hI,hb];rfl);simp only [eS];rw [bW];rfl
 ·obtain rfl:k=s.size:=by simp at h2;omega
  refine az ?_;simp only [jj,hI,Bool.and_true];simp only [eS];congr 1;grind
def Q4(s:ByteArray):aH ay 31 none [.str s] (.bool (jj s)) []:=by
 refine cB amS aFL ⟨trivial,trivial⟩ fun hfit=> ?_;have hl:=agS hfit.1;unfold amS;refine fZ ?_;refine fZ ?_;apply aq<;>intro h<;>simp only [eS] at h
 ·refine az ?_;simp only [E.den,D.bool.injEq];by_cases h0:1<=s.size/\s.size<=8
  ·have hb:oA s 0=false:=by simp at h;simp [oA];omega
   simp [jj,xq (show 0<s.size by omega) hb]
  ·have:(decide (1<=s.size)&&decide (s.size<=8))=false:=by simp;omega
   simp [jj,this]
 have h0:1<=s.size/\s.size<=8:=by grind
 refine eZ s.size (fun k=>[.int .i64 k]) (fun k=>fz (oA s) k=true) rfl rfl ?_;intro k hk hI _;simp only [cA];apply aq<;>intro h2<;>simp only [eS] at h2
 ·have h2:k<s.size:=by simp at h2;exact h2
  refine fZ ?_;refine fZ ?_;refine fZ ?_;refine fZ ?_;apply aq<;>intro h3<;>simp only [eS] at h3
  ·have hb:oA s k=false:=by simp at h3;simp [oA];omega
   refine az ?_;simp [E.den,jj,xq h2 hb]
  ·have hb:oA s k=true:=by
    simp at h h3;by_cases e:k=0
    ·subst e;simp [oA];omega
    ·simp [oA];omega
   refine dK h2 ?_ (show (fz (oA s) k&&oA s k)=true by rw [hI,hb];rfl);simp only [eS];rw [bW];rfl
 ·obtain rfl:k=s.size:=by simp at h2;omega
  refine az ?_;simp [E.den,jj,hI,h0]
def gH(n:Int):Bool:=decide (0<=n)&&decide (n<=999)
def K9(n:Int):aH ay 73 none [.int .i64 n] (.bool (gH n)) []:=by refine cB aHM aF0 ⟨rfl,trivial⟩ fun hfit=> ?_;exact az (by simp [E.den,ba,gH])
def kinds:List ByteArray:=[⟨#[115,116,111,110,101]⟩,⟨#[108,97,109,112]⟩,⟨#[115,104,101,108,102]⟩,⟨#[109,101,116,101,114]⟩,⟨#[100,114,97,119,101,114]⟩,⟨#[104,111,114,110]⟩,⟨#[118,97,117,108,116]⟩,⟨#[114,111,98,111,116]⟩]
def CU:List Nat:=[0,1,2,5,3,9,19,63]
def zf(s:ByteArray):Option Nat:=if s=nth kinds 0 then some 0 else if s=nth kinds 1 then some 1 else if s=nth kinds 2 then some 2 else if s=nth kinds 3 then some 3 else if s=nth kinds 4 then some 4 else if s=nth kinds 5 then some 5 else if s=nth kinds 6 then some 6 else if s=nth kinds 7 then some 7 else none
def eI(s:ByteArray):Nat:=match zf s with|some k=>CU.getD k 0|none=>0
def kindOk(s:ByteArray):Bool:=(zf s).isSome
def CV(s:ByteArray):eI s<64:=by
 unfold eI;split
 ·rename_i k _;by_cases h:k<8
  ·obtain rfl|rfl|rfl|rfl|rfl|rfl|rfl|rfl:k=0\/k=1\/k=2\/k=3\/k=4\/k=5\/k=6\/k=7:=by omega
   all_goals decide
  ·rw [List.getD,nU (by simp [CU];omega)];decide
 ·decide
def ai5{s:ByteArray}(h: ∀j,j<8->nth kinds j≠s):zf s=none:=by unfold zf;rw [ak (fun e=>h 0 (by omega) e.symm),ak (fun e=>h 1 (by omega) e.symm),ak (fun e=>h 2 (by omega) e.symm),ak (fun e=>h 3 (by omega) e.symm),ak (fun e=>h 4 (by omega) e.symm),ak (fun e=>h 5 (by omega) e.symm),ak (fun e=>h 6 (by omega) e.symm),ak (fun e=>h 7 (by omega) e.symm)]
def eight{k:Nat}(h:k<8):k=0\/k=1\/k=2\/k=3\/k=4\/k=5\/k=6\/k=7:=by omega
def X7(s:ByteArray):aH ay 196 none [.str s] (.aL [.int .i64 (eI s),.bool (kindOk s)]) []:=by
 refine cB amV aFO ⟨trivial,trivial⟩ fun hfit=> ?_;clear hfit;unfold amV;refine aq (fun h=> ?_) (fun h0=> ?_)
 ·simp only [eS] at h;simp at h;subst h;exact az rfl
 refine aq (fun h=> ?_) (fun h1=> ?_)
 ·simp only [eS] at h;simp at h;subst h;exact az rfl
 refine aq (fun h=> ?_) (fun h2=> ?_)
 ·simp only [eS] at h;simp at h;subst h;exact az rfl
 refine aq (fun h=> ?_) (fun h3=> ?_)
 ·simp only [eS] at h;simp at h;subst h;exact az rfl
 refine aq (fun h=> ?_) (fun h4=> ?_)
 ·simp only [eS] at h;simp at h;subst h;exact az rfl
 refine aq (fun h=> ?_) (fun h5=> ?_)
 ·simp only [eS] at h;simp at h;subst h;exact az rfl
 refine aq (fun h=> ?_) (fun h6=> ?_)
 ·simp only [eS] at h;simp at h;subst h;exact az rfl
 refine aq (fun h=> ?_) (fun h7=> ?_)
 ·simp only [eS] at h;simp at h;subst h;exact az rfl
 simp only [eS] at h0 h1 h2 h3 h4 h5 h6 h7;simp at h0 h1 h2 h3 h4 h5 h6 h7;have hn:zf s=none:=ai5 fun j hj=>by obtain rfl|rfl|rfl|rfl|rfl|rfl|rfl|rfl:=eight hj;all_goals (intro e;first|exact h0 e.symm|exact h1 e.symm|exact h2 e.symm|exact h3 e.symm|exact h4 e.symm|exact h5 e.symm|exact h6 e.symm|exact h7 e.symm)
 exact az (by simp [E.den,eI,kindOk,hn])
def ai6: ∀k:Fin 8,zf (nth kinds k.val)=some k.val:=by decide +kernel
def Tn:E:= .put (.put (.put (.put (.put (.put (.put (.put (.iB 9) (.aj (.ls ⟨#[115,116,111,110,101]⟩))) (.aj (.ls ⟨#[108,97,109,112]⟩))) (.aj (.ls ⟨#[115,104,101,108,102]⟩))) (.aj (.ls ⟨#[109,101,116,101,114]⟩))) (.aj (.ls ⟨#[100,114,97,119,101,114]⟩))) (.aj (.ls ⟨#[104,111,114,110]⟩))) (.aj (.ls ⟨#[118,97,117,108,116]⟩))) (.aj (.ls ⟨#[114,111,98,111,116]⟩))
def aaB:E:= .put (.put (.put (.put (.put (.put (.put (.put (.iB 3) (.aj (.li .i64 0))) (.aj (.li .i64 1))) (.aj (.li .i64 2))) (.aj (.li .i64 5))) (.aj (.li .i64 3))) (.aj (.li .i64 9))) (.aj (.li .i64 19))) (.aj (.li .i64 63))
def aaA(env:List D):Tn.den env=ax kinds:=rfl
def ai7(env:List D):aaB.den env=ax (CU.map fun (n:Nat)=>(n:Int)):=rfl
def Ih(s:ByteArray):aH ay 186 none [.str s] (.aL [.int .i64 (eI s),.bool (kindOk s)]) []:=by
 refine cB aHQ aGs ⟨trivial,trivial⟩ fun hfit=> ?_;clear hfit;show VC.den _ _ (.loop [.one (.c (.int .i64))] [.li .i64 0] (.ite (.ic .lss (.var 1) (.len Tn)) (.rq (.cond [] (.dE Tn (.var 1))) (.ite (.sc .eql (.cell (.row [.str] Tn (.var 1)) 0) (.var 0)) (.rq (.cond [] (.dE aaB (.var 1))) (.ret (.aR (.aR .yc (.cell (.row [.int .i64] aaB (.var 1)) 0)) (.lb true)) [])) (.again 0 [.ar .add .i64 (.var 1) (.li .i64 1)]))) (.ret (.aR (.aR .yc (.li .i64 0)) (.lb false)) []))) _ _ _;have e8:kinds.length=8:=rfl;refine eZ 8 (fun k=>[.int .i64 k]) (fun k=> ∀j,j<k->nth kinds j≠s) rfl (by omega) ?_;intro k hk hI _;simp only [cA];apply aq<;>intro h2<;>simp only [eS,aaA,e8] at h2
 ·have h2:k<8:=by simp at h2;omega
  refine aX (fun _=> ?_) ?_
  ·simp only [eS,aaA,e8];simp;omega
  apply aq<;>intro h3<;>simp only [eS,aaA,gW,eB] at h3
  ·simp at h3;refine aX (fun _=> ?_) ?_
   ·simp only [eS,ai7,cV];simp [CU];omega
   refine az ?_;simp only [eS,ai7,ak4,afJ];have hn:zf s=some k:=by rw [<-h3];exact ai6 ⟨k,h2⟩
   simp only [eI,kindOk,hn];obtain rfl|rfl|rfl|rfl|rfl|rfl|rfl|rfl:k=0\/k=1\/k=2\/k=3\/k=4\/k=5\/k=6\/k=7:=by omega
   all_goals rfl
  ·simp at h3;refine dK h2 ?_ fun j hj=> ?_
   ·simp only [eS];rw [bW];rfl
   ·rcases dY j k with h|h
    ·exact hI j h
    ·obtain rfl:j=k:=by omega
     exact h3
 ·obtain rfl:k=8:=by simp at h2;omega
  refine az ?_;have hn:=ai5 hI;simp [E.den,eI,kindOk,hn]
def aw:List ByteArray:=[⟨#[112,108,97,105,110]⟩,⟨#[114,117,110,115]⟩,⟨#[107,101,101,112,115]⟩,⟨#[99,111,117,110,116,115]⟩,⟨#[108,97,122,121]⟩,⟨#[114,101,97,100,115]⟩,⟨#[104,101,97,114,115]⟩,⟨#[104,101,97,108,115]⟩,⟨#[116,119,105,99,101]⟩]
def FR:List Nat:=[0,1,2,2,3,2,1,1,4]
def Jf:List Nat:=[0,1,2,6,3,2,9,33,4]
def xN(s:ByteArray):Option Nat:=if s=nth aw 0 then some 0 else if s=nth aw 1 then some 1 else if s=nth aw 2 then some 2 else if s=nth aw 3 then some 3 else if s=nth aw 4 then some 4 else if s=nth aw 5 then some 5 else if s=nth aw 6 then some 6 else if s=nth aw 7 then some 7 else if s=nth aw 8 then some 8 else none
def mf(s:ByteArray):Nat:=match xN s with|some k=>FR.getD k 0|none=>0
def rJ(s:ByteArray):Nat:=match xN s with|some k=>Jf.getD k 0|none=>0
def nK(s:ByteArray):Bool:=(xN s).isSome
def nine{k:Nat}(h:k<9):k=0\/k=1\/k=2\/k=3\/k=4\/k=5\/k=6\/k=7\/k=8:=by omega
def axQ(s:ByteArray):rJ s<64:=by
 unfold rJ;split
 ·rename_i k _;by_cases h:k<9
  ·obtain rfl|rfl|rfl|rfl|rfl|rfl|rfl|rfl|rfl:=nine h;all_goals decide
  ·rw [List.getD,nU (by simp [Jf];omega)];decide
 ·decide
def ajc{s:ByteArray}(h: ∀j,j<9->nth aw j≠s):xN s=none:=by unfold xN;rw [ak (fun e=>h 0 (by omega) e.symm),ak (fun e=>h 1 (by omega) e.symm),ak (fun e=>h 2 (by omega) e.symm),ak (fun e=>h 3 (by omega) e.symm),ak (fun e=>h 4 (by omega) e.symm),ak (fun e=>h 5 (by omega) e.symm),ak (fun e=>h 6 (by omega) e.symm),ak (fun e=>h 7 (by omega) e.symm),ak (fun e=>h 8 (by omega) e.symm)]
def Tq: ∀k:Fin 9,xN (nth aw k.val)=some k.val:=by decide +kernel
def rX(s:ByteArray):D:= .aL [.int .i64 (mf s),.int .i64 (rJ s),.bool (nK s)]
def X8(s:ByteArray):aH ay 180 none [.str s] (rX s) []:=by
 refine cB am8 aF1 ⟨trivial,trivial⟩ fun hfit=> ?_;clear hfit;unfold am8;refine aq (fun h=> ?_) (fun h0=> ?_)
 ·simp only [eS] at h;simp at h;subst h;exact az rfl
 refine aq (fun h=> ?_) (fun h1=> ?_)
 ·simp only [eS] at h;simp at h;subst h;exact az rfl
 refine aq (fun h=> ?_) (fun h2=> ?_)
 ·refine aq (fun _=> ?_) (fun h'=> ?_)
  ·simp only [eS] at h;simp at h;subst h;exact az rfl
  ·rw [h] at h';cases h'
 refine aq (fun h=> ?_) (fun h3=> ?_)
 ·simp only [eS] at h;simp at h;subst h;exact az rfl
 refine aq (fun h=> ?_) (fun h4=> ?_)
 ·simp only [eS] at h;simp at h;subst h;exact az rfl
 refine aq (fun h=> ?_) (fun h5=> ?_)
 ·simp only [eS] at h;simp at h;subst h;exact az rfl
 refine aq (fun h=> ?_) (fun h6=> ?_)
 ·simp only [eS] at h;simp at h;subst h;exact az rfl
 refine aq (fun h=> ?_) (fun h7=> ?_)
 ·simp only [eS] at h;simp at h;subst h;exact az rfl
 refine aq (fun h=> ?_) (fun h8=> ?_)
 ·simp only [eS] at h;simp at h;subst h;exact az rfl
 simp only [eS] at h0 h1 h2 h3 h4 h5 h6 h7 h8;simp at h0 h1 h2 h3 h4 h5 h6 h7 h8;have hn:xN s=none:=ajc fun j hj=>by obtain rfl|rfl|rfl|rfl|rfl|rfl|rfl|rfl|rfl:=nine hj;all_goals (intro e;first|exact h0 e.symm|exact h1 e.symm|exact h2 e.symm|exact h3 e.symm|exact h4 e.symm|exact h5 e.symm|exact h6 e.symm|exact h7 e.symm|exact h8 e.symm)
 exact az (by simp [E.den,rX,mf,rJ,nK,hn])
def Tr:E:= .put (.put (.put (.put (.put (.put (.put (.put (.put (.iB 9) (.aj (.ls ⟨#[112,108,97,105,110]⟩))) (.aj (.ls ⟨#[114,117,110,115]⟩))) (.aj (.ls ⟨#[107,101,101,112,115]⟩))) (.aj (.ls ⟨#[99,111,117,110,116,115]⟩))) (.aj (.ls ⟨#[108,97,122,121]⟩))) (.aj (.ls ⟨#[114,101,97,100,115]⟩))) (.aj (.ls ⟨#[104,101,97,114,115]⟩))) (.aj (.ls ⟨#[104,101,97,108,115]⟩))) (.aj (.ls ⟨#[116,119,105,99,101]⟩))
def aaE:E:= .put (.put (.put (.put (.put (.put (.put (.put (.put (.iB 3) (.aj (.li .i64 0))) (.aj (.li .i64 1))) (.aj (.li .i64 2))) (.aj (.li .i64 2))) (.aj (.li .i64 3))) (.aj (.li .i64 2))) (.aj (.li .i64 1))) (.aj (.li .i64 1))) (.aj (.li .i64 4))
def aaD:E:= .put (.put (.put (.put (.put (.put (.put (.put (.put (.iB 3) (.aj (.li .i64 0))) (.aj (.li .i64 1))) (.aj (.li .i64 2))) (.aj (.li .i64 6))) (.aj (.li .i64 3))) (.aj (.li .i64 2))) (.aj (.li .i64 9))) (.aj (.li .i64 33))) (.aj (.li .i64 4))
def aaC(env:List D):Tr.den env=ax aw:=rfl
def aje(env:List D):aaE.den env=ax (FR.map fun (n:Nat)=>(n:Int)):=rfl
def ajd(env:List D):aaD.den env=ax (Jf.map fun (n:Nat)=>(n:Int)):=rfl
def Yg(s:ByteArray):aH ay 182 none [.str s] (rX s) []:=by
 refine cB aHR aHk ⟨trivial,trivial⟩ fun hfit=> ?_;clear hfit;show VC.den _ _ (.loop [.one (.c (.int .i64))] [.li .i64 0] (.ite (.ic .lss (.var 1) (.len Tr)) (.rq (.cond [] (.dE Tr (.var 1))) (.ite (.sc .eql (.cell (.row [.str] Tr (.var 1)) 0) (.var 0)) (.rq (.cond [] (.dE aaE (.var 1))) (.rq (.cond [] (.dE aaD (.var 1))) (.ret (.aR (.aR (.aR .yc (.cell (.row [.int .i64] aaE (.var 1)) 0)) (.cell (.row [.int .i64] aaD (.var 1)) 0)) (.lb true)) []))) (.again 0 [.ar .add .i64 (.var 1) (.li .i64 1)]))) (.ret (.aR (.aR (.aR .yc (.li .i64 0)) (.li .i64 0)) (.lb false)) []))) _ _ _;have e9:aw.length=9:=rfl;refine eZ 9 (fun k=>[.int .i64 k]) (fun k=> ∀j,j<k->nth aw j≠s) rfl (by omega) ?_;intro k hk hI _;simp only [cA];apply aq<;>intro h2<;>simp only [eS,aaC,e9] at h2
 ·have h2:k<9:=by simp at h2;omega
  refine aX (fun _=> ?_) ?_
  ·simp only [eS,aaC,e9];simp;omega
  apply aq<;>intro h3<;>simp only [eS,aaC,gW,eB] at h3
  ·simp at h3;refine aX (fun _=> ?_) (aX (fun _=> ?_) ?_)
   ·simp only [eS,aje,cV];simp [FR];omega
   ·simp only [eS,ajd,cV];simp [Jf];omega
   refine az ?_;simp only [eS,aje,ajd,ak4,afJ];have hn:xN s=some k:=by rw [<-h3];exact Tq ⟨k,h2⟩
   simp only [rX,mf,rJ,nK,hn];obtain rfl|rfl|rfl|rfl|rfl|rfl|rfl|rfl|rfl:=nine h2;all_goals rfl
  ·simp at h3;refine dK h2 ?_ fun j hj=> ?_
   ·simp only [eS];rw [bW];rfl
   ·rcases dY j k with h|h
    ·exact hI j h
    ·obtain rfl:j=k:=by omega
     exact h3
 ·obtain rfl:k=9:=by simp at h2;omega
  refine az ?_;have hn:=ajc hI;simp [E.den,rX,mf,rJ,nK,hn]
def afs(s:ByteArray):aH ay 166 none [.str s] (.aL [.int .i64 (mf s),.bool (nK s)]) []:=by refine cB anC aGt ⟨trivial,trivial⟩ fun hfit=> ?_;unfold anC;refine aF (Yg s) ?_;exact az rfl
def aCC: ∀n m:Fin 64,((List.range 6).all fun k=> !(m.val.testBit k&& !n.val.testBit k))=decide (m.val &&& n.val=m.val):=by decide +kernel
def aCD: ∀n m:Fin 64,ba .eql (dJ .andNot .i64 ((m.val:Nat):Int) ((n.val:Nat):Int)) 0=decide (m.val &&& n.val=m.val):=by decide +kernel
def vV(a b:Int):aH ay 85 none [.int .i64 a,.int .i64 b] (.bool (cG a b)) []:=by
 refine cB anL aGC ⟨rfl,rfl,trivial⟩ fun hfit=> ?_;unfold anL;refine aF (Yb a) ?_;refine aF (Yb b) ?_;apply aq<;>intro h<;>simp only [eS] at h
 ·refine az ?_;simp only [E.den,D.bool.injEq];unfold cG;grind
 have ha:xL a=true:=by grind
 have hb:xL b=true:=by grind
 obtain ⟨n,rfl,hn⟩:=aiY ha;obtain ⟨m,rfl,hm⟩:=aiY hb;have ho:cG (n:Int) (m:Int)=((List.range 6).all fun k=> !(m.testBit k&& !n.testBit k)):=by unfold cG;rw [ha,hb,sS,sS,aCD ⟨n,hn⟩ ⟨m,hm⟩,aCC ⟨n,hn⟩ ⟨m,hm⟩]
 rw [ho];refine eZ 6 (fun k=>[.int .i64 k]) (fun k=> ∀j,j<k->(!(m.testBit j&& !n.testBit j))=true) rfl (by omega) ?_;intro k hk hI _;simp only [cA];apply aq<;>intro h2<;>simp only [eS] at h2
 ·have h2:k<6:=by simp at h2;omega
  refine aF (LD m k hm h2) ?_;refine aF (LD n k hn h2) ?_;apply aq<;>intro h3<;>simp only [eS] at h3
  ·refine az ?_;simp only [E.den,D.bool.injEq];symm;rw [List.all_eq_false];exact ⟨k,by simpa using h2,by rw [h3];simp⟩
  ·refine dK h2 ?_ fun j hj=> ?_
   ·simp only [eS];rw [bW];rfl
   ·rcases dY j k with h|h
    ·exact hI j h
    ·obtain rfl:j=k:=by omega
     rw [h3];rfl
 ·obtain rfl:k=6:=by simp at h2;omega
  refine az ?_;simp only [E.den,D.bool.injEq];symm;rw [fO];intro j hj;exact hI j (by simpa using hj)
def mJ(l:List Cell)(k:Nat):Bool:=jj (nth l k).key&&gH (nth l k).val&&(k==0||cU (nth l (k-1)).key (nth l k).key)
def iJ(l:List Cell):Bool:=decide (l.length<=4)&&fz (mJ l) l.length
def sub_one{k:Nat}(h:0<k)(hk:k<=9223372036854775807):(dJ .sub .i64 (k:Int) 1).toNat=k-1:=by rw [oV];omega
def avf(l:List Cell):aH ay 219 none [ax l] (.bool (iJ l)) []:=by
 refine cB amO aFI ⟨yd l,trivial⟩ fun hfit=> ?_;have hl:l.length<=9223372036854775807:=qM hfit.1;unfold amO;apply aq<;>intro h<;>simp only [eS] at h
 ·refine az ?_;simp only [E.den,D.bool.injEq];unfold iJ;grind
 have h4:l.length<=4:=by grind
 refine eZ l.length (fun k=>[.int .i64 k]) (fun k=>fz (mJ l) k=true) rfl rfl ?_;intro k hk hI _;simp only [cA];apply aq<;>intro h2<;>simp only [eS] at h2
 ·have h2:k<l.length:=by simp at h2;exact h2
  refine fZ ?_;refine aF (Q4 (nth l k).key) ?_;refine aF (K9 (nth l k).val) ?_;refine aX (fun hg=> ?_) ?_
  ·simp [cK,E.den,ba] at hg ⊢;rw [oV];omega
  apply aq<;>intro h3<;>simp only [eS,rf,lY] at h3
  ·have hb:mJ l k=false:=by
    unfold mJ;by_cases e:0<k
    ·rw [sub_one e (by omega)] at h3;grind
    ·grind
   refine az ?_;simp [E.den,iJ,xq h2 hb]
  ·have hb:mJ l k=true:=by
    unfold mJ;by_cases e:0<k
    ·rw [sub_one e (by omega)] at h3;grind
    ·grind
   refine dK h2 ?_ (show (fz (mJ l) k&&mJ l k)=true by rw [hI,hb];rfl);simp only [eS];rw [bW];rfl
 ·obtain rfl:k=l.length:=by simp at h2;omega
  exact az (by simp [E.den,iJ,hI,h4])
def X9(l:List Cell):aH ay 214 none [ax l] (.bool (iJ l)) []:=by
 refine cB ano aGi ⟨yd l,trivial⟩ fun hfit=> ?_;have hl:l.length<=9223372036854775807:=qM hfit.1;unfold ano;refine eZ l.length (fun k=>[.int .i64 k]) (fun k=>fz (mJ l) k=true) rfl rfl ?_;intro k hk hI _;simp only [cA];apply aq<;>intro h2<;>simp only [eS] at h2
 ·have h2:k<l.length:=by simp at h2;exact h2
  refine fZ ?_;refine aF (LB (nth l k).key) ?_;refine aX (fun hg=> ?_) ?_
  ·simp [cK,E.den,ba] at hg ⊢;rw [oV];omega
  apply aq<;>intro h3<;>simp only [eS,rf,lY] at h3
  ·have hb:mJ l k=false:=by
    unfold mJ gH;by_cases e:0<k
    ·rw [sub_one e (by omega)] at h3;grind
    ·grind
   refine az ?_;simp [E.den,iJ,xq h2 hb]
  ·have hb:mJ l k=true:=by
    unfold mJ gH;by_cases e:0<k
    ·rw [sub_one e (by omega)] at h3;grind
    ·grind
   refine dK h2 ?_ (show (fz (mJ l) k&&mJ l k)=true by rw [hI,hb];rfl);simp only [eS];rw [bW];rfl
 ·obtain rfl:k=l.length:=by simp at h2;omega
  refine az ?_;simp only [eS];simp only [iJ,hI,Bool.and_true,D.bool.injEq];grind
def uN(s:ByteArray):Core:=if kindOk s then ⟨s,false,false,[],0⟩ else ⟨⟨#[]⟩,false,false,[],0⟩
def avk(s:ByteArray):eA ay 179 none [.str s] (.aL [enc (uN s),.bool (kindOk s)]) [] [(3,2)]:=by
 refine iT amX aFQ ⟨trivial,trivial⟩ fun hfit=> ?_;unfold amX;refine aF (X7 s) ?_;apply aq<;>intro h<;>simp only [eS] at h
 ·have h:kindOk s=false:=by simpa using h
  exact az (by simp only [uN,h];rfl)
 ·have h:kindOk s=true:=by simpa using h
  exact az (by simp only [uN,h];rfl)
def avE(s:ByteArray):eA ay 181 none [.str s] (.aL [enc (uN s),.bool (kindOk s)]) [] [(3,2)]:=by
 refine iT anI aGz ⟨trivial,trivial⟩ fun hfit=> ?_;unfold anI;refine aF (Ih s) ?_;apply aq<;>intro h<;>simp only [eS] at h
 ·have h:kindOk s=false:=by simpa using h
  exact az (by simp only [uN,h];rfl)
 ·have h:kindOk s=true:=by simpa using h
  exact az (by simp only [uN,h];rfl)
def nj(p:Core):Bool:=kindOk p.kind&&iJ p.cells&&(p.cells.length==0||(eI p.kind).testBit 1)&&gH p.count&& !(p.on&&p.broken)&&((eI p.kind).testBit 0||(!p.on&& !p.broken))
def auW: ∀n:Fin 64,ba .eql (dJ .and .i64 ((n.val:Nat):Int) 2) 0= !n.val.testBit 1:=by decide +kernel
def auV: ∀n:Fin 64,ba .eql (dJ .and .i64 ((n.val:Nat):Int) 1) 1=n.val.testBit 0:=by decide +kernel
def avg(p:Core):aH ay 191 none [enc p] (.bool (nj p)) []:=by
 refine cB amP aFJ ⟨qo p,trivial⟩ fun hfit=> ?_;have b1:=auW ⟨eI p.kind,CV _⟩;have b0:=auV ⟨eI p.kind,CV _⟩;simp only [Yk] at b1 b0;unfold amP;refine aF (X7 p.kind) ?_;refine aF (avf p.cells) ?_;refine aF (K9 p.count) ?_;apply aq<;>intro h<;>simp only [eS,eY,b1] at h
 ·refine az ?_;simp only [E.den,D.bool.injEq];unfold nj;grind
 ·refine az ?_;simp only [eS,eY,b0];simp only [D.bool.injEq];unfold nj;grind
def afo(p:Core):aH ay 192 none [enc p] (.bool (nj p)) []:=by
 refine cB anp aGj ⟨qo p,trivial⟩ fun hfit=> ?_;unfold anp;refine aF (Ih p.kind) ?_;refine aF (LD (eI p.kind) 0 (CV _) (by omega)) ?_;refine aF (X9 p.cells) ?_;refine aF (LD (eI p.kind) 1 (CV _) (by omega)) ?_;apply aq<;>intro h<;>simp only [eS,eY] at h
 ·refine az ?_;simp only [E.den,D.bool.injEq];unfold nj gH;grind
 ·refine az ?_;simp only [eS,eY];simp only [D.bool.injEq];unfold nj gH;grind
def avp(p:Core)(h:p.cells.length<=4294967296):eA ay 142 none [enc p] (enc p) [] [(3,2)]:=by
 refine iT am4 aFW ⟨qo p,trivial⟩ fun hfit=> ?_;unfold am4;refine aX (fun _=> ?_) (az ?_)
 ·simp [E.den,eY,h]
 ·simp [E.den,eY,enc,ax]
def Ye(p:Core)(h:p.cells.length<=4294967296):eA ay 150 none [enc p] (enc p) [] [(3,2)]:=by
 refine iT aoi aG6 ⟨qo p,trivial⟩ fun hfit=> ?_;unfold aoi;refine aX (fun _=> ?_) (az ?_)
 ·simp [E.den,eY,h]
 ·simp [E.den,eY,enc,ax]
def avq(p:Part)(h:p.core.cells.length<=4294967296)(h':p.aw.length<=4294967296):eA ay 95 none [enc p] (enc p) [] [(3,2),(5,2)]:=by
 refine iT am5 aFX ⟨lT p,trivial⟩ fun hfit=> ?_;unfold am5;refine fQ (avp p.core h) (hty:=qo _) ?_;refine aX (fun _=> ?_) (az ?_)
 ·simp [E.den,ko,h']
 ·simp [E.den,ko,eY,enc,ax]
def Yf(p:Part)(h:p.core.cells.length<=4294967296)(h':p.aw.length<=4294967296):eA ay 99 none [enc p] (enc p) [] [(3,2),(5,2)]:=by
 refine iT aor aHf ⟨lT p,trivial⟩ fun hfit=> ?_;unfold aor;refine fQ (Ye p.core h) (hty:=qo _) ?_;refine aX (fun _=> ?_) (az ?_)
 ·simp [E.den,ko,h']
 ·simp [E.den,ko,eY,enc,ax]
def qe(s:ByteArray):Part:=⟨uN s,[]⟩
def avl(s:ByteArray):eA ay 126 none [.str s] (.aL [enc (qe s),.bool (kindOk s)]) [] [(3,2),(5,2)]:=by refine iT amY aFR ⟨trivial,trivial⟩ fun hfit=> ?_;unfold amY;refine fQ (avk s) (hty:=⟨qo _,trivial,trivial⟩) ?_;exact az rfl
def avG(s:ByteArray):eA ay 128 none [.str s] (.aL [enc (qe s),.bool (kindOk s)]) [] [(3,2),(5,2)]:=by refine iT anK aGB ⟨trivial,trivial⟩ fun hfit=> ?_;unfold anK;refine fQ (avE s) (hty:=⟨qo _,trivial,trivial⟩) ?_;exact az rfl
def fS(p:Part)(k:Nat):Nat:=if k=0 then eI p.core.kind else rJ (nth p.aw (k-1)).name
def Aj(p:Part)(k:Nat):fS p k<64:=by unfold fS;split;exact CV _;exact axQ _
def gb(p:Part):Nat:=fS p p.aw.length
def afm(p:Part)(k:Nat)(hk:k<=p.aw.length):aH ay 159 none [enc p,.int .i64 k] (.int .i64 (fS p k)) []:=by
 refine cB am6 aFY ⟨lT p,rfl,trivial⟩ fun hfit=> ?_;have hb:(k:Int)<=9223372036854775807:=hfit.2.1.2;unfold am6;apply aq<;>intro h<;>simp only [eS] at h
 ·have h:k=0:=by simp at h;exact h
  subst h;refine aF (X7 p.core.kind) ?_;exact az rfl
 ·have h:k≠0:=by simpa using h
  have e:=sub_one (k:=k) (by omega) (by omega);refine aX (fun _=> ?_) ?_
  ·simp [E.den,ko];rw [oV];omega
  refine aF (X8 (nth p.aw (k-1)).name) ?_ (ha:=by (simp only [gS,ko,Jw,Ae,e];try exact rfl));exact az (by simp [E.den,rX,fS,h])
def afx(p:Part)(k:Nat)(hk:k<=p.aw.length):aH ay 137 none [enc p,.int .i64 k] (.int .i64 (fS p k)) []:=by
 refine cB aos aHg ⟨lT p,rfl,trivial⟩ fun hfit=> ?_;have hb:(k:Int)<=9223372036854775807:=hfit.2.1.2;unfold aos;apply aq<;>intro h<;>simp only [eS] at h
 ·have h:k=0:=by simp at h;exact h
  subst h;refine aF (Ih p.core.kind) ?_;exact az rfl
 ·have h:k≠0:=by simpa using h
  have e:=sub_one (k:=k) (by omega) (by omega);refine aX (fun _=> ?_) ?_
  ·simp [E.den,ko];rw [oV];omega
  refine aF (Yg (nth p.aw (k-1)).name) ?_ (ha:=by (simp only [gS,ko,Jw,Ae,e];try exact rfl));exact az (by simp [E.den,rX,fS,h])
def X5(p:Part):aH ay 106 none [enc p] (.int .i64 (gb p)) []:=by refine cB amJ aFE ⟨lT p,trivial⟩ fun hfit=> ?_;unfold amJ;refine aF (afm p p.aw.length (bU _)) ?_;exact az rfl
def Ad(p:Part):aH ay 86 none [enc p] (.int .i64 (gb p)) []:=by refine cB anh aGc ⟨lT p,trivial⟩ fun hfit=> ?_;unfold anh;refine aF (afx p p.aw.length (bU _)) ?_;exact az rfl
def counts:ByteArray:=⟨#[99,111,117,110,116,115]⟩
def l8:ByteArray:=⟨#[104,101,97,114,115]⟩
def qR(p:Part)(k:Nat):Bool:=nK (nth p.aw k).name&&cG (fS p k) (mf (nth p.aw k).name)&&gH (nth p.aw k).count&&(decide ((nth p.aw k).count=0)||decide ((nth p.aw k).name=counts)||decide ((nth p.aw k).name=l8))
def di(p:Part):Bool:=nj p.core&&decide (p.aw.length<=3)&&fz (qR p) p.aw.length
def avh(p:Part):aH ay 145 none [enc p] (.bool (di p)) []:=by
 refine cB amT aFM ⟨lT p,trivial⟩ fun hfit=> ?_;unfold amT;refine aF (avg p.core) ?_;apply aq<;>intro h<;>simp only [eS,ko] at h
 ·refine az ?_;simp only [E.den,D.bool.injEq];unfold di;grind
 have hc:nj p.core=true:=by grind
 have h3:p.aw.length<=3:=by grind
 refine eZ p.aw.length (fun k=>[.int .i64 k]) (fun k=>fz (qR p) k=true) rfl rfl ?_;intro k hk hI _;simp only [cA];apply aq<;>intro h2<;>simp only [eS,ko] at h2
 ·have h2:k<p.aw.length:=by simp at h2;exact h2
  refine fZ ?_;refine aF (X8 (nth p.aw k).name) ?_;refine aF (afm p k hk) ?_;refine aF (afk (fS p k) (mf (nth p.aw k).name)) ?_ (ha:=by (simp only [gS,rX];try exact rfl));refine aF (K9 (nth p.aw k).count) ?_;apply aq<;>intro h3<;>simp only [eS,ko,Jw,Ae,rX] at h3
  ·have hb:qR p k=false:=by unfold qR counts l8;grind
   refine az ?_;simp [E.den,di,xq h2 hb]
  ·have hb:qR p k=true:=by unfold qR counts l8;grind
   refine dK h2 ?_ (show (fz (qR p) k&&qR p k)=true by rw [hI,hb];rfl);simp only [eS];rw [bW];rfl
 ·obtain rfl:k=p.aw.length:=by simp at h2;omega
  exact az (by simp [E.den,di,hI,hc,h3])
def Yd(p:Part):aH ay 152 none [enc p] (.bool (di p)) []:=by
 refine cB anx aGp ⟨lT p,trivial⟩ fun hfit=> ?_;unfold anx;refine aF (afo p.core) ?_;apply aq<;>intro h<;>simp only [eS,ko] at h
 ·refine az ?_;simp only [E.den,D.bool.injEq];unfold di;grind
 have hc:nj p.core=true:=by grind
 have h3:p.aw.length<=3:=by grind
 refine eZ p.aw.length (fun k=>[.int .i64 k]) (fun k=>fz (qR p) k=true) rfl rfl ?_;intro k hk hI _;simp only [cA];apply aq<;>intro h2<;>simp only [eS,ko] at h2
 ·have h2:k<p.aw.length:=by simp at h2;exact h2
  refine fZ ?_;refine aF (afs (nth p.aw k).name) ?_;refine aF (afx p k hk) ?_;refine aF (vV (fS p k) (mf (nth p.aw k).name)) ?_;apply aq<;>intro h3<;>simp only [eS,ko,Jw,Ae] at h3
  ·have hb:qR p k=false:=by unfold qR counts l8 gH;grind
   refine az ?_;simp [E.den,di,xq h2 hb]
  ·have hb:qR p k=true:=by unfold qR counts l8 gH;grind
   refine dK h2 ?_ (show (fz (qR p) k&&qR p k)=true by rw [hI,hb];rfl);simp only [eS];rw [bW];rfl
 ·obtain rfl:k=p.aw.length:=by simp at h2;omega
  exact az (by simp [E.den,di,hI,hc,h3])
def rep(code val want had:Int):gJ:=⟨code,val,⟨#[]⟩,want,had⟩
def j0(p:Part)(s:ByteArray):Part×gJ :=
 if di p=false\/nK s=false then (p,rep 7 0 0 0)
 else if 3<=p.aw.length then (p,rep 5 0 0 0)
 else if cG (gb p) (mf s)=false then (p,rep 1 0 (mf s) (gb p))
 else (⟨p.core,p.aw++[⟨s,0⟩]⟩,rep 0 (rJ s) 0 0)
def avo(p:Part)(s:ByteArray)(h1:p.core.cells.length<=4294967296)(h2:p.aw.length<=4294967295):eA ay 127 none [enc p,.str s] (.aL [enc (j0 p s).1,enc (j0 p s).2]) [] [(3,2),(5,2)]:=by
 refine iT am3 aFV ⟨lT p,trivial,trivial⟩ fun hfit=> ?_;unfold am3;refine fQ (avq p h1 (by omega)) (hty:=lT _) ?_;refine aF (X8 s) ?_;refine aF (avh p) ?_;apply aq<;>intro h<;>simp only [eS,rX] at h
 ·refine az ?_;unfold j0;rw [aA (by grind)];rfl
 have hn: ¬(di p=false\/nK s=false):=by grind
 apply aq<;>intro h3<;>simp only [eS,ko] at h3
 ·refine az ?_;unfold j0;rw [ak hn,aA (by grind)];rfl
 have hm: ¬3<=p.aw.length:=by grind
 refine aF (X5 p) ?_;refine aF (afk (gb p) (mf s)) ?_ (ha:=by (simp only [gS,rX];try exact rfl));apply aq<;>intro h4<;>simp only [eS] at h4
 ·refine aF (X5 p) ?_;refine az ?_;unfold j0;rw [ak hn,ak hm,aA (by grind)];rfl
 ·refine aX (fun _=> ?_) (az ?_)
  ·simp [E.den,ko];omega
  unfold j0;rw [ak hn,ak hm,ak (by grind)];simp [E.den,ko,enc,ax,Ae,rX,rep,Af]
def avR(p:Part)(s:ByteArray)(h1:p.core.cells.length<=4294967296)(h2:p.aw.length<=4294967295):eA ay 129 none [enc p,.str s] (.aL [enc (j0 p s).1,enc (j0 p s).2]) [] [(3,2),(5,2)]:=by
 refine iT anX aGM ⟨lT p,trivial,trivial⟩ fun hfit=> ?_;unfold anX;refine fQ (Yf p h1 (by omega)) (hty:=lT _) ?_;refine aF (Yg s) ?_;refine aF (Yd p) ?_;apply aq<;>intro h<;>simp only [eS,rX] at h
 ·refine az ?_;unfold j0;rw [aA (by grind)];rfl
 have hn: ¬(di p=false\/nK s=false):=by grind
 have hp3:p.aw.length<=3:=by
  have:di p=true:=by grind
  unfold di at this;grind
 apply aq<;>intro h3<;>simp only [eS,ko] at h3
 ·refine az ?_;unfold j0;rw [ak hn,aA (by grind)];rfl
 have hm: ¬3<=p.aw.length:=by grind
 refine aF (Ad p) ?_;refine aF (vV (gb p) (mf s)) ?_ (ha:=by (simp only [gS,rX];try exact rfl));apply aq<;>intro h4<;>simp only [eS] at h4
 ·refine aF (Ad p) ?_;refine az ?_;unfold j0;rw [ak hn,ak hm,aA (by grind)];rfl
 ·refine aX (fun _=> ?_) (az ?_)
  ·simp [E.den,ko];omega
  unfold j0;rw [ak hn,ak hm,ak (by grind)];simp [E.den,ko,enc,ax,Ae,rX,rep,Af]
def ajU:Part:=⟨⟨⟨#[]⟩,false,false,[],0⟩,[]⟩
def gI(l:List ByteArray):Nat->Part
 | 0=>qe (nth l 0)
 | k+1=>(j0 (gI l k) (nth l (k+1))).1
def rB(l:List ByteArray)(k:Nat):gJ:=(j0 (gI l k) (nth l (k+1))).2
def dG(p:Nat->Bool):Nat->Option Nat
 | 0=>none
 | n+1=>match dG p n with
  | some k=>some k
  | none=>if p n then some n else none
def Al{p:Nat->Bool}: ∀{n:Nat},(∀i,i<n->p i=false)->dG p n=none
 | 0,_=>rfl
 | n+1,h=>by have h1:=Al (n:=n) (fun i hi=>h i (by omega));simp [dG,h1,h n (by omega)]
def Am{p:Nat->Bool}{k:Nat}(hp:p k=true)(h: ∀i,i<k->p i=false): ∀{n:Nat},k<n->dG p n=some k
 | 0,hk=>by omega
 | n+1,hk=>by
  by_cases e:k=n
  ·subst e;simp [dG,Al h,hp]
  ·simp [dG,Am hp h (show k<n by omega)]
def du(l:List ByteArray):Part×gJ :=
 if l.length=0\/kindOk (nth l 0)=false then (ajU,rep 7 0 0 0)
 else match dG (fun k=> !decide ((rB l k).code=0)) (l.length-1) with
  | some k=>(ajU,rB l k)
  | none=>(gI l (l.length-1),rep 0 (gb (gI l (l.length-1))) 0 0)
def aIk{p:Part}{s:ByteArray}(h1:p.core.cells=[])(h2:p.aw.length<=3):(j0 p s).1.core.cells=[]/\(j0 p s).1.aw.length<=3:=by
 unfold j0;split
 ·exact ⟨h1,h2⟩
 split
 ·exact ⟨h1,h2⟩
 split
 ·exact ⟨h1,h2⟩
 ·refine ⟨h1,?_⟩;simp;omega
def D2(l:List ByteArray): ∀k,(gI l k).core.cells=[]/\(gI l k).aw.length<=3
 | 0=>by refine ⟨?_,by simp [gI,qe]⟩;simp only [gI,qe,uN];split<;>rfl
 | k+1=>aIk (D2 l k).1 (D2 l k).2
def Du(l:List ByteArray):List ByteArray:=(l.drop 1).take (l.length-1)
def ajY{l:List ByteArray}{k:Nat}(h:k<l.length-1):nth (Du l) k=nth l (k+1):=by
 have h':k+1<l.length:=by omega
 simp [nth,Du,List.getD,pV,h,Ck 1 k,cO h']
def Jg(l:List ByteArray):(Du l).length=l.length-1:=by simp [Du]
def afQ{env:List D}{l:List ByteArray}{e:E}(h:e.den env=ax l):(E.cut e (.li .i64 1) (.len e)).den env=ax (Du l):=by simp [E.den,h,qI,ax,Du,Ey,List.map_drop,dL]
def tJ(p:Part):List D:=[.str p.core.kind,.bool p.core.on,.bool p.core.broken,ax p.core.cells,.int .i64 p.core.count,ax p.aw]
def avj(l:List ByteArray):eA ay 74 none [ax l] (.aL [enc (du l).1,enc (du l).2]) [] [(3,2),(5,2)]:=by
 refine iT amW aFP ⟨lG l,trivial⟩ fun hfit=> ?_;have hl:l.length<=9223372036854775807:=qM hfit.1;unfold amW;apply aq<;>intro h<;>simp only [eS] at h
 ·refine az ?_;unfold du;rw [aA (.inl (by grind))];rfl
 have h0:l.length≠0:=by grind
 refine aX (fun _=> ?_) ?_
 ·simp [E.den];omega
 refine fQ (avl (nth l 0)) (hty:=⟨lT _,trivial,trivial⟩) ?_;apply aq<;>intro h2<;>simp only [eS] at h2
 ·refine az ?_;unfold du;rw [aA (.inr (by grind))];rfl
 have hk:kindOk (nth l 0)=true:=by grind
 have hmk: ¬(l.length=0\/kindOk (nth l 0)=false):=by grind
 refine aX (fun _=> ?_) ?_
 ·simp [E.den];omega
 refine eZ (l.length-1) (fun k=> .int .i64 k::tJ (gI l k)) (fun k=> ∀i,i<k->(!decide ((rB l i).code=0))=false) rfl (by omega) ?_;intro k hkn hI _;simp only [iH,iw,tJ];have ec: ∀(env:List D),(E.cut (.var 0) (.li .i64 1) (.len (.var 0))).den (ax l::env)=ax (Du l):=fun env=>afQ rfl;apply aq<;>intro h3
 ·have h3:k<l.length-1:=by have:(D.bool (ba .lss (k:Int) (dL ((E.cut (.var 0) (.li .i64 1) (.len (.var 0))).den (ax l:: .aL [enc (qe (nth l 0)),.bool (kindOk (nth l 0))]:: .int .i64 k::tJ (gI l k)))))).jZ=true:=h3;rw [ec,uw,Jg] at this;simp [ba] at this;omega
  refine aX (fun _=> ?_) ?_
  ·show D.bool (decide (0<=(k:Int)/\(k:Int)<dL ((E.cut (.var 0) (.li .i64 1) (.len (.var 0))).den (ax l:: .aL [enc (qe (nth l 0)),.bool (kindOk (nth l 0))]:: .int .i64 k::tJ (gI l k)))))= .bool true;rw [ec,uw,Jg];simp;omega
  refine Yv (xs:=[enc (gI l k),.str (nth l (k+1))]) ?_ (avo (gI l k) (nth l (k+1)) (by rw [(D2 l k).1];simp) (by have:=(D2 l k).2;omega)) (show bA _ _ _ from ⟨lT _,wV _,trivial⟩) ?_
  ·show [enc (gI l k),(E.cell (.row [.str] (.cut (.var 0) (.li .i64 1) (.len (.var 0))) (.var 2)) 0).den (ax l:: .aL [enc (qe (nth l 0)),.bool (kindOk (nth l 0))]:: .int .i64 k::tJ (gI l k))]=_;simp only [E.den,pU,qD,iF];have e:=ec (.aL [enc (qe (nth l 0)),.bool (kindOk (nth l 0))]:: .int .i64 k::tJ (gI l k));simp only [E.den,pU,qD,iF] at e;rw [e];simp only [eS,gW,eB,ajY h3]
  simp only [cA];apply aq<;>intro h4<;>simp only [eS,Af] at h4
  ·have hb:(!decide ((rB l k).code=0))=true:=by unfold rB;grind
   refine az ?_;unfold du;rw [ak hmk,Am hb hI h3];rfl
  ·have hb:(!decide ((rB l k).code=0))=false:=by unfold rB;grind
   refine dK h3 ?_ fun i hi=> ?_
   ·simp only [eS,ko];rw [bW];rfl
   ·rcases dY i k with h|h
    ·exact hI i h
    ·obtain rfl:i=k:=by omega
     exact hb
 ·have h3:k=l.length-1:=by have:(D.bool (ba .lss (k:Int) (dL ((E.cut (.var 0) (.li .i64 1) (.len (.var 0))).den (ax l:: .aL [enc (qe (nth l 0)),.bool (kindOk (nth l 0))]:: .int .i64 k::tJ (gI l k)))))).jZ=false:=h3;rw [ec,uw,Jg] at this;simp [ba] at this;omega
  subst h3;refine aF (X5 (gI l (l.length-1))) ?_;refine az ?_;unfold du;rw [ak hmk,Al hI];rfl
def Q6(l:List ByteArray):eA ay 75 none [ax l] (.aL [enc (du l).1,enc (du l).2]) [] [(3,2),(5,2)]:=by
 refine iT anE aGv ⟨lG l,trivial⟩ fun hfit=> ?_;have hl:l.length<=9223372036854775807:=qM hfit.1;unfold anE;apply aq<;>intro h<;>simp only [eS] at h
 ·refine az ?_;unfold du;rw [aA (.inl (by grind))];rfl
 have h0:l.length≠0:=by grind
 refine aX (fun _=> ?_) ?_
 ·simp [E.den];omega
 refine fQ (avG (nth l 0)) (hty:=⟨lT _,trivial,trivial⟩) ?_;apply aq<;>intro h2<;>simp only [eS] at h2
 ·refine az ?_;unfold du;rw [aA (.inr (by grind))];rfl
 have hk:kindOk (nth l 0)=true:=by grind
 have hmk: ¬(l.length=0\/kindOk (nth l 0)=false):=by grind
 refine aX (fun _=> ?_) ?_
 ·simp [E.den];omega
 refine eZ (l.length-1) (fun k=> .int .i64 k::tJ (gI l k)) (fun k=> ∀i,i<k->(!decide ((rB l i).code=0))=false) rfl (by omega) ?_;intro k hkn hI _;simp only [iH,iw,tJ];have ec: ∀(env:List D),(E.cut (.var 0) (.li .i64 1) (.len (.var 0))).den (ax l::env)=ax (Du l):=fun env=>afQ rfl;apply aq<;>intro h3
 ·have h3:k<l.length-1:=by have:(D.bool (ba .lss (k:Int) (dL ((E.cut (.var 0) (.li .i64 1) (.len (.var 0))).den (ax l:: .aL [enc (qe (nth l 0)),.bool (kindOk (nth l 0))]:: .int .i64 k::tJ (gI l k)))))).jZ=true:=h3;rw [ec,uw,Jg] at this;simp [ba] at this;omega
  refine aX (fun _=> ?_) ?_
  ·show D.bool (decide (0<=(k:Int)/\(k:Int)<dL ((E.cut (.var 0) (.li .i64 1) (.len (.var 0))).den (ax l:: .aL [enc (qe (nth l 0)),.bool (kindOk (nth l 0))]:: .int .i64 k::tJ (gI l k)))))= .bool true;rw [ec,uw,Jg];simp;omega
  refine Yv (xs:=[enc (gI l k),.str (nth l (k+1))]) ?_ (avR (gI l k) (nth l (k+1)) (by rw [(D2 l k).1];simp) (by have:=(D2 l k).2;omega)) (show bA _ _ _ from ⟨lT _,wV _,trivial⟩) ?_
  ·show [enc (gI l k),(E.cell (.row [.str] (.cut (.var 0) (.li .i64 1) (.len (.var 0))) (.var 2)) 0).den (ax l:: .aL [enc (qe (nth l 0)),.bool (kindOk (nth l 0))]:: .int .i64 k::tJ (gI l k))]=_;simp only [E.den,pU,qD,iF];have e:=ec (.aL [enc (qe (nth l 0)),.bool (kindOk (nth l 0))]:: .int .i64 k::tJ (gI l k));simp only [E.den,pU,qD,iF] at e;rw [e];simp only [eS,gW,eB,ajY h3]
  simp only [cA];apply aq<;>intro h4<;>simp only [eS,Af] at h4
  ·have hb:(!decide ((rB l k).code=0))=true:=by unfold rB;grind
   refine az ?_;unfold du;rw [ak hmk,Am hb hI h3];rfl
  ·have hb:(!decide ((rB l k).code=0))=false:=by unfold rB;grind
   refine dK h3 ?_ fun i hi=> ?_
   ·simp only [eS,ko];rw [bW];rfl
   ·rcases dY i k with h|h
    ·exact hI i h
    ·obtain rfl:i=k:=by omega
     exact hb
 ·have h3:k=l.length-1:=by have:(D.bool (ba .lss (k:Int) (dL ((E.cut (.var 0) (.li .i64 1) (.len (.var 0))).den (ax l:: .aL [enc (qe (nth l 0)),.bool (kindOk (nth l 0))]:: .int .i64 k::tJ (gI l k)))))).jZ=false:=h3;rw [ec,uw,Jg] at this;simp [ba] at this;omega
  subst h3;refine aF (Ad (gI l (l.length-1))) ?_;refine az ?_;unfold du;rw [ak hmk,Al hI];rfl
def Di(l:List ByteArray):Int:=if (du l).2.code=0 then (du l).2.val else 0
def gO(l:List ByteArray):Bool:=decide ((du l).2.code=0)
def avn(l:List ByteArray):aH ay 34 none [ax l] (.aL [.int .i64 (Di l),.bool (gO l)]) []:=by
 refine cB am2 aFU ⟨lG l,trivial⟩ fun hfit=> ?_;unfold am2;refine fQ (avj l) (hty:=⟨lT _,wV _,trivial⟩) ?_;apply aq<;>intro h<;>simp only [eS,Af] at h
 ·have h: ¬(du l).2.code=0:=by grind
  exact az (by simp [E.den,Di,gO,h])
 ·have h:(du l).2.code=0:=by grind
  exact az (by simp [E.den,Di,gO,h,Af])
def Cq(l:List ByteArray):aH ay 35 none [ax l] (.aL [.int .i64 (Di l),.bool (gO l)]) []:=by
 refine cB anQ aGG ⟨lG l,trivial⟩ fun hfit=> ?_;unfold anQ;refine fQ (Q6 l) (hty:=⟨lT _,wV _,trivial⟩) ?_;apply aq<;>intro h<;>simp only [eS,Af] at h
 ·have h: ¬(du l).2.code=0:=by grind
  exact az (by simp [E.den,Di,gO,h])
 ·have h:(du l).2.code=0:=by grind
  exact az (by simp [E.den,Di,gO,h,Af])
def aV:ByteArray:=⟨#[]⟩
def FX(n:nS):Bool:=xL n.kY&& !decide (n.kY=0)&&(decide (n.jS=aV)||jj n.jS)&&n.least.ok
def Yc(n:nS):aH ay 202 none [enc n] (.bool (FX n)) []:=by refine cB anw aGo ⟨NT n,trivial⟩ fun hfit=> ?_;unfold anw;refine aF (Yb n.kY) ?_;refine aF (LB n.jS) ?_;refine aF (afq n.least) ?_;refine az ?_;simp only [eS,E3];simp only [D.bool.injEq];unfold FX aV;grind
def zi(e:Entry)(k:Nat):Bool:=FX (nth e.needs k)&& !decide ((nth e.needs k).jS=e.name)
def pj(e:Entry):Bool:=gO e.recipe&&jj e.name&&e.kF.ok&&decide (e.needs.length<=3)&&fz (zi e) e.needs.length
def afp(e:Entry):aH ay 164 none [enc e] (.bool (pj e)) []:=by
 refine cB anq aGk ⟨JE e,trivial⟩ fun hfit=> ?_;unfold anq;refine aF (Cq e.recipe) ?_;refine aF (LB e.name) ?_;refine aF (afq e.kF) ?_;apply aq<;>intro h<;>simp only [eS,nW] at h
 ·refine az ?_;simp only [E.den,D.bool.injEq];unfold pj;grind
 have h1:gO e.recipe=true:=by grind
 have h2:jj e.name=true:=by grind
 have h3:e.kF.ok=true:=by grind
 have h4:e.needs.length<=3:=by grind
 refine eZ e.needs.length (fun k=>[.int .i64 k]) (fun k=>fz (zi e) k=true) rfl rfl ?_;intro k hk hI _;simp only [cA];apply aq<;>intro h5<;>simp only [eS,nW] at h5
 ·have h5:k<e.needs.length:=by simp at h5;exact h5
  refine fZ ?_;refine aF (Yc (nth e.needs k)) ?_;apply aq<;>intro h6<;>simp only [eS,nW,abp,E3] at h6
  ·have hb:zi e k=false:=by unfold zi;grind
   refine az ?_;simp [E.den,pj,xq h5 hb]
  ·have hb:zi e k=true:=by unfold zi;grind
   refine dK h5 ?_ (show (fz (zi e) k&&zi e k)=true by rw [hI,hb];rfl);simp only [eS];rw [bW];rfl
 ·obtain rfl:k=e.needs.length:=by simp at h5;omega
  exact az (by simp [E.den,pj,hI,h1,h2,h3,h4])
def aaO(a b:qB):Bool:=decide (a.qb=b.qb)&&decide (b.min<=a.min)
def avC(a b:qB):aH ay 226 none [enc a,enc b] (.bool (aaO a b)) []:=by refine cB anF aGw ⟨UN a,UN b,trivial⟩ fun hfit=> ?_;unfold anF;refine az ?_;simp only [eS,afI];simp only [D.bool.injEq];unfold aaO;grind
def abE(e:Entry)(n:nS):Bool:=pj e&&FX n&&(decide (n.jS=aV)||decide (n.jS=e.name))&&cG (Di e.recipe) n.kY&&aaO e.kF n.least
def avL(e:Entry)(n:nS):aH ay 200 none [enc e,enc n] (.bool (abE e n)) []:=by refine cB anS aGI ⟨JE e,NT n,trivial⟩ fun hfit=> ?_;unfold anS;refine aF (Cq e.recipe) ?_;refine aF (afp e) ?_;refine aF (Yc n) ?_;refine aF (vV (Di e.recipe) n.kY) ?_;refine aF (avC e.kF n.least) ?_;refine az ?_;simp only [eS,E3,nW];simp only [D.bool.injEq];unfold abE aV;grind
def qL(l:List Entry)(k:Nat):Bool:=pj (nth l k)&&(k==0||cU (nth l (k-1)).name (nth l k).name)
def cW(l:List Entry):Bool:=decide (l.length<=6)&&fz (qL l) l.length
def Ig(l:List Entry):aH ay 111 none [ax l] (.bool (cW l)) []:=by
 refine cB anz aGq ⟨rp l,trivial⟩ fun hfit=> ?_;have hl:l.length<=9223372036854775807:=qM hfit.1;unfold anz;refine eZ l.length (fun k=>[.int .i64 k]) (fun k=>fz (qL l) k=true) rfl rfl ?_;intro k hk hI _;simp only [cA];apply aq<;>intro h2<;>simp only [eS] at h2
 ·have h2:k<l.length:=by simp at h2;exact h2
  refine fZ ?_;refine aF (afp (nth l k)) ?_;refine aX (fun hg=> ?_) ?_
  ·simp [cK,E.den,ba] at hg ⊢;rw [oV];omega
  apply aq<;>intro h3<;>simp only [eS,uZ,nW] at h3
  ·have hb:qL l k=false:=by
    unfold qL;by_cases e:0<k
    ·rw [sub_one e (by omega)] at h3;grind
    ·grind
   refine az ?_;simp [E.den,cW,xq h2 hb]
  ·have hb:qL l k=true:=by
    unfold qL;by_cases e:0<k
    ·rw [sub_one e (by omega)] at h3;grind
    ·grind
   refine dK h2 ?_ (show (fz (qL l) k&&qL l k)=true by rw [hI,hb];rfl);simp only [eS];rw [bW];rfl
 ·obtain rfl:k=l.length:=by simp at h2;omega
  refine az ?_;simp only [eS];simp only [cW,hI,Bool.and_true,D.bool.injEq];grind
def Jq(l:List Entry)(s:ByteArray)(n:nS)(k:Nat):Bool:= !decide ((nth l k).name=s)&&abE (nth l k) n
def Jr(l:List Entry)(s:ByteArray)(n:nS):Option Nat:=dG (Jq l s n) l.length
def F9(l:List Entry)(s:ByteArray)(n:nS):ByteArray:=match Jr l s n with|some k=>(nth l k).name|none=>aV
def ux{p:Nat->Bool}{k:Nat}: ∀{n:Nat},dG p n=some k->k<n/\p k=true/\ ∀i,i<k->p i=false
 | 0,h=>by cases h
 | n+1,h=>by
  simp only [dG] at h;split at h
  ·rename_i j hj;cases h;obtain ⟨h1,h2,h3⟩:=ux hj;exact ⟨by omega,h2,h3⟩
  ·rename_i hj;split at h
   ·rename_i hp;cases h;refine ⟨by omega,hp,fun i hi=> ?_⟩;cases hb:p i with
    | false=>rfl
    | true =>
     exfalso;have: ∀{n:Nat},dG p n=none-> ∀i,i<n->p i=false:=by
      intro n;induction n with
      | zero=>intro _ i hi;omega
      | succ n ih =>
       intro h i hi;simp only [dG] at h;split at h
       ·cases h
       ·rename_i hn;split at h
        ·cases h
        ·rename_i hp;by_cases e:i=n
         ·subst e;simpa using hp
         ·exact ih hn i (by omega)
     rw [this hj i hi] at hb;cases hb
   ·cases h
def afu(l:List Entry)(s:ByteArray)(n:nS):aH ay 163 none [ax l,.str s,enc n] (.str (F9 l s n)) []:=by
 refine cB anO aGE ⟨rp l,trivial,NT n,trivial⟩ fun hfit=> ?_;have hl:l.length<=9223372036854775807:=qM hfit.1;unfold anO;refine eZ l.length (fun k=>[.int .i64 k]) (fun k=> ∀i,i<k->Jq l s n i=false) rfl (by omega) ?_;intro k hk hI _;simp only [cA];apply aq<;>intro h2<;>simp only [eS] at h2
 ·have h2:k<l.length:=by simp at h2;exact h2
  refine fZ ?_;refine aF (avL (nth l k) n) ?_;apply aq<;>intro h3<;>simp only [eS,uZ,nW] at h3
  ·have hb:Jq l s n k=true:=by unfold Jq;grind
   refine az ?_;simp only [eS,uZ,nW];simp [F9,Jr,Am hb hI h2]
  ·have hb:Jq l s n k=false:=by unfold Jq;grind
   refine dK h2 ?_ fun i hi=> ?_
   ·simp only [eS];rw [bW];rfl
   ·rcases dY i k with h|h
    ·exact hI i h
    ·obtain rfl:i=k:=by omega
     exact hb
 ·obtain rfl:k=l.length:=by simp at h2;omega
  exact az (by simp [E.den,F9,Jr,Al hI,aV])
def alg{w':World}{M:Addr->Prop}{b:Nat}(hM: ∀o,¬M ⟨b,o,none⟩): ∀(l:List ByteArray) (k:Nat),(∀i (h:i<l.length),w'.cell? ⟨b,k+i,none⟩=some (.string l[i]))->(∀s,s∈l->s.size<=maxLen)->iU w' M (l.map aE.cells) b k
 | [],_,_,_=>by simp [iU]
 | s::l,k,h,hs=>by simp only [kU,iU,eB,Rw,R,vR];refine ⟨⟨_,h 0 (by simp),hM _,rfl,hs s (by simp)⟩,alg hM l (k+1) (fun i hi=> ?_) fun s' h'=>hs s' (by simp [h'])⟩;have:=h (i+1) (by simp;omega);rw [show k+(i+1)=k+1+i by omega] at this;simpa using this
def Ek{w':World}{M:Addr->Prop}{cs:Array Value}{T b n:Nat}(l:List ByteArray)(h:w'.heap[b]? =some (.cells cs T))(hcs:cs=(l.map Value.string).toArray)(hn:n=l.length)(hM: ∀o,¬M ⟨b,o,none⟩)(hs: ∀s,s∈l->s.size<=maxLen)(hl:l.length<=maxLen) :
  R w' M (ax l) (.slice (some ⟨b,0,none⟩) n n):=by
 subst hn;refine ⟨_,_,_,rfl,by simp,bU _,hl,fun h=>by (cases h),?_⟩;intro b' o s e;cases e;refine ⟨fun _=>rfl,alg hM l 0 (fun i hi=> ?_) hs⟩;simp [World.cell?,h,hcs,hi]
def rN{w:World}{o o':Obj}{b:Nat}(h:w.heap[b]? =some o):(w.alloc o').heap[b]? =some o:=by
 have hb:b<w.heap.size:=by
  rcases dY b w.heap.size with h'|h'
  ·exact h'
  ·rw [yC h'] at h;cases h
 exact (Ku w o' b hb).trans h
def Fv{w:World}{o:Obj}{b:Nat}(h:b=w.heap.size):(w.alloc o).heap[b]? =some o:=by subst h;show (w.heap.push o)[w.heap.size]? =_;simp
def hasB(l:List ByteArray)(s:ByteArray):Bool:=l.any fun t=>decide (t=s)
def avr(l:List ByteArray)(s:ByteArray):aH ay 45 none [ax l,.str s] (.bool (hasB l s)) []:=by
 refine cB am7 aFZ ⟨lG l,trivial,trivial⟩ fun hfit=> ?_;have hl:l.length<=9223372036854775807:=qM hfit.1;unfold am7;refine eZ l.length (fun k=>[.int .i64 k]) (fun k=> ∀i,i<k->nth l i≠s) rfl (by omega) ?_;intro k hk hI _;simp only [cA];apply aq<;>intro h2<;>simp only [eS] at h2
 ·have h2:k<l.length:=by simp at h2;exact h2
  refine fZ ?_;apply aq<;>intro h3<;>simp only [eS,gW,eB] at h3
  ·have hb:hasB l s=true:=by
    unfold hasB;rw [uf];refine ⟨s,?_,by simp⟩;have:nth l k=s:=by grind
    rw [<-this,nth,kK,cO h2];simp
   exact az (by simp [E.den,hb])
  ·refine dK h2 ?_ fun i hi=> ?_
   ·simp only [eS];rw [bW];rfl
   ·rcases dY i k with h|h
    ·exact hI i h
    ·obtain rfl:i=k:=by omega
     grind
 ·obtain rfl:k=l.length:=by simp at h2;omega
  have hb:hasB l s=false:=by unfold hasB;rw [List.any_eq_false];intro t h;obtain ⟨i,hi,rfl⟩:=yE h;have:=hI i hi;simpa [nth,kK,hi] using this
  exact az (by simp [E.den,hb])
def mH(l:List ByteArray)(s:ByteArray):aH ay 50 none [ax l,.str s] (.bool (hasB l s)) []:=by
 refine cB an0 aGP ⟨lG l,trivial,trivial⟩ fun hfit=> ?_;have hl:l.length<=9223372036854775807:=qM hfit.1;unfold an0;refine eZ l.length (fun k=>[.int .i64 k]) (fun k=> ∀i,i<k->nth l i≠s) rfl (by omega) ?_;intro k hk hI _;simp only [cA];apply aq<;>intro h2<;>simp only [eS] at h2
 ·have h2:k<l.length:=by simp at h2;exact h2
  refine fZ ?_;apply aq<;>intro h3<;>simp only [eS,gW,eB] at h3
  ·have hb:hasB l s=true:=by
    unfold hasB;rw [uf];refine ⟨s,?_,by simp⟩;have:nth l k=s:=by grind
    rw [<-this,nth,kK,cO h2];simp
   exact az (by simp [E.den,hb])
  ·refine dK h2 ?_ fun i hi=> ?_
   ·simp only [eS];rw [bW];rfl
   ·rcases dY i k with h|h
    ·exact hI i h
    ·obtain rfl:i=k:=by omega
     grind
 ·obtain rfl:k=l.length:=by simp at h2;omega
  have hb:hasB l s=false:=by unfold hasB;rw [List.any_eq_false];intro t h;obtain ⟨i,hi,rfl⟩:=yE h;have:=hI i hi;simpa [nth,kK,hi] using this
  exact az (by simp [E.den,hb])
end
end Go.Proofs.YtekplmpbkgchfaaGreatDoor
