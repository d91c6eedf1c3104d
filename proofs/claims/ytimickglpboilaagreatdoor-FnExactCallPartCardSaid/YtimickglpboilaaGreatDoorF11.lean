/- Writing marks into memory of one's own: what stays, what the shape of data is, a row of leaves with one cell written. No program in sight. -/
import Derived.Test.YtimickglpboilaaGreatDoorF10
import Derived.PlainAid
import Derived.Test.YtimickglpboilaaGreatDoorF0
import Derived.Lib.Split
import Derived.Lib.Join
import Derived.Lib.Atoi
import Derived.Lib.ItoaNum
set_option linter.unusedVariables false
set_option linter.unusedSimpArgs false
set_option linter.unusedSectionVars false
set_option maxRecDepth 100000
namespace Go.Proofs.YtimickglpboilaaGreatDoor
section
open Go.RowKit Go
variable [GC]
def xn(u u':Value):Prop:=u'=u\/(∃s s':ByteArray,u= .string s/\u'= .string s'/\s'.size<=maxLen)\/ ∃(k:IntKind) (n n':Int),u= .int k n/\u'= .int k n'/\k.min<=n'/\n'<=k.max
theorem xn.trans{a b c:Value}(h:xn a b)(h':xn b c):xn a c:=by
 rcases h with rfl|⟨s,s',rfl,rfl,h⟩|⟨k,n,n',rfl,rfl,h⟩
 ·exact h'
 ·rcases h' with rfl|⟨t,t',e,rfl,h'⟩|⟨k,n,n',e,_⟩
  ·exact .inr (.inl ⟨s,s',rfl,rfl,h⟩)
  ·exact .inr (.inl ⟨s,t',rfl,rfl,h'⟩)
  ·cases e
 ·rcases h' with rfl|⟨t,t',e,_⟩|⟨k',m,m',e,rfl,h'⟩
  ·exact .inr (.inr ⟨k,n,n',rfl,rfl,h⟩)
  ·cases e
  ·cases e
   exact .inr (.inr ⟨k,n,m',rfl,rfl,h'⟩)
structure Alt(A:Addr->Prop)(w w':World):Prop where
 size:w.heap.size<=w'.heap.size
 xP: ∀p:Addr,p.block<w.heap.size->w'.frozen? p=w.frozen? p
 keep: ∀p v,w.cell? p=some v-> ¬A p->w'.cell? p=some v
 same: ∀p u,w.cell? p=some u-> ∃u',w'.cell? p=some u'/\xn u u'
 env:w'.os=w.os/\w'.tape=w.tape/\w'.output=w.output
 blk: ∀k,k<w.heap.size->(∀p:Addr,p.block=k-> ¬A p)->w'.heap[k]? =w.heap[k]?
theorem Alt.refl(A:Addr->Prop)(w:World):Alt A w w:=⟨Nat.le_refl _,fun _ _=>rfl,fun _ _ h _=>h,fun _ u h=>⟨u,h,.inl rfl⟩,⟨rfl,rfl,rfl⟩,fun _ _ _=>rfl⟩
theorem Alt.trans{A:Addr->Prop}{w w' w'':World}(h:Alt A w w')(h':Alt A w' w''):Alt A w w'' where
 size:=Nat.le_trans h.size h'.size
 xP:=fun p hp=>by rw [h'.xP p (Nat.lt_of_lt_of_le hp h.size),h.xP p hp]
 keep:=fun p v hp ha=>h'.keep p v (h.keep p v hp ha) ha
 same:=fun p u hp=>by
  obtain ⟨u1,h1,h2⟩:=h.same p u hp
  obtain ⟨u2,h3,h4⟩:=h'.same p u1 h1
  exact ⟨u2,h3,h2.trans h4⟩
 env:=⟨h'.env.1.trans h.env.1,h'.env.2.1.trans h.env.2.1,h'.env.2.2.trans h.env.2.2⟩
 blk:=fun k hk ha=>(h'.blk k (Nat.lt_of_lt_of_le hk h.size) ha).trans (h.blk k hk ha)
theorem Alt.mono{A A':Addr->Prop}{w w':World}(h:Alt A w w')(hA: ∀p,p.block<w.heap.size->A p->A' p):Alt A' w w' :=
 ⟨h.size,h.xP,fun p v hp ha=>h.keep p v hp fun h=>ha (hA p (block_lt_of_cell hp) h),h.same,h.env,fun k hk ha=>h.blk k hk fun p hp hq=>ha p hp (hA p (by rw [hp];exact hk) hq)⟩
theorem Dh{w w':World}{p:Addr}(h:w'.heap[p.block]? =w.heap[p.block]?):w'.frozen? p=w.frozen? p:=by
 unfold World.frozen?;rw [h]
theorem Alt.below{A:Addr->Prop}{w w':World}(h:Below w.heap.size w w'):Alt A w w' :=
 ⟨h.size,fun p hp=>Dh (h.block p.block hp),fun p v hp _=>by rw [h.cell (block_lt_of_cell hp)];exact hp,fun p u hp=>⟨u,by rw [h.cell (block_lt_of_cell hp)];exact hp,.inl rfl⟩,⟨h.os,h.tape,h.output⟩,fun k hk _=>h.block k hk⟩
theorem Fq{w:World}{a p:Addr}{v:Value}(h:p≠a)(hs:a.spot=none)(hp:p.spot=none\/True):(w.setCell a v).cell? p=w.cell? p\/(p.block=a.block/\p.off=a.off):=by
 by_cases hb:p.block=a.block
 ·by_cases ho:p.off=a.off
  ·exact .inr ⟨hb,ho⟩
  ·left
   unfold World.cell? World.setCell
   rw [hb]
   simp only [Array.getElem?_modify]
   cases hw:w.heap[a.block]? with
   | none=>simp
   | some x =>
    cases x with
    | cells c e f =>
     simp only [hs,Option.isSome_none,Option.map_some,if_true]
     split
     ·rfl
     ·simp [Array.getElem?_setIfInBounds,Ne.symm ho]
    | _=>simp
 ·left
  exact World.cell?_of_block (Below.heap_setCell _ _ _ _ hb)
theorem Cz{w:World}{p:Addr}{v:Value}(h:w.cell? p=some v):p.spot=none:=by
 unfold World.cell? at h
 split at h
 ·split at h
  ·cases h
  ·rename_i hs;simpa using hs
 ·cases h
theorem Ku{w:World}{a:Addr}{u v:Value}(h:w.cell? a=some u):(w.setCell a v).cell? a=some v:=by
 have hs:=Cz h
 unfold World.cell? World.setCell at *
 simp only [Array.getElem?_modify,if_true]
 cases hw:w.heap[a.block]? with
 | none=>rw [hw] at h;cases h
 | some x =>
  rw [hw] at h
  cases x with
  | cells c e f =>
   simp only [hs,Option.isSome_none,Bool.false_eq_true,if_false,Option.map_some] at h ⊢
   have:=(Array.getElem?_eq_some_iff.1 h).1
   simp [Array.getElem?_setIfInBounds,this]
  | _=>cases h
theorem size_setCell(w:World)(a:Addr)(v:Value):(w.setCell a v).heap.size=w.heap.size:=by unfold World.setCell;simp
theorem Xd(w:World)(a p:Addr)(v:Value):(w.setCell a v).frozen? p=w.frozen? p:=by
 unfold World.frozen? World.setCell
 simp only [Array.getElem?_modify]
 by_cases hb:a.block=p.block
 ·simp only [hb,if_true]
  cases hw:w.heap[p.block]? with
  | none=>simp
  | some x=>cases x<;>simp
 ·simp [hb]
theorem Alt.set{A:Addr->Prop}{w:World}{a:Addr}{u v:Value}(hA:A a)(h:w.cell? a=some u)(hs:xn u v):Alt A w (w.setCell a v):=by
 have hsp:=Cz h
 refine ⟨by rw [size_setCell];exact Nat.le_refl _,fun p _=>Xd _ _ _ _,fun p x hp ha=> ?_,fun p x hp=> ?_,⟨rfl,rfl,rfl⟩,fun k _ ha=>Below.heap_setCell _ _ _ _ fun e=>ha a e.symm hA⟩
 ·rcases Fq (w:=w) (v:=v) (p:=p) (a:=a) (fun e=>ha (by rw [e];exact hA)) hsp (.inr trivial) with h1|⟨h1,h2⟩
  ·rw [h1];exact hp
  ·have h3:=Cz hp
   have:p=a:=by cases p;cases a;simp_all
   exact absurd (this.symm▸hA) ha
 ·by_cases e:p=a
  ·subst e
   rw [h] at hp;cases hp
   exact ⟨v,Ku h,hs⟩
  ·rcases Fq (w:=w) (v:=v) (p:=p) (a:=a) e hsp (.inr trivial) with h1|⟨h1,h2⟩
   ·exact ⟨x,by rw [h1];exact hp,.inl rfl⟩
   ·have h3:=Cz hp
    exact absurd (by cases p;cases a;simp_all) e
theorem Alt.keeps{A M M':Addr->Prop}{w w':World}(h:Alt A w w')(hA: ∀p,A p->M p)(hM: ∀p,p.block<w.heap.size->M' p->M p):bo w M w' M' :=
 fun p v hp hn=>⟨h.keep p v hp fun ha=>hn (hA p ha),fun hm=>hn (hM p (block_lt_of_cell hp) hm)⟩
theorem R.up{w:World}{M:Addr->Prop}{d:D}{v:Value}(h:R w M d v):R w (fun p=>M p\/w.heap.size<=p.block) d v :=
 R.keep (fun p v hp hn=>⟨hp,fun hm=>hm.elim hn fun h=>by have:=block_lt_of_cell hp;omega⟩) d v h
theorem R.less{w:World}{M M':Addr->Prop}{d:D}{v:Value}(h:R w M d v)(hM: ∀p,M' p->M p):R w M' d v :=
 R.keep (fun p v hp hn=>⟨hp,fun hm=>hn (hM p hm)⟩) d v h
section
variable {w w':World}{A M M':Addr->Prop}
end
def yT:D->Bool
 | .bool _| .int _ _| .str _=>true
 | _=>false
theorem aal{w w':World}{M M':Addr->Prop}{d:D}{v:Value}(hl:yT d=true)(h:R w M d v):R w' M' d v:=by
 cases d<;>simp [yT] at hl<;>exact h
theorem tC{w:World}{M:Addr->Prop}{rows:List (List D)}{n b o len cap:Nat}{s:Option Nat}(hn: ∀r∈rows,r.length=n)(h:R w M (.sl rows) (.slice (some ⟨b,o,s⟩) len cap)){i j:Nat}{r:List D}{d:D}(hi:rows[i]? =some r)(hj:r[j]? =some d) :
  ∃u,w.cell? ⟨b,o+i*n+j,none⟩=some u/\ ¬M ⟨b,o+i*n+j,none⟩/\R w M d u:=by
 obtain ⟨a,len',cap',e,h1,h2,h3,h4,h5⟩:=h
 cases e
 exact ((h5 b o s rfl).2.get hn hi).get hj
theorem LW{w:World}{M:Addr->Prop}{rows:List (List D)}{n b o len cap:Nat}{s:Option Nat}(hn: ∀r∈rows,r.length=n)(h1:len=rows.length)(h2:len<=cap)(h3:cap<=maxLen)(h4:0<len->s=none)
  (hc: ∀(i j:Nat) (r:List D) (d:D),rows[i]? =some r->r[j]? =some d-> ∃u,w.cell? ⟨b,o+i*n+j,none⟩=some u/\ ¬M ⟨b,o+i*n+j,none⟩/\R w M d u):R w M (.sl rows) (.slice (some ⟨b,o,s⟩) len cap):=by
 refine ⟨_,_,_,rfl,h1,h2,h3,(fun e=>by cases e),fun b' o' s' e=> ?_⟩
 cases e
 exact ⟨h4,dF.of hn fun i r hr=>Rw.of fun j d hd=>hc i j r d hr hd⟩
theorem LY{w:World}{M:Addr->Prop}{rows:List (List D)}{n b o len cap i j:Nat}{s:Option Nat}{r:List D}{x:D}{u:Value}(hn: ∀r∈rows,r.length=n)(hlf: ∀r∈rows,∀d∈r,yT d=true)
  (h:R w M (.sl rows) (.slice (some ⟨b,o,s⟩) len cap)) (hi:rows[i]? =some r) (hj:j<n) (hx: ∀(w:World) (M:Addr->Prop),R w M x u) :
  R (w.setCell ⟨b,o+i*n+j,none⟩ u) M (.sl (rows.set i (r.set j x))) (.slice (some ⟨b,o,s⟩) len cap):=by
 have hr:=hn r (List.mem_of_getElem? hi)
 have hlt:=(List.getElem?_eq_some_iff.1 hi).1
 have h0:=h
 obtain ⟨a,len',cap',e,h1,h2,h3,h4,h5⟩:=h
 cases e
 refine LW (n:=n) (fun r' hr'=> ?_) (by simpa using h1) h2 h3 (h5 b o s rfl).1 fun i' j' r' d hi' hj'=> ?_
 ·rcases List.mem_or_eq_of_mem_set hr' with h|rfl
  ·exact hn r' h
  ·simpa using hr
 ·have Yx:r'.length=n:=by
   have:=List.mem_of_getElem? hi'
   rcases List.mem_or_eq_of_mem_set this with h|rfl
   ·exact hn r' h
   ·simpa using hr
  have Yb:j'<n:=by rw [<-Yx];exact (List.getElem?_eq_some_iff.1 hj').1
  by_cases hij:i'=i/\j'=j
  ·obtain ⟨rfl,rfl⟩:=hij
   obtain ⟨d0,hd0⟩: ∃d0,r[j']? =some d0:=⟨_,List.getElem?_eq_getElem (by omega)⟩
   obtain ⟨u0,c1,c2,c3⟩:=tC hn h0 hi hd0
   rw [List.getElem?_set_self hlt] at hi'
   cases hi'
   rw [List.getElem?_set_self (by omega)] at hj'
   cases hj'
   exact ⟨u,Ku c1,c2,hx _ _⟩
  ·have hold: ∃r0,rows[i']? =some r0/\r0[j']? =some d:=by
    by_cases e:i'=i
    ·subst e
     rw [List.getElem?_set_self hlt] at hi'
     cases hi'
     refine ⟨r,hi,?_⟩
     rwa [List.getElem?_set_ne (fun e=>hij ⟨rfl,e.symm⟩)] at hj'
    ·rw [List.getElem?_set_ne (fun e'=>e e'.symm)] at hi'
     exact ⟨r',hi',hj'⟩
   obtain ⟨r0,q1,q2⟩:=hold
   obtain ⟨u0,c1,c2,c3⟩:=tC hn h0 q1 q2
   refine ⟨u0,?_,c2,aal (hlf r0 (List.mem_of_getElem? q1) d (List.mem_of_getElem? q2)) c3⟩
   have hne:o+i'*n+j'≠o+i*n+j:=by
    intro e
    have e2:i'*n+j'=i*n+j:=by omega
    have h6:i'=i:=by
     have h7:(i'*n+j')/n=(i*n+j)/n:=by rw [e2]
     rwa [Nat.mul_comm i',Nat.mul_comm i,Nat.mul_add_div (by omega),Nat.mul_add_div (by omega),Nat.div_eq_of_lt Yb,Nat.div_eq_of_lt hj,Nat.add_zero,Nat.add_zero] at h7
    subst h6
    exact hij ⟨rfl,by omega⟩
   rcases Fq (w:=w) (v:=u) (p:=⟨b,o+i'*n+j',none⟩) (a:=⟨b,o+i*n+j,none⟩) (fun e=>hne (congrArg Addr.off e)) rfl (.inr trivial) with h7|⟨_,h7⟩
   ·rw [h7];exact c1
   ·exact absurd h7 hne
theorem aG.calls{P:Program}{f:FuncId}{ds:List D}{r:D}(h:aG P f none ds r []){w:World}{M:Addr->Prop}{vs:List Value}(hG:jU w M)(hr:Rs w M ds vs) :
  Calls P f vs.toArray w fun e w'=> ∃v,e= .returned v/\R w' M r v/\Below w.heap.size w w' :=
 (h.2 w M 0 vs hG hr (fun cs h=>by cases h)).mono fun e w' ⟨v,h1,h2,h3,_⟩=>⟨v,h1,h2,h3.lF⟩
theorem adf{P:Program}{w:World}{a:Addr}{u v:Value}(h:w.cell? a=some u)(hf:w.frozen? a=false)(hone:v.oneCell'=true):(store a v).run P w= .ok () (w.setCell a v):=by
 rw [run_store P w a v .plain hone,h,hf];rfl
theorem Alt.lF{A:Addr->Prop}{w w':World}{B:Nat}(h:Alt A w w')(hB:B<=w.heap.size)(hA: ∀p,A p->B<=p.block):Below B w w' :=
 ⟨h.env.1,h.env.2.1,h.env.2.2,h.size,fun k hk=>h.blk k (Nat.lt_of_lt_of_le hk hB) fun p hp ha=>by have:=hA p ha;omega⟩
theorem EF{A:Addr->Prop}{w w':World}{h:Nat}{d:D}{v:Value}(hr:R w (fun p=>h<=p.block) d v)(ha:Alt A w w')(hA: ∀p,A p->h<=p.block):R w' (fun p=>h<=p.block) d v :=
 R.keep (ha.keeps hA fun _ _ hm=>hm) _ _ hr
theorem eC{w w':World}{h:Nat}{d:D}{v:Value}(hr:R w (fun p=>h<=p.block) d v)(hb:Below w.heap.size w w'):R w' (fun p=>h<=p.block) d v :=
 R.keep (bo.below hb fun _ _ hm=>hm) _ _ hr
theorem R.zero{w:World}{M:Addr->Prop}{d:D}{v:Value}(hr:R w M d v):R w (fun _=>False) d v:=R.less hr fun _ h=>h.elim
theorem R.over{w:World}{d:D}{v:Value}(hr:R w (fun _=>False) d v):R w (fun p=>w.heap.size<=p.block) d v:=R.less (R.up hr) fun _ h=> .inr h
def iR(n:Nat)(f:Nat->List D):List (List D):=(List.range n).map f
theorem PG(n:Nat)(f:Nat->List D):(iR n f).length=n:=by simp [iR]
theorem za{n:Nat}{f:Nat->List D}{i:Nat}(h:i<n):(iR n f)[i]? =some (f i):=by simp [iR,h]
theorem PJ{n:Nat}{f:Nat->List D}{i:Nat}{x:List D}:(iR n f).set i x=iR n (fun a=>if a=i then x else f a):=by
 apply List.ext_getElem?
 intro j
 rw [List.getElem?_set]
 by_cases hj:j<n
 ·by_cases e:i=j
  ·subst e;simp [iR,hj]
  ·rw [if_neg e]
   simp [iR,hj]
   intro h;exact absurd h.symm e
 ·by_cases e:i=j
  ·subst e
   rw [if_pos rfl,if_neg (by simp [iR];omega),List.getElem?_eq_none (by simp [iR];omega)]
  ·rw [if_neg e,List.getElem?_eq_none (by simp [iR];omega),List.getElem?_eq_none (by simp [iR];omega)]
theorem Ej{n:Nat}{f g:Nat->List D}(h: ∀a,a<n->f a=g a):iR n f=iR n g:=by
 unfold iR
 exact List.map_congr_left fun a ha=>h a (by simpa using ha)
theorem PI{α:Type}[bC α](l:List α):l.map bC.cells=iR l.length fun a=>bC.cells (nth l a):=by
 apply List.ext_getElem
 ·simp [iR]
 ·intro i h1 h2
  have hi:i<l.length:=by simpa using h1
  simp [iR,nth,List.getD_eq_getElem?_getD,hi]
theorem uc{n:Nat}{f:Nat->List D}{r:List D}(h:r∈iR n f): ∃a,a<n/\r=f a:=by
 unfold iR at h
 obtain ⟨a,ha,rfl⟩:=List.mem_map.1 h
 exact ⟨a,by simpa using ha,rfl⟩
end
section
open Go.RowKit Go
variable [GC]
end
section
def qc(f:Int):Bool:=decide (0<=f)&&decide (f<=63)
theorem NE{f:Int}(h:qc f=true): ∃n:Nat,f=n/\n<64:=by
 unfold qc at h;simp at h;exact ⟨f.toNat,by omega,by omega⟩
def Wa(a b c d:Int):Int:=if a<c\/(a=c/\b<d) then -1 else if a=c/\b=d then 0 else 1
def acY:Nat->Int|0=>1|1=>1|2=>1|3=>1|4=>2|5=>2|_=>0
def acZ:Nat->Int|0=>0|1=>0|2=>1|3=>2|4=>0|5=>1|_=>0
def ais(a b:Int)(k:Nat):Bool:=decide (Wa (acY k) (acZ k) a b<=0)
end
section
end
section
open Go.RowKit Go
variable [GC]
theorem Ke(f:Int):aG Tryz.prog 71 none [.int .i64 f] (.bool (qc f)) []:=by
 refine aG.bV agl adL rfl ?_ (fun hfit=> ?_)
 ·simp [QF,fH,bX,cE,bW]
 simp only [Q1,VC.den,E.den,aa,aP,and_true]
 simp [bb,qc]
theorem JP: ∀k:Fin 6,cP .shl .i64 1 ((k:Nat):Int)=((2^(k:Nat):Nat):Int):=by decide +kernel
theorem UI: ∀n:Fin 64,∀k:Fin 6,bb .eql (cP .rem .i64 (cP .shr .i64 ((n:Nat):Int) ((k:Nat):Int)) 2) 1=n.val.testBit k.val:=by decide +kernel
end
section
open Go.RowKit
end
section
open Go.RowKit Go
variable [GC]
theorem zP(m k:Nat)(hm:m<64)(hk:k<6):aG Tryz.prog 58 none [.int .i64 m,.int .i64 k] (.bool (m.testBit k)) []:=by
 refine aG.bV ahr afI rfl ?_ (fun hfit=> ?_)
 ·simp [QP,fH,bX,cE,bW]
 unfold Sp
 refine bH (fun _=> ?_) (bH (fun _=>rfl) (aK ?_))
 ·simp [E.den,bb]
 have hb:=UI ⟨m,hm⟩ ⟨k,hk⟩
 simp only at hb
 simp only [E.den,List.getD_cons_zero,List.getD_cons_succ,D.dE,hb]
theorem Km(f:Int):aG Tryz.prog 57 none [.int .i64 f] (.bool (qc f)) []:=by
 refine aG.bV ahc afi rfl ?_ (fun hfit=> ?_)
 ·simp [QM,fH,bX,cE,bW]
 simp only [R0,VC.den,E.den,aa,aP,and_true]
 simp [bb,qc]
def cV(a b:Int):Bool:=qc a&&qc b&&bb .eql (cP .andNot .i64 b a) 0
theorem Kf(a b:Int):aG Tryz.prog 40 none [.int .i64 a,.int .i64 b] (.bool (cV a b)) []:=by
 refine aG.bV ags adU rfl ?_ (fun hfit=> ?_)
 ·simp [QG,fH,bX,cE,bW]
 unfold Q8
 (apply bD;(focus (simp only [VC.den,E.den,aa,aP,and_true];try exact rfl));(focus (exact Ke a));(focus (simp [fH,bX,cE,bW,ba,gZ,enc]));(simp only [cA]))
 (apply bD;(focus (simp only [VC.den,E.den,aa,aP,and_true];try exact rfl));(focus (exact Ke b));(focus (simp [fH,bX,cE,bW,ba,gZ,enc]));(simp only [cA]))
 exact aK rfl
end
section
open Go.RowKit Go
variable [GC]
def jZ(s:ByteArray)(k:Nat):Bool:=(decide (97<=sZ s k)&&decide (sZ s k<=122))||(!(k==0)&&(decide (48<=sZ s k)&&decide (sZ s k<=57)))
def kY(s:ByteArray):Bool:=decide (1<=s.size)&&decide (s.size<=8)&&iX (jZ s) s.size
theorem VD(b:Int)(f:Bool):aG Tryz.prog 83 none [.int .u8 b,.bool f] (.bool ((decide (97<=b)&&decide (b<=122))||(!f&&(decide (48<=b)&&decide (b<=57))))) []:=by
 refine aG.bV ahp afF rfl ?_ (fun hfit=> ?_)
 ·exact ⟨rfl,trivial,trivial⟩
 unfold Sl
 refine aK ?_
 simp [E.den,bb,Bool.and_assoc]
theorem Kn(s:ByteArray):aG Tryz.prog 56 none [.str s] (.bool (kY s)) []:=by
 refine aG.bV ahd afk rfl ?_ (fun hfit=> ?_)
 ·exact ⟨trivial,trivial⟩
 have hl:=tA hfit.1
 unfold R3
 refine gJ s.size (fun k=>[.int .i64 k]) (fun k=>iX (jZ s) k=true) rfl rfl ?_
 intro k hk hI _
 simp only [cA]
 refine aL (fun h2=> ?_) (fun h2=> ?_)
 ·simp only [E.den,aa,aj,ak] at h2
  have h2:k<s.size:=by simp at h2;exact h2
  (refine bH (fun hg=> ?_) ?_;(focus (simp only [bE,gE,E.den,aa,aj,ak] at hg ⊢;(try simp only [D.bool.injEq] at hg);(try simp only [D.bool.injEq]);grind)))
  (refine bD ?_ (VD (sZ s k) ((k:Int)==0)) (trivial) ?_;(focus (simp only [VC.den,E.den,aa,aP,and_true,JU,Fu,Int.toNat_natCast];try exact rfl));(simp only [cA]))
  refine aL (fun h3=> ?_) (fun h3=> ?_)
  ·simp only [E.den,aa,aj,ak] at h3
   have hb:jZ s k=false:=by
    simp at h3
    simp [jZ];omega
   refine aK ?_
   simp [E.den,kY,uI h2 hb]
  ·simp only [E.den,aa,aj,ak] at h3
   have hb:jZ s k=true:=by
    simp at h3
    simp [jZ];omega
   refine fT h2 ?_ (show (iX (jZ s) k&&jZ s k)=true by rw [hI,hb];rfl)
   simp only [E.den,aa,aj,ak]
   rw [eM (by omega) (by omega)];rfl
 ·simp only [E.den,aa,aj,ak] at h2
  obtain rfl:k=s.size:=by simp at h2;omega
  refine aK ?_
  simp only [kY,hI,Bool.and_true]
  simp only [E.den,aa,aj,ak]
  congr 1
  grind
theorem Fj(s:ByteArray):aG Tryz.prog 70 none [.str s] (.bool (kY s)) []:=by
 refine aG.bV agm adN rfl ?_ (fun hfit=> ?_)
 ·exact ⟨trivial,trivial⟩
 have hl:=tA hfit.1
 unfold Q2
 (refine bH (fun hg=> ?_) ?_;(focus (simp only [bE,gE,E.den,aa,aj,ak] at hg ⊢;(try simp only [D.bool.injEq] at hg);(try simp only [D.bool.injEq]);grind)))
 (refine bH (fun hg=> ?_) ?_;(focus (simp only [bE,gE,E.den,aa,aj,ak] at hg ⊢;(try simp only [D.bool.injEq] at hg);(try simp only [D.bool.injEq]);grind)))
 refine aL (fun h=> ?_) (fun h=> ?_)
 ·simp only [E.den,aa,aj,ak] at h
  refine aK ?_
  simp only [E.den,D.bool.injEq]
  by_cases h0:1<=s.size/\s.size<=8
  ·have hb:jZ s 0=false:=by
    simp at h
    simp [jZ];omega
   simp [kY,uI (show 0<s.size by omega) hb]
  ·have:(decide (1<=s.size)&&decide (s.size<=8))=false:=by simp;omega
   simp [kY,this]
 simp only [E.den,aa,aj,ak] at h
 have h0:1<=s.size/\s.size<=8:=by grind
 refine gJ s.size (fun k=>[.int .i64 k]) (fun k=>iX (jZ s) k=true) rfl rfl ?_
 intro k hk hI _
 simp only [cA]
 refine aL (fun h2=> ?_) (fun h2=> ?_)
 ·simp only [E.den,aa,aj,ak] at h2
  have h2:k<s.size:=by simp at h2;exact h2
  (refine bH (fun hg=> ?_) ?_;(focus (simp only [bE,gE,E.den,aa,aj,ak] at hg ⊢;(try simp only [D.bool.injEq] at hg);(try simp only [D.bool.injEq]);grind)))
  (refine bH (fun hg=> ?_) ?_;(focus (simp only [bE,gE,E.den,aa,aj,ak] at hg ⊢;(try simp only [D.bool.injEq] at hg);(try simp only [D.bool.injEq]);grind)))
  (refine bH (fun hg=> ?_) ?_;(focus (simp only [bE,gE,E.den,aa,aj,ak] at hg ⊢;(try simp only [D.bool.injEq] at hg);(try simp only [D.bool.injEq]);grind)))
  (refine bH (fun hg=> ?_) ?_;(focus (simp only [bE,gE,E.den,aa,aj,ak] at hg ⊢;(try simp only [D.bool.injEq] at hg);(try simp only [D.bool.injEq]);grind)))
  refine aL (fun h3=> ?_) (fun h3=> ?_)
  ·simp only [E.den,aa,aj,ak] at h3
   have hb:jZ s k=false:=by
    simp at h3
    simp [jZ];omega
   refine aK ?_
   simp [E.den,kY,uI h2 hb]
  ·simp only [E.den,aa,aj,ak] at h3
   have hb:jZ s k=true:=by
    simp at h h3
    by_cases e:k=0
    ·subst e;simp [jZ];omega
    ·simp [jZ];omega
   refine fT h2 ?_ (show (iX (jZ s) k&&jZ s k)=true by rw [hI,hb];rfl)
   simp only [E.den,aa,aj,ak]
   rw [eM (by omega) (by omega)];rfl
 ·simp only [E.den,aa,aj,ak] at h2
  obtain rfl:k=s.size:=by simp at h2;omega
  refine aK ?_
  simp [E.den,kY,hI,h0]
def fg(n:Int):Bool:=decide (0<=n)&&decide (n<=999)
theorem zO(n:Int):aG Tryz.prog 68 none [.int .i64 n] (.bool (fg n)) []:=by
 refine aG.bV agA ad9 rfl ?_ (fun hfit=> ?_)
 ·exact ⟨rfl,trivial⟩
 exact aK (by simp [E.den,bb,fg])
def kinds:List ByteArray:=[⟨#[115,116,111,110,101]⟩,⟨#[108,97,109,112]⟩,⟨#[115,104,101,108,102]⟩,⟨#[109,101,116,101,114]⟩,⟨#[100,114,97,119,101,114]⟩,⟨#[104,111,114,110]⟩,⟨#[118,97,117,108,116]⟩,⟨#[114,111,98,111,116]⟩]
def tY:List Nat:=[0,1,2,5,3,9,19,63]
def tX(s:ByteArray):Option Nat:=if s=nth kinds 0 then some 0 else if s=nth kinds 1 then some 1 else if s=nth kinds 2 then some 2 else if s=nth kinds 3 then some 3 else if s=nth kinds 4 then some 4 else if s=nth kinds 5 then some 5 else if s=nth kinds 6 then some 6 else if s=nth kinds 7 then some 7 else none
def ek(s:ByteArray):Nat:=match tX s with|some k=>tY.getD k 0|none=>0
def kindOk(s:ByteArray):Bool:=(tX s).isSome
theorem vP(s:ByteArray):ek s<64:=by
 unfold ek
 split
 ·rename_i k _
  by_cases h:k<8
  ·obtain rfl|rfl|rfl|rfl|rfl|rfl|rfl|rfl:k=0\/k=1\/k=2\/k=3\/k=4\/k=5\/k=6\/k=7:=by omega
   all_goals decide
  ·rw [List.getD,List.getElem?_eq_none (by simp [tY];omega)];decide
 ·decide
theorem NL{s:ByteArray}(h: ∀j,j<8->nth kinds j≠s):tX s=none:=by
 unfold tX
 rw [if_neg (fun e=>h 0 (by omega) e.symm),if_neg (fun e=>h 1 (by omega) e.symm),if_neg (fun e=>h 2 (by omega) e.symm),if_neg (fun e=>h 3 (by omega) e.symm),if_neg (fun e=>h 4 (by omega) e.symm),if_neg (fun e=>h 5 (by omega) e.symm),if_neg (fun e=>h 6 (by omega) e.symm),if_neg (fun e=>h 7 (by omega) e.symm)]
theorem eight{k:Nat}(h:k<8):k=0\/k=1\/k=2\/k=3\/k=4\/k=5\/k=6\/k=7:=by omega
theorem Fk(s:ByteArray):aG Tryz.prog 90 none [.str s] (.aE [.int .i64 (ek s),.bool (kindOk s)]) []:=by
 refine aG.bV agq adT rfl ?_ (fun hfit=> ?_)
 ·exact ⟨trivial,trivial⟩
 clear hfit
 unfold Q5
 refine aL (fun h=> ?_) (fun h0=> ?_)
 ·simp only [E.den,aa,aj,ak] at h;simp at h;subst h;exact aK rfl
 refine aL (fun h=> ?_) (fun h1=> ?_)
 ·simp only [E.den,aa,aj,ak] at h;simp at h;subst h;exact aK rfl
 refine aL (fun h=> ?_) (fun h2=> ?_)
 ·simp only [E.den,aa,aj,ak] at h;simp at h;subst h;exact aK rfl
 refine aL (fun h=> ?_) (fun h3=> ?_)
 ·simp only [E.den,aa,aj,ak] at h;simp at h;subst h;exact aK rfl
 refine aL (fun h=> ?_) (fun h4=> ?_)
 ·simp only [E.den,aa,aj,ak] at h;simp at h;subst h;exact aK rfl
 refine aL (fun h=> ?_) (fun h5=> ?_)
 ·simp only [E.den,aa,aj,ak] at h;simp at h;subst h;exact aK rfl
 refine aL (fun h=> ?_) (fun h6=> ?_)
 ·simp only [E.den,aa,aj,ak] at h;simp at h;subst h;exact aK rfl
 refine aL (fun h=> ?_) (fun h7=> ?_)
 ·simp only [E.den,aa,aj,ak] at h;simp at h;subst h;exact aK rfl
 simp only [E.den,aa,aj,ak] at h0 h1 h2 h3 h4 h5 h6 h7
 simp at h0 h1 h2 h3 h4 h5 h6 h7
 have hn:tX s=none:=NL fun j hj=>by
  obtain rfl|rfl|rfl|rfl|rfl|rfl|rfl|rfl:=eight hj
  all_goals (intro e;first|exact h0 e.symm|exact h1 e.symm|exact h2 e.symm|exact h3 e.symm|exact h4 e.symm|exact h5 e.symm|exact h6 e.symm|exact h7 e.symm)
 exact aK (by simp [E.den,ek,kindOk,hn])
theorem NM: ∀k:Fin 8,tX (nth kinds k.val)=some k.val:=by decide +kernel
def DU:E:= .put (.put (.put (.put (.put (.put (.put (.put (.bJ 9) (.ah (.ls ⟨#[115,116,111,110,101]⟩))) (.ah (.ls ⟨#[108,97,109,112]⟩))) (.ah (.ls ⟨#[115,104,101,108,102]⟩))) (.ah (.ls ⟨#[109,101,116,101,114]⟩))) (.ah (.ls ⟨#[100,114,97,119,101,114]⟩))) (.ah (.ls ⟨#[104,111,114,110]⟩))) (.ah (.ls ⟨#[118,97,117,108,116]⟩))) (.ah (.ls ⟨#[114,111,98,111,116]⟩))
def Hq:E:= .put (.put (.put (.put (.put (.put (.put (.put (.bJ 3) (.ah (.li .i64 0))) (.ah (.li .i64 1))) (.ah (.li .i64 2))) (.ah (.li .i64 5))) (.ah (.li .i64 3))) (.ah (.li .i64 9))) (.ah (.li .i64 19))) (.ah (.li .i64 63))
theorem Bk(env:List D):DU.den env=bg kinds:=rfl
theorem NN(env:List D):Hq.den env=bg (tY.map fun (n:Nat)=>(n:Int)):=rfl
theorem Fo(s:ByteArray):aG Tryz.prog 80 none [.str s] (.aE [.int .i64 (ek s),.bool (kindOk s)]) []:=by
 refine aG.bV ahh afq rfl ?_ (fun hfit=> ?_)
 ·exact ⟨trivial,trivial⟩
 clear hfit
 show VC.den _ _ (.loop [.one (.c (.int .i64))] [.li .i64 0] (.ite (.ic .lss (.var 1) (.len DU)) (.rq (.cond [] (.cw DU (.var 1))) (.ite (.sc .eql (.cell (.row [.str] DU (.var 1)) 0) (.var 0)) (.rq (.cond [] (.cw Hq (.var 1))) (.ret (.aJ (.aJ .bP (.cell (.row [.int .i64] Hq (.var 1)) 0)) (.lb true)) [])) (.again 0 [.ar .add .i64 (.var 1) (.li .i64 1)]))) (.ret (.aJ (.aJ .bP (.li .i64 0)) (.lb false)) []))) _ _ _
 have e8:kinds.length=8:=rfl
 refine gJ 8 (fun k=>[.int .i64 k]) (fun k=> ∀j,j<k->nth kinds j≠s) rfl (by omega) ?_
 intro k hk hI _
 simp only [cA]
 refine aL (fun h2=> ?_) (fun h2=> ?_)
 ·simp only [E.den,aa,aj,ak,Bk,e8] at h2
  have h2:k<8:=by simp at h2;omega
  refine bH (fun _=> ?_) ?_
  ·simp only [E.den,aa,aj,ak,Bk,e8]
   simp;omega
  refine aL (fun h3=> ?_) (fun h3=> ?_)
  ·simp only [E.den,aa,aj,ak,Bk,lD,jg] at h3
   simp at h3
   refine bH (fun _=> ?_) ?_
   ·simp only [E.den,aa,aj,ak,NN,List.length_map]
    simp [tY];omega
   refine aK ?_
   simp only [E.den,aa,aj,ak,NN,PF,Ky]
   have hn:tX s=some k:=by rw [<-h3];exact NM ⟨k,h2⟩
   simp only [ek,kindOk,hn]
   obtain rfl|rfl|rfl|rfl|rfl|rfl|rfl|rfl:k=0\/k=1\/k=2\/k=3\/k=4\/k=5\/k=6\/k=7:=by omega
   all_goals rfl
  ·simp only [E.den,aa,aj,ak,Bk,lD,jg] at h3
   simp at h3
   refine fT h2 ?_ fun j hj=> ?_
   ·simp only [E.den,aa,aj,ak]
    rw [eM (by omega) (by omega)];rfl
   ·rcases Nat.lt_or_ge j k with h|h
    ·exact hI j h
    ·obtain rfl:j=k:=by omega
     exact h3
 ·simp only [E.den,aa,aj,ak,Bk,e8] at h2
  obtain rfl:k=8:=by simp at h2;omega
  refine aK ?_
  have hn:=NL hI
  simp [E.den,ek,kindOk,hn]
def af:List ByteArray:=[⟨#[112,108,97,105,110]⟩,⟨#[114,117,110,115]⟩,⟨#[107,101,101,112,115]⟩,⟨#[99,111,117,110,116,115]⟩,⟨#[108,97,122,121]⟩,⟨#[114,101,97,100,115]⟩,⟨#[104,101,97,114,115]⟩,⟨#[104,101,97,108,115]⟩,⟨#[116,119,105,99,101]⟩]
def vQ:List Nat:=[0,1,2,2,3,2,1,1,4]
def yS:List Nat:=[0,1,2,6,3,2,9,33,4]
def rG(s:ByteArray):Option Nat:=if s=nth af 0 then some 0 else if s=nth af 1 then some 1 else if s=nth af 2 then some 2 else if s=nth af 3 then some 3 else if s=nth af 4 then some 4 else if s=nth af 5 then some 5 else if s=nth af 6 then some 6 else if s=nth af 7 then some 7 else if s=nth af 8 then some 8 else none
def lV(s:ByteArray):Nat:=match rG s with|some k=>vQ.getD k 0|none=>0
def mA(s:ByteArray):Nat:=match rG s with|some k=>yS.getD k 0|none=>0
def qe(s:ByteArray):Bool:=(rG s).isSome
theorem nine{k:Nat}(h:k<9):k=0\/k=1\/k=2\/k=3\/k=4\/k=5\/k=6\/k=7\/k=8:=by omega
theorem Xh(s:ByteArray):mA s<64:=by
 unfold mA
 split
 ·rename_i k _
  by_cases h:k<9
  ·obtain rfl|rfl|rfl|rfl|rfl|rfl|rfl|rfl|rfl:=nine h
   all_goals decide
  ·rw [List.getD,List.getElem?_eq_none (by simp [yS];omega)];decide
 ·decide
theorem NR{s:ByteArray}(h: ∀j,j<9->nth af j≠s):rG s=none:=by
 unfold rG
 rw [if_neg (fun e=>h 0 (by omega) e.symm),if_neg (fun e=>h 1 (by omega) e.symm),if_neg (fun e=>h 2 (by omega) e.symm),if_neg (fun e=>h 3 (by omega) e.symm),if_neg (fun e=>h 4 (by omega) e.symm),if_neg (fun e=>h 5 (by omega) e.symm),if_neg (fun e=>h 6 (by omega) e.symm),if_neg (fun e=>h 7 (by omega) e.symm),if_neg (fun e=>h 8 (by omega) e.symm)]
theorem DW: ∀k:Fin 9,rG (nth af k.val)=some k.val:=by decide +kernel
def qd(s:ByteArray):D:= .aE [.int .i64 (lV s),.int .i64 (mA s),.bool (qe s)]
theorem Kh(s:ByteArray):aG Tryz.prog 66 none [.str s] (qd s) []:=by
 refine aG.bV agB aeb rfl ?_ (fun hfit=> ?_)
 ·exact ⟨trivial,trivial⟩
 clear hfit
 unfold Rg
 refine aL (fun h=> ?_) (fun h0=> ?_)
 ·simp only [E.den,aa,aj,ak] at h;simp at h;subst h;exact aK rfl
 refine aL (fun h=> ?_) (fun h1=> ?_)
 ·simp only [E.den,aa,aj,ak] at h;simp at h;subst h;exact aK rfl
 refine aL (fun h=> ?_) (fun h2=> ?_)
 ·refine aL (fun _=> ?_) (fun h'=> ?_)
  ·simp only [E.den,aa,aj,ak] at h;simp at h;subst h;exact aK rfl
  ·rw [h] at h';cases h'
 refine aL (fun h=> ?_) (fun h3=> ?_)
 ·simp only [E.den,aa,aj,ak] at h;simp at h;subst h;exact aK rfl
 refine aL (fun h=> ?_) (fun h4=> ?_)
 ·simp only [E.den,aa,aj,ak] at h;simp at h;subst h;exact aK rfl
 refine aL (fun h=> ?_) (fun h5=> ?_)
 ·simp only [E.den,aa,aj,ak] at h;simp at h;subst h;exact aK rfl
 refine aL (fun h=> ?_) (fun h6=> ?_)
 ·simp only [E.den,aa,aj,ak] at h;simp at h;subst h;exact aK rfl
 refine aL (fun h=> ?_) (fun h7=> ?_)
 ·simp only [E.den,aa,aj,ak] at h;simp at h;subst h;exact aK rfl
 refine aL (fun h=> ?_) (fun h8=> ?_)
 ·simp only [E.den,aa,aj,ak] at h;simp at h;subst h;exact aK rfl
 simp only [E.den,aa,aj,ak] at h0 h1 h2 h3 h4 h5 h6 h7 h8
 simp at h0 h1 h2 h3 h4 h5 h6 h7 h8
 have hn:rG s=none:=NR fun j hj=>by
  obtain rfl|rfl|rfl|rfl|rfl|rfl|rfl|rfl|rfl:=nine hj
  all_goals (intro e;first|exact h0 e.symm|exact h1 e.symm|exact h2 e.symm|exact h3 e.symm|exact h4 e.symm|exact h5 e.symm|exact h6 e.symm|exact h7 e.symm|exact h8 e.symm)
 exact aK (by simp [E.den,qd,lV,mA,qe,hn])
def DX:E:= .put (.put (.put (.put (.put (.put (.put (.put (.put (.bJ 9) (.ah (.ls ⟨#[112,108,97,105,110]⟩))) (.ah (.ls ⟨#[114,117,110,115]⟩))) (.ah (.ls ⟨#[107,101,101,112,115]⟩))) (.ah (.ls ⟨#[99,111,117,110,116,115]⟩))) (.ah (.ls ⟨#[108,97,122,121]⟩))) (.ah (.ls ⟨#[114,101,97,100,115]⟩))) (.ah (.ls ⟨#[104,101,97,114,115]⟩))) (.ah (.ls ⟨#[104,101,97,108,115]⟩))) (.ah (.ls ⟨#[116,119,105,99,101]⟩))
def Ht:E:= .put (.put (.put (.put (.put (.put (.put (.put (.put (.bJ 3) (.ah (.li .i64 0))) (.ah (.li .i64 1))) (.ah (.li .i64 2))) (.ah (.li .i64 2))) (.ah (.li .i64 3))) (.ah (.li .i64 2))) (.ah (.li .i64 1))) (.ah (.li .i64 1))) (.ah (.li .i64 4))
def Hr:E:= .put (.put (.put (.put (.put (.put (.put (.put (.put (.bJ 3) (.ah (.li .i64 0))) (.ah (.li .i64 1))) (.ah (.li .i64 2))) (.ah (.li .i64 6))) (.ah (.li .i64 3))) (.ah (.li .i64 2))) (.ah (.li .i64 9))) (.ah (.li .i64 33))) (.ah (.li .i64 4))
theorem Bl(env:List D):DX.den env=bg af:=rfl
theorem NT(env:List D):Ht.den env=bg (vQ.map fun (n:Nat)=>(n:Int)):=rfl
theorem NS(env:List D):Hr.den env=bg (yS.map fun (n:Nat)=>(n:Int)):=rfl
theorem Kq(s:ByteArray):aG Tryz.prog 82 none [.str s] (qd s) []:=by
 refine aG.bV ahD af4 rfl ?_ (fun hfit=> ?_)
 ·exact ⟨trivial,trivial⟩
 clear hfit
 show VC.den _ _ (.loop [.one (.c (.int .i64))] [.li .i64 0] (.ite (.ic .lss (.var 1) (.len DX)) (.rq (.cond [] (.cw DX (.var 1))) (.ite (.sc .eql (.cell (.row [.str] DX (.var 1)) 0) (.var 0)) (.rq (.cond [] (.cw Ht (.var 1))) (.rq (.cond [] (.cw Hr (.var 1))) (.ret (.aJ (.aJ (.aJ .bP (.cell (.row [.int .i64] Ht (.var 1)) 0)) (.cell (.row [.int .i64] Hr (.var 1)) 0)) (.lb true)) []))) (.again 0 [.ar .add .i64 (.var 1) (.li .i64 1)]))) (.ret (.aJ (.aJ (.aJ .bP (.li .i64 0)) (.li .i64 0)) (.lb false)) []))) _ _ _
 have e9:af.length=9:=rfl
 refine gJ 9 (fun k=>[.int .i64 k]) (fun k=> ∀j,j<k->nth af j≠s) rfl (by omega) ?_
 intro k hk hI _
 simp only [cA]
 refine aL (fun h2=> ?_) (fun h2=> ?_)
 ·simp only [E.den,aa,aj,ak,Bl,e9] at h2
  have h2:k<9:=by simp at h2;omega
  refine bH (fun _=> ?_) ?_
  ·simp only [E.den,aa,aj,ak,Bl,e9]
   simp;omega
  refine aL (fun h3=> ?_) (fun h3=> ?_)
  ·simp only [E.den,aa,aj,ak,Bl,lD,jg] at h3
   simp at h3
   refine bH (fun _=> ?_) (bH (fun _=> ?_) ?_)
   ·simp only [E.den,aa,aj,ak,NT,List.length_map]
    simp [vQ];omega
   ·simp only [E.den,aa,aj,ak,NS,List.length_map]
    simp [yS];omega
   refine aK ?_
   simp only [E.den,aa,aj,ak,NT,NS,PF,Ky]
   have hn:rG s=some k:=by rw [<-h3];exact DW ⟨k,h2⟩
   simp only [qd,lV,mA,qe,hn]
   obtain rfl|rfl|rfl|rfl|rfl|rfl|rfl|rfl|rfl:=nine h2
   all_goals rfl
  ·simp only [E.den,aa,aj,ak,Bl,lD,jg] at h3
   simp at h3
   refine fT h2 ?_ fun j hj=> ?_
   ·simp only [E.den,aa,aj,ak]
    rw [eM (by omega) (by omega)];rfl
   ·rcases Nat.lt_or_ge j k with h|h
    ·exact hI j h
    ·obtain rfl:j=k:=by omega
     exact h3
 ·simp only [E.den,aa,aj,ak,Bl,e9] at h2
  obtain rfl:k=9:=by simp at h2;omega
  refine aK ?_
  have hn:=NR hI
  simp [E.den,qd,lV,mA,qe,hn]
theorem Vx(s:ByteArray):aG Tryz.prog 54 none [.str s] (.aE [.int .i64 (lV s),.bool (qe s)]) []:=by
 refine aG.bV ahi afs rfl ?_ (fun hfit=> ?_)
 ·exact ⟨trivial,trivial⟩
 unfold Sb
 (refine bD ?_ (Kq s) (⟨rfl,rfl,trivial,trivial⟩) ?_;(focus (simp only [VC.den,E.den,aa,aP,and_true];try exact rfl));(simp only [cA]))
 exact aK rfl
theorem abd: ∀n m:Fin 64,((List.range 6).all fun k=> !(m.val.testBit k&& !n.val.testBit k))=decide (m.val &&& n.val=m.val):=by decide +kernel
theorem abe: ∀n m:Fin 64,bb .eql (cP .andNot .i64 ((m.val:Nat):Int) ((n.val:Nat):Int)) 0=decide (m.val &&& n.val=m.val):=by decide +kernel
theorem Fp(a b:Int):aG Tryz.prog 29 none [.int .i64 a,.int .i64 b] (.bool (cV a b)) []:=by
 refine aG.bV ahj afu rfl ?_ (fun hfit=> ?_)
 ·exact ⟨rfl,rfl,trivial⟩
 unfold Sc
 (refine bD ?_ (Km a) (trivial) ?_;(focus (simp only [VC.den,E.den,aa,aP,and_true];try exact rfl));(simp only [cA]))
 (refine bD ?_ (Km b) (trivial) ?_;(focus (simp only [VC.den,E.den,aa,aP,and_true];try exact rfl));(simp only [cA]))
 refine aL (fun h=> ?_) (fun h=> ?_)
 ·simp only [E.den,aa,aj,ak] at h
  refine aK ?_
  simp only [E.den,D.bool.injEq]
  unfold cV
  grind
 simp only [E.den,aa,aj,ak] at h
 have ha:qc a=true:=by grind
 have hb:qc b=true:=by grind
 obtain ⟨n,rfl,hn⟩:=NE ha
 obtain ⟨m,rfl,hm⟩:=NE hb
 have ho:cV (n:Int) (m:Int)=((List.range 6).all fun k=> !(m.testBit k&& !n.testBit k)):=by
  unfold cV
  rw [ha,hb,Bool.true_and,Bool.true_and,abe ⟨n,hn⟩ ⟨m,hm⟩,abd ⟨n,hn⟩ ⟨m,hm⟩]
 rw [ho]
 refine gJ 6 (fun k=>[.int .i64 k]) (fun k=> ∀j,j<k->(!(m.testBit j&& !n.testBit j))=true) rfl (by omega) ?_
 intro k hk hI _
 simp only [cA]
 refine aL (fun h2=> ?_) (fun h2=> ?_)
 ·simp only [E.den,aa,aj,ak] at h2
  have h2:k<6:=by simp at h2;omega
  (refine bD ?_ (zP m k hm h2) (trivial) ?_;(focus (simp only [VC.den,E.den,aa,aP,and_true];try exact rfl));(simp only [cA]))
  (refine bD ?_ (zP n k hn h2) (trivial) ?_;(focus (simp only [VC.den,E.den,aa,aP,and_true];try exact rfl));(simp only [cA]))
  refine aL (fun h3=> ?_) (fun h3=> ?_)
  ·simp only [E.den,aa,aj,ak] at h3
   refine aK ?_
   simp only [E.den,D.bool.injEq]
   symm
   rw [List.all_eq_false]
   exact ⟨k,by simpa using h2,by rw [h3];simp⟩
  ·simp only [E.den,aa,aj,ak] at h3
   refine fT h2 ?_ fun j hj=> ?_
   ·simp only [E.den,aa,aj,ak]
    rw [eM (by omega) (by omega)];rfl
   ·rcases Nat.lt_or_ge j k with h|h
    ·exact hI j h
    ·obtain rfl:j=k:=by omega
     rw [h3];rfl
 ·simp only [E.den,aa,aj,ak] at h2
  obtain rfl:k=6:=by simp at h2;omega
  refine aK ?_
  simp only [E.den,D.bool.injEq]
  symm
  rw [List.all_eq_true]
  intro j hj
  exact hI j (by simpa using hj)
end
section
open Go.RowKit Go
variable [GC]
def iY(l:List Cell)(k:Nat):Bool:=kY (nth l k).key&&fg (nth l k).val&&(k==0||gx (nth l (k-1)).key (nth l k).key)
def fE(l:List Cell):Bool:=decide (l.length<=4)&&iX (iY l) l.length
theorem sub_one{k:Nat}(h:0<k)(hk:k<=9223372036854775807):(cP .sub .i64 (k:Int) 1).toNat=k-1:=by
 rw [kA (by omega) (by omega)];omega
theorem Fh(l:List Cell):aG Tryz.prog 91 none [bg l] (.bool (fE l)) []:=by
 refine aG.bV agj adI rfl ?_ (fun hfit=> ?_)
 ·exact ⟨nK l,trivial⟩
 have hl:l.length<=9223372036854775807:=qL hfit.1
 unfold QZ
 refine aL (fun h=> ?_) (fun h=> ?_)
 ·simp only [E.den,aa,aj,ak] at h
  refine aK ?_
  simp only [E.den,D.bool.injEq]
  unfold fE;grind
 simp only [E.den,aa,aj,ak] at h
 have h4:l.length<=4:=by grind
 refine gJ l.length (fun k=>[.int .i64 k]) (fun k=>iX (iY l) k=true) rfl rfl ?_
 intro k hk hI _
 simp only [cA]
 refine aL (fun h2=> ?_) (fun h2=> ?_)
 ·simp only [E.den,aa,aj,ak] at h2
  have h2:k<l.length:=by simp at h2;exact h2
  (refine bH (fun hg=> ?_) ?_;(focus (simp only [bE,gE,E.den,aa,aj,ak] at hg ⊢;(try simp only [D.bool.injEq] at hg);(try simp only [D.bool.injEq]);grind)))
  (refine bD ?_ (Fj (nth l k).key) (trivial) ?_;(focus (simp only [VC.den,E.den,aa,aP,and_true,gC,dR,Int.toNat_natCast];try exact rfl));(simp only [cA]))
  (refine bD ?_ (zO (nth l k).val) (trivial) ?_;(focus (simp only [VC.den,E.den,aa,aP,and_true,gC,dR,Int.toNat_natCast];try exact rfl));(simp only [cA]))
  refine bH (fun hg=> ?_) ?_
  ·simp [bE,E.den,bb] at hg ⊢
   rw [kA (by omega) (by omega)];omega
  refine aL (fun h3=> ?_) (fun h3=> ?_)
  ·simp only [E.den,aa,aj,ak,gC,dR] at h3
   have hb:iY l k=false:=by
    unfold iY
    by_cases e:0<k
    ·rw [sub_one e (by omega)] at h3;grind
    ·grind
   refine aK ?_
   simp [E.den,fE,uI h2 hb]
  ·simp only [E.den,aa,aj,ak,gC,dR] at h3
   have hb:iY l k=true:=by
    unfold iY
    by_cases e:0<k
    ·rw [sub_one e (by omega)] at h3;grind
    ·grind
   refine fT h2 ?_ (show (iX (iY l) k&&iY l k)=true by rw [hI,hb];rfl)
   simp only [E.den,aa,aj,ak]
   rw [eM (by omega) (by omega)];rfl
 ·simp only [E.den,aa,aj,ak] at h2
  obtain rfl:k=l.length:=by simp at h2;omega
  exact aK (by simp [E.den,fE,hI,h4])
theorem Fm(l:List Cell):aG Tryz.prog 81 none [bg l] (.bool (fE l)) []:=by
 refine aG.bV aha aff rfl ?_ (fun hfit=> ?_)
 ·exact ⟨nK l,trivial⟩
 have hl:l.length<=9223372036854775807:=qL hfit.1
 unfold RX
 refine gJ l.length (fun k=>[.int .i64 k]) (fun k=>iX (iY l) k=true) rfl rfl ?_
 intro k hk hI _
 simp only [cA]
 refine aL (fun h2=> ?_) (fun h2=> ?_)
 ·simp only [E.den,aa,aj,ak] at h2
  have h2:k<l.length:=by simp at h2;exact h2
  (refine bH (fun hg=> ?_) ?_;(focus (simp only [bE,gE,E.den,aa,aj,ak] at hg ⊢;(try simp only [D.bool.injEq] at hg);(try simp only [D.bool.injEq]);grind)))
  (refine bD ?_ (Kn (nth l k).key) (trivial) ?_;(focus (simp only [VC.den,E.den,aa,aP,and_true,gC,dR,Int.toNat_natCast];try exact rfl));(simp only [cA]))
  refine bH (fun hg=> ?_) ?_
  ·simp [bE,E.den,bb] at hg ⊢
   rw [kA (by omega) (by omega)];omega
  refine aL (fun h3=> ?_) (fun h3=> ?_)
  ·simp only [E.den,aa,aj,ak,gC,dR] at h3
   have hb:iY l k=false:=by
    unfold iY fg
    by_cases e:0<k
    ·rw [sub_one e (by omega)] at h3;grind
    ·grind
   refine aK ?_
   simp [E.den,fE,uI h2 hb]
  ·simp only [E.den,aa,aj,ak,gC,dR] at h3
   have hb:iY l k=true:=by
    unfold iY fg
    by_cases e:0<k
    ·rw [sub_one e (by omega)] at h3;grind
    ·grind
   refine fT h2 ?_ (show (iX (iY l) k&&iY l k)=true by rw [hI,hb];rfl)
   simp only [E.den,aa,aj,ak]
   rw [eM (by omega) (by omega)];rfl
 ·simp only [E.den,aa,aj,ak] at h2
  obtain rfl:k=l.length:=by simp at h2;omega
  refine aK ?_
  simp only [E.den,aa,aj,ak]
  simp only [fE,hI,Bool.and_true,D.bool.injEq]
  grind
def jh(p:Core):Bool:=kindOk p.kind&&fE p.cells&&(p.cells.length==0||(ek p.kind).testBit 1)&&fg p.count&& !(p.on&&p.broken)&&((ek p.kind).testBit 0||(!p.on&& !p.broken))
theorem UH: ∀n:Fin 64,bb .eql (cP .and .i64 ((n.val:Nat):Int) 2) 0= !n.val.testBit 1:=by decide +kernel
theorem UG: ∀n:Fin 64,bb .eql (cP .and .i64 ((n.val:Nat):Int) 1) 1=n.val.testBit 0:=by decide +kernel
theorem U3(p:Core):aG Tryz.prog 65 none [enc p] (.bool (jh p)) []:=by
 refine aG.bV agk adK rfl ?_ (fun hfit=> ?_)
 ·exact ⟨j9 p,trivial⟩
 have b1:=UH ⟨ek p.kind,vP _⟩
 have b0:=UG ⟨ek p.kind,vP _⟩
 simp only [Fu] at b1 b0
 unfold Q0
 (refine bD ?_ (Fk p.kind) (⟨rfl,trivial,trivial⟩) ?_;(focus (simp only [VC.den,E.den,aa,aP,and_true,bR];try exact rfl));(simp only [cA]))
 (refine bD ?_ (Fh p.cells) (trivial) ?_;(focus (simp only [VC.den,E.den,aa,aP,and_true,bR];try exact rfl));(simp only [cA]))
 (refine bD ?_ (zO p.count) (trivial) ?_;(focus (simp only [VC.den,E.den,aa,aP,and_true,bR];try exact rfl));(simp only [cA]))
 refine aL (fun h=> ?_) (fun h=> ?_)
 ·simp only [E.den,aa,aj,ak,bR,b1] at h
  refine aK ?_
  simp only [E.den,D.bool.injEq]
  unfold jh;grind
 ·simp only [E.den,aa,aj,ak,bR,b1] at h
  refine aK ?_
  simp only [E.den,aa,aj,ak,bR,b0]
  simp only [D.bool.injEq]
  unfold jh;grind
theorem Kl(p:Core):aG Tryz.prog 53 none [enc p] (.bool (jh p)) []:=by
 refine aG.bV ahb afh rfl ?_ (fun hfit=> ?_)
 ·exact ⟨j9 p,trivial⟩
 unfold RY
 (refine bD ?_ (Fo p.kind) (⟨rfl,trivial,trivial⟩) ?_;(focus (simp only [VC.den,E.den,aa,aP,and_true,bR];try exact rfl));(simp only [cA]))
 (refine bD ?_ (zP (ek p.kind) 0 (vP _) (by omega)) (trivial) ?_;(focus (simp only [VC.den,E.den,aa,aP,and_true];try exact rfl));(simp only [cA]))
 (refine bD ?_ (Fm p.cells) (trivial) ?_;(focus (simp only [VC.den,E.den,aa,aP,and_true,bR];try exact rfl));(simp only [cA]))
 (refine bD ?_ (zP (ek p.kind) 1 (vP _) (by omega)) (trivial) ?_;(focus (simp only [VC.den,E.den,aa,aP,and_true];try exact rfl));(simp only [cA]))
 refine aL (fun h=> ?_) (fun h=> ?_)
 ·simp only [E.den,aa,aj,ak,bR] at h
  refine aK ?_
  simp only [E.den,D.bool.injEq]
  unfold jh fg;grind
 ·simp only [E.den,aa,aj,ak,bR] at h
  refine aK ?_
  simp only [E.den,aa,aj,ak,bR]
  simp only [D.bool.injEq]
  unfold jh fg;grind
theorem U9(p:Core)(h:p.cells.length<=4294967296):dw Tryz.prog 64 none [enc p] (enc p) [] [(3,2)]:=by
 refine dw.bV agv ad0 abY rfl ?_ (fun hfit=> ?_)
 ·exact ⟨j9 p,trivial⟩
 unfold Rb
 refine bH (fun _=> ?_) (aK ?_)
 ·simp [E.den,bR,h]
 ·simp [E.den,bR,enc,bg]
theorem Ko(p:Core)(h:p.cells.length<=4294967296):dw Tryz.prog 52 none [enc p] (enc p) [] [(3,2)]:=by
 refine dw.bV ahu afO ab9 rfl ?_ (fun hfit=> ?_)
 ·exact ⟨j9 p,trivial⟩
 unfold Ss
 refine bH (fun _=> ?_) (aK ?_)
 ·simp [E.den,bR,h]
 ·simp [E.den,bR,enc,bg]
theorem Va(p:Part)(h:p.core.cells.length<=4294967296)(h':p.af.length<=4294967296):dw Tryz.prog 35 none [enc p] (enc p) [] [(3,2),(5,2)]:=by
 refine dw.bV agw ad3 abZ rfl ?_ (fun hfit=> ?_)
 ·exact ⟨qt p,trivial⟩
 unfold Rc
 (refine nS ?_ (U9 p.core h) (j9 _) ?_;(focus (simp only [VC.den,E.den,aa,aP,and_true,dS];try exact rfl));(simp only [cA]))
 refine bH (fun _=> ?_) (aK ?_)
 ·simp [E.den,dS,h']
 ·simp [E.den,dS,bR,enc,bg]
theorem VL(p:Part)(h:p.core.cells.length<=4294967296)(h':p.af.length<=4294967296):dw Tryz.prog 26 none [enc p] (enc p) [] [(3,2),(5,2)]:=by
 refine dw.bV ahA af0 acb rfl ?_ (fun hfit=> ?_)
 ·exact ⟨qt p,trivial⟩
 unfold Sz
 (refine nS ?_ (Ko p.core h) (j9 _) ?_;(focus (simp only [VC.den,E.den,aa,aP,and_true,dS];try exact rfl));(simp only [cA]))
 refine bH (fun _=> ?_) (aK ?_)
 ·simp [E.den,dS,h']
 ·simp [E.den,dS,bR,enc,bg]
def eQ(p:Part)(k:Nat):Nat:=if k=0 then ek p.core.kind else mA (nth p.af (k-1)).name
theorem qK(p:Part)(k:Nat):eQ p k<64:=by unfold eQ;split;exact vP _;exact Xh _
def fF(p:Part):Nat:=eQ p p.af.length
theorem Kg(p:Part)(k:Nat)(hk:k<=p.af.length):aG Tryz.prog 67 none [enc p,.int .i64 k] (.int .i64 (eQ p k)) []:=by
 refine aG.bV agx ad5 rfl ?_ (fun hfit=> ?_)
 ·exact ⟨qt p,rfl,trivial⟩
 have hb:(k:Int)<=9223372036854775807:=hfit.2.1.2
 unfold Re
 refine aL (fun h=> ?_) (fun h=> ?_)
 ·simp only [E.den,aa,aj,ak] at h
  have h:k=0:=by simp at h;exact h
  subst h
  (refine bD ?_ (Fk p.core.kind) (⟨rfl,trivial,trivial⟩) ?_;(focus (simp only [VC.den,E.den,aa,aP,and_true,dS];try exact rfl));(simp only [cA]))
  exact aK rfl
 ·simp only [E.den,aa,aj,ak] at h
  have h:k≠0:=by simpa using h
  have e:=sub_one (k:=k) (by omega) (by omega)
  refine bH (fun _=> ?_) ?_
  ·simp [E.den,dS]
   rw [kA (by omega) (by omega)];omega
  (refine bD ?_ (Kh (nth p.af (k-1)).name) (⟨rfl,rfl,trivial,trivial⟩) ?_;(focus (simp only [VC.den,E.den,aa,aP,and_true,dS,oB,jC,e];try exact rfl));(simp only [cA]))
  exact aK (by simp [E.den,qd,eQ,h])
theorem Kp(p:Part)(k:Nat)(hk:k<=p.af.length):aG Tryz.prog 55 none [enc p,.int .i64 k] (.int .i64 (eQ p k)) []:=by
 refine aG.bV ahB af2 rfl ?_ (fun hfit=> ?_)
 ·exact ⟨qt p,rfl,trivial⟩
 have hb:(k:Int)<=9223372036854775807:=hfit.2.1.2
 unfold SA
 refine aL (fun h=> ?_) (fun h=> ?_)
 ·simp only [E.den,aa,aj,ak] at h
  have h:k=0:=by simp at h;exact h
  subst h
  (refine bD ?_ (Fo p.core.kind) (⟨rfl,trivial,trivial⟩) ?_;(focus (simp only [VC.den,E.den,aa,aP,and_true,dS];try exact rfl));(simp only [cA]))
  exact aK rfl
 ·simp only [E.den,aa,aj,ak] at h
  have h:k≠0:=by simpa using h
  have e:=sub_one (k:=k) (by omega) (by omega)
  refine bH (fun _=> ?_) ?_
  ·simp [E.den,dS]
   rw [kA (by omega) (by omega)];omega
  (refine bD ?_ (Kq (nth p.af (k-1)).name) (⟨rfl,rfl,trivial,trivial⟩) ?_;(focus (simp only [VC.den,E.den,aa,aP,and_true,dS,oB,jC,e];try exact rfl));(simp only [cA]))
  exact aK (by simp [E.den,qd,eQ,h])
theorem UY(p:Part):aG Tryz.prog 38 none [enc p] (.int .i64 (fF p)) []:=by
 refine aG.bV age adB rfl ?_ (fun hfit=> ?_)
 ·exact ⟨qt p,trivial⟩
 unfold QV
 (refine bD ?_ (Kg p p.af.length (Nat.le_refl _)) (rfl) ?_;(focus (simp only [VC.den,E.den,aa,aP,and_true,dS];try exact rfl));(simp only [cA]))
 exact aK rfl
theorem Ki(p:Part):aG Tryz.prog 30 none [enc p] (.int .i64 (fF p)) []:=by
 refine aG.bV ag6 ae8 rfl ?_ (fun hfit=> ?_)
 ·exact ⟨qt p,trivial⟩
 unfold RT
 (refine bD ?_ (Kp p p.af.length (Nat.le_refl _)) (rfl) ?_;(focus (simp only [VC.den,E.den,aa,aP,and_true,dS];try exact rfl));(simp only [cA]))
 exact aK rfl
def counts:ByteArray:=⟨#[99,111,117,110,116,115]⟩
def gP:ByteArray:=⟨#[104,101,97,114,115]⟩
def kX(p:Part)(k:Nat):Bool:=qe (nth p.af k).name&&cV (eQ p k) (lV (nth p.af k).name)&&fg (nth p.af k).count&&(decide ((nth p.af k).count=0)||decide ((nth p.af k).name=counts)||decide ((nth p.af k).name=gP))
def fj(p:Part):Bool:=jh p.core&&decide (p.af.length<=3)&&iX (kX p) p.af.length
theorem U4(p:Part):aG Tryz.prog 36 none [enc p] (.bool (fj p)) []:=by
 refine aG.bV agn adP rfl ?_ (fun hfit=> ?_)
 ·exact ⟨qt p,trivial⟩
 unfold Q3
 (refine bD ?_ (U3 p.core) (trivial) ?_;(focus (simp only [VC.den,E.den,aa,aP,and_true,dS];try exact rfl));(simp only [cA]))
 refine aL (fun h=> ?_) (fun h=> ?_)
 ·simp only [E.den,aa,aj,ak,dS] at h
  refine aK ?_
  simp only [E.den,D.bool.injEq]
  unfold fj;grind
 simp only [E.den,aa,aj,ak,dS] at h
 have hc:jh p.core=true:=by grind
 have h3:p.af.length<=3:=by grind
 refine gJ p.af.length (fun k=>[.int .i64 k]) (fun k=>iX (kX p) k=true) rfl rfl ?_
 intro k hk hI _
 simp only [cA]
 refine aL (fun h2=> ?_) (fun h2=> ?_)
 ·simp only [E.den,aa,aj,ak,dS] at h2
  have h2:k<p.af.length:=by simp at h2;exact h2
  (refine bH (fun hg=> ?_) ?_;(focus (simp only [bE,gE,E.den,aa,aj,ak,dS] at hg ⊢;(try simp only [D.bool.injEq] at hg);(try simp only [D.bool.injEq]);grind)))
  (refine bD ?_ (Kh (nth p.af k).name) (⟨rfl,rfl,trivial,trivial⟩) ?_;(focus (simp only [VC.den,E.den,aa,aP,and_true,dS,oB,jC];try exact rfl));(simp only [cA]))
  (refine bD ?_ (Kg p k hk) (rfl) ?_;(focus (simp only [VC.den,E.den,aa,aP,and_true];try exact rfl));(simp only [cA]))
  (refine bD ?_ (Kf (eQ p k) (lV (nth p.af k).name)) (trivial) ?_;(focus (simp only [VC.den,E.den,aa,aP,and_true,qd];try exact rfl));(simp only [cA]))
  (refine bD ?_ (zO (nth p.af k).count) (trivial) ?_;(focus (simp only [VC.den,E.den,aa,aP,and_true,dS,oB,jC];try exact rfl));(simp only [cA]))
  refine aL (fun h3=> ?_) (fun h3=> ?_)
  ·simp only [E.den,aa,aj,ak,dS,oB,jC,qd] at h3
   have hb:kX p k=false:=by unfold kX counts gP;grind
   refine aK ?_
   simp [E.den,fj,uI h2 hb]
  ·simp only [E.den,aa,aj,ak,dS,oB,jC,qd] at h3
   have hb:kX p k=true:=by unfold kX counts gP;grind
   refine fT h2 ?_ (show (iX (kX p) k&&kX p k)=true by rw [hI,hb];rfl)
   simp only [E.den,aa,aj,ak]
   rw [eM (by omega) (by omega)];rfl
 ·simp only [E.den,aa,aj,ak,dS] at h2
  obtain rfl:k=p.af.length:=by simp at h2;omega
  exact aK (by simp [E.den,fj,hI,hc,h3])
theorem Vv(p:Part):aG Tryz.prog 27 none [enc p] (.bool (fj p)) []:=by
 refine aG.bV ahe afm rfl ?_ (fun hfit=> ?_)
 ·exact ⟨qt p,trivial⟩
 unfold R4
 (refine bD ?_ (Kl p.core) (trivial) ?_;(focus (simp only [VC.den,E.den,aa,aP,and_true,dS];try exact rfl));(simp only [cA]))
 refine aL (fun h=> ?_) (fun h=> ?_)
 ·simp only [E.den,aa,aj,ak,dS] at h
  refine aK ?_
  simp only [E.den,D.bool.injEq]
  unfold fj;grind
 simp only [E.den,aa,aj,ak,dS] at h
 have hc:jh p.core=true:=by grind
 have h3:p.af.length<=3:=by grind
 refine gJ p.af.length (fun k=>[.int .i64 k]) (fun k=>iX (kX p) k=true) rfl rfl ?_
 intro k hk hI _
 simp only [cA]
 refine aL (fun h2=> ?_) (fun h2=> ?_)
 ·simp only [E.den,aa,aj,ak,dS] at h2
  have h2:k<p.af.length:=by simp at h2;exact h2
  (refine bH (fun hg=> ?_) ?_;(focus (simp only [bE,gE,E.den,aa,aj,ak,dS] at hg ⊢;(try simp only [D.bool.injEq] at hg);(try simp only [D.bool.injEq]);grind)))
  (refine bD ?_ (Vx (nth p.af k).name) (⟨rfl,trivial,trivial⟩) ?_;(focus (simp only [VC.den,E.den,aa,aP,and_true,dS,oB,jC];try exact rfl));(simp only [cA]))
  (refine bD ?_ (Kp p k hk) (rfl) ?_;(focus (simp only [VC.den,E.den,aa,aP,and_true];try exact rfl));(simp only [cA]))
  (refine bD ?_ (Fp (eQ p k) (lV (nth p.af k).name)) (trivial) ?_;(focus (simp only [VC.den,E.den,aa,aP,and_true];try exact rfl));(simp only [cA]))
  refine aL (fun h3=> ?_) (fun h3=> ?_)
  ·simp only [E.den,aa,aj,ak,dS,oB,jC] at h3
   have hb:kX p k=false:=by unfold kX counts gP fg;grind
   refine aK ?_
   simp [E.den,fj,uI h2 hb]
  ·simp only [E.den,aa,aj,ak,dS,oB,jC] at h3
   have hb:kX p k=true:=by unfold kX counts gP fg;grind
   refine fT h2 ?_ (show (iX (kX p) k&&kX p k)=true by rw [hI,hb];rfl)
   simp only [E.den,aa,aj,ak]
   rw [eM (by omega) (by omega)];rfl
 ·simp only [E.den,aa,aj,ak,dS] at h2
  obtain rfl:k=p.af.length:=by simp at h2;omega
  exact aK (by simp [E.den,fj,hI,hc,h3])
def rep(code val want had:Int):dW:=⟨code,val,⟨#[]⟩,want,had⟩
def jV(p:Nat->Bool):Nat->Option Nat
 | 0=>none
 | n+1=>match jV p n with
  | some k=>some k
  | none=>if p n then some n else none
theorem Ab{p:Nat->Bool}: ∀{n:Nat},(∀i,i<n->p i=false)->jV p n=none
 | 0,_=>rfl
 | n+1,h=>by
  have h1:=Ab (n:=n) (fun i hi=>h i (by omega))
  simp [jV,h1,h n (by omega)]
theorem C6{p:Nat->Bool}{k:Nat}(hp:p k=true)(h: ∀i,i<k->p i=false): ∀{n:Nat},k<n->jV p n=some k
 | 0,hk=>by omega
 | n+1,hk=>by
  by_cases e:k=n
  ·subst e;simp [jV,Ab h,hp]
  ·simp [jV,C6 hp h (show k<n by omega)]
end
section
open Go.RowKit Go
variable [GC]
def cS:ByteArray:=⟨#[]⟩
theorem C5{p:Nat->Bool}{k:Nat}: ∀{n:Nat},jV p n=some k->k<n/\p k=true/\ ∀i,i<k->p i=false
 | 0,h=>by cases h
 | n+1,h=>by
  simp only [jV] at h
  split at h
  ·rename_i j hj
   cases h
   obtain ⟨h1,h2,h3⟩:=C5 hj
   exact ⟨by omega,h2,h3⟩
  ·rename_i hj
   split at h
   ·rename_i hp
    cases h
    refine ⟨by omega,hp,fun i hi=> ?_⟩
    cases hb:p i with
    | false=>rfl
    | true =>
     exfalso
     have: ∀{n:Nat},jV p n=none-> ∀i,i<n->p i=false:=by
      intro n
      induction n with
      | zero=>intro _ i hi;omega
      | succ n ih =>
       intro h i hi
       simp only [jV] at h
       split at h
       ·cases h
       ·rename_i hn
        split at h
        ·cases h
        ·rename_i hp
         by_cases e:i=n
         ·subst e;simpa using hp
         ·exact ih hn i (by omega)
     rw [this hj i hi] at hb;cases hb
   ·cases h
theorem P5{w':World}{M:Addr->Prop}{b:Nat}(hM: ∀o,¬M ⟨b,o,none⟩): ∀(l:List ByteArray) (k:Nat),(∀i (h:i<l.length),w'.cell? ⟨b,k+i,none⟩=some (.string l[i]))->(∀s,s∈l->s.size<=maxLen)->dF w' M (l.map bC.cells) b k
 | [],_,_,_=>by simp [dF]
 | s::l,k,h,hs=>by
  simp only [List.map_cons,dF,jg,Rw,R,and_true]
  refine ⟨⟨_,h 0 (by simp),hM _,rfl,hs s (by simp)⟩,P5 hM l (k+1) (fun i hi=> ?_) fun s' h'=>hs s' (by simp [h'])⟩
  have:=h (i+1) (by simp;omega)
  rw [show k+(i+1)=k+1+i by omega] at this
  simpa using this
theorem uE{w':World}{M:Addr->Prop}{cs:Array Value}{T b n:Nat}(l:List ByteArray)(h:w'.heap[b]? =some (.cells cs T))(hcs:cs=(l.map Value.string).toArray)(hn:n=l.length)(hM: ∀o,¬M ⟨b,o,none⟩)(hs: ∀s,s∈l->s.size<=maxLen)(hl:l.length<=maxLen) :
  R w' M (bg l) (.slice (some ⟨b,0,none⟩) n n):=by
 subst hn
 refine ⟨_,_,_,rfl,by simp,Nat.le_refl _,hl,fun h=>by (cases h),?_⟩
 intro b' o s e
 cases e
 refine ⟨fun _=>rfl,P5 hM l 0 (fun i hi=> ?_) hs⟩
 simp [World.cell?,h,hcs,hi]
theorem lO{w:World}{o o':Obj}{b:Nat}(h:w.heap[b]? =some o):(w.alloc o').heap[b]? =some o:=by
 have hb:b<w.heap.size:=by
  rcases Nat.lt_or_ge b w.heap.size with h'|h'
  ·exact h'
  ·rw [Array.getElem?_eq_none h'] at h;cases h
 exact (Below.heap_alloc w o' b hb).trans h
theorem vm{w:World}{o:Obj}{b:Nat}(h:b=w.heap.size):(w.alloc o).heap[b]? =some o:=by
 subst h
 show (w.heap.push o)[w.heap.size]? =_
 simp
end
section
open Go.RowKit Go
variable [GC]
def hasB(l:List ByteArray)(s:ByteArray):Bool:=l.any fun t=>decide (t=s)
theorem Vc(l:List ByteArray)(s:ByteArray):aG Tryz.prog 92 none [bg l,.str s] (.bool (hasB l s)) []:=by
 refine aG.bV agy ad7 rfl ?_ (fun hfit=> ?_)
 ·exact ⟨rS l,trivial,trivial⟩
 have hl:l.length<=9223372036854775807:=qL hfit.1
 unfold Rf
 refine gJ l.length (fun k=>[.int .i64 k]) (fun k=> ∀i,i<k->nth l i≠s) rfl (by omega) ?_
 intro k hk hI _
 simp only [cA]
 refine aL (fun h2=> ?_) (fun h2=> ?_)
 ·simp only [E.den,aa,aj,ak] at h2
  have h2:k<l.length:=by simp at h2;exact h2
  (refine bH (fun hg=> ?_) ?_;(focus (simp only [bE,gE,E.den,aa,aj,ak] at hg ⊢;(try simp only [D.bool.injEq] at hg);(try simp only [D.bool.injEq]);grind)))
  refine aL (fun h3=> ?_) (fun h3=> ?_)
  ·simp only [E.den,aa,aj,ak,lD,jg] at h3
   have hb:hasB l s=true:=by
    unfold hasB;rw [List.any_eq_true];refine ⟨s,?_,by simp⟩
    have:nth l k=s:=by grind
    rw [<-this,nth,List.getD_eq_getElem?_getD,List.getElem?_eq_getElem h2];simp
   exact aK (by simp [E.den,hb])
  ·simp only [E.den,aa,aj,ak,lD,jg] at h3
   refine fT h2 ?_ fun i hi=> ?_
   ·simp only [E.den,aa,aj,ak]
    rw [eM (by omega) (by omega)];rfl
   ·rcases Nat.lt_or_ge i k with h|h
    ·exact hI i h
    ·obtain rfl:i=k:=by omega
     grind
 ·simp only [E.den,aa,aj,ak] at h2
  obtain rfl:k=l.length:=by simp at h2;omega
  have hb:hasB l s=false:=by
   unfold hasB;rw [List.any_eq_false];intro t h
   obtain ⟨i,hi,rfl⟩:=List.getElem_of_mem h
   have:=hI i hi
   simpa [nth,List.getD_eq_getElem?_getD,hi] using this
  exact aK (by simp [E.den,hb])
theorem VB(l:List ByteArray)(s:ByteArray):aG Tryz.prog 84 none [bg l,.str s] (.bool (hasB l s)) []:=by
 refine aG.bV aho afD rfl ?_ (fun hfit=> ?_)
 ·exact ⟨rS l,trivial,trivial⟩
 have hl:l.length<=9223372036854775807:=qL hfit.1
 unfold Sk
 refine gJ l.length (fun k=>[.int .i64 k]) (fun k=> ∀i,i<k->nth l i≠s) rfl (by omega) ?_
 intro k hk hI _
 simp only [cA]
 refine aL (fun h2=> ?_) (fun h2=> ?_)
 ·simp only [E.den,aa,aj,ak] at h2
  have h2:k<l.length:=by simp at h2;exact h2
  (refine bH (fun hg=> ?_) ?_;(focus (simp only [bE,gE,E.den,aa,aj,ak] at hg ⊢;(try simp only [D.bool.injEq] at hg);(try simp only [D.bool.injEq]);grind)))
  refine aL (fun h3=> ?_) (fun h3=> ?_)
  ·simp only [E.den,aa,aj,ak,lD,jg] at h3
   have hb:hasB l s=true:=by
    unfold hasB;rw [List.any_eq_true];refine ⟨s,?_,by simp⟩
    have:nth l k=s:=by grind
    rw [<-this,nth,List.getD_eq_getElem?_getD,List.getElem?_eq_getElem h2];simp
   exact aK (by simp [E.den,hb])
  ·simp only [E.den,aa,aj,ak,lD,jg] at h3
   refine fT h2 ?_ fun i hi=> ?_
   ·simp only [E.den,aa,aj,ak]
    rw [eM (by omega) (by omega)];rfl
   ·rcases Nat.lt_or_ge i k with h|h
    ·exact hI i h
    ·obtain rfl:i=k:=by omega
     grind
 ·simp only [E.den,aa,aj,ak] at h2
  obtain rfl:k=l.length:=by simp at h2;omega
  have hb:hasB l s=false:=by
   unfold hasB;rw [List.any_eq_false];intro t h
   obtain ⟨i,hi,rfl⟩:=List.getElem_of_mem h
   have:=hI i hi
   simpa [nth,List.getD_eq_getElem?_getD,hi] using this
  exact aK (by simp [E.den,hb])
end
section
open Go.RowKit Go
variable [GC]
def mStart:ByteArray:=⟨#[83,116,97,114,116]⟩
def cj:ByteArray:=⟨#[83,116,111,112]⟩
def gy:ByteArray:=⟨#[71,101,116]⟩
def fw:ByteArray:=⟨#[80,117,116]⟩
def ep:ByteArray:=⟨#[84,101,108,108]⟩
def fe:ByteArray:=⟨#[72,101,97,114]⟩
def jN:ByteArray:=⟨#[76,111,97,100]⟩
def rI:ByteArray:=⟨#[83,97,118,101]⟩
def fc:ByteArray:=⟨#[72,101,97,108]⟩
def methods:Nat->List ByteArray
 | 0=>[mStart,cj]
 | 1=>[gy,fw]
 | 2=>[ep]
 | 3=>[fe]
 | 4=>[jN,rI]
 | 5=>[fc]
 | _=>[]
theorem aaR(k:Nat)(hk:k<6)(v0 v1 v2 v3 v4 v5:Value)(w:World):(Instr.index 126 (.agg #[v0,v1,v2,v3,v4,v5]) (.int .i64 k)).run Tryz.prog w= .ok ([v0,v1,v2,v3,v4,v5].getD k (.bool false)) w:=by
 obtain rfl|rfl|rfl|rfl|rfl|rfl:k=0\/k=1\/k=2\/k=3\/k=4\/k=5:=by omega
 all_goals kernel_rfl
theorem aaS: ∀(k:Fin 6),∀s,s∈methods k.val->s.size<=maxLen:=by decide
theorem adm(k:Nat)(hk:k<6)(w:World)(M:Addr->Prop)(hM: ∀p,M p->p.block<w.heap.size) :
  Calls Tryz.prog 93 #[.int .i64 k] w fun e w'=> ∃v,e= .returned v/\R w' M (bg (methods k)) v/\Below w.heap.size w w':=by
 have hi:=aaR k hk
 go_enter Tryz.func93,Tryz.ntmps93
 go_wp2
 go_returns
 refine ⟨_,rfl,?_,by go_grown⟩
 have hz:=aaS ⟨k,hk⟩
 have hm: ∀n,∀o,¬M ⟨w.heap.size+n,o,none⟩:=fun n o h=>by have:=hM _ h;simp at this;omega
 obtain rfl|rfl|rfl|rfl|rfl|rfl:k=0\/k=1\/k=2\/k=3\/k=4\/k=5:=by omega
 ·exact uE _ (lO (lO (lO (lO (lO (vm (by simp))))))) rfl rfl (hm 0) hz (by decide)
 ·exact uE _ (lO (lO (lO (lO (vm (by simp)))))) rfl rfl (hm 1) hz (by decide)
 ·exact uE _ (lO (lO (lO (vm (by simp))))) rfl rfl (hm 2) hz (by decide)
 ·exact uE _ (lO (lO (vm (by simp)))) rfl rfl (hm 3) hz (by decide)
 ·exact uE _ (lO (vm (by simp))) rfl rfl (hm 4) hz (by decide)
 ·exact uE _ (vm (by simp)) rfl rfl (hm 5) hz (by decide)
theorem Vd(k:Nat)(hk:k<6):aG Tryz.prog 93 none [.int .i64 k] (bg (methods k)) []:=by
 refine aG.abb (by kernel_rfl) fun w M vs hM hr=> ?_
 obtain ⟨v,q,rfl,⟨rfl,_⟩,rfl⟩:=hr
 exact adm k hk w M hM
theorem VF(k:Nat)(hk:k<6):dw Tryz.prog 85 none [.int .i64 k] (bg (methods k)) [] [(0,1)]:=by
 refine dw.bV ahs afK ab8 rfl ?_ (fun hfit=> ?_)
 ·exact ⟨rfl,trivial⟩
 unfold Sq
 obtain rfl|rfl|rfl|rfl|rfl|rfl:k=0\/k=1\/k=2\/k=3\/k=4\/k=5:=by omega
 all_goals
  simp [VC.den,E.den,bb]
  rfl
def xp(s:ByteArray)(k:Nat):Bool:=hasB (methods k) s
def gD(s:ByteArray):Int:=match jV (xp s) 6 with|some k=>k|none=> -1
theorem Kb(s:ByteArray):aG Tryz.prog 69 none [.str s] (.int .i64 (gD s)) []:=by
 refine aG.bV agd adz rfl ?_ (fun hfit=> ?_)
 ·exact ⟨trivial,trivial⟩
 unfold QU
 refine gJ 6 (fun k=>[.int .i64 k]) (fun k=> ∀i,i<k->xp s i=false) rfl (by omega) ?_
 intro k hk hI _
 simp only [cA]
 refine aL (fun h2=> ?_) (fun h2=> ?_)
 ·simp only [E.den,aa,aj,ak] at h2
  have h2:k<6:=by simp at h2;omega
  (refine bD ?_ (Vd k h2) (rS _) ?_;(focus (simp only [VC.den,E.den,aa,aP,and_true];try exact rfl));(simp only [cA]))
  (refine bD ?_ (Vc (methods k) s) (trivial) ?_;(focus (simp only [VC.den,E.den,aa,aP,and_true];try exact rfl));(simp only [cA]))
  refine aL (fun h3=> ?_) (fun h3=> ?_)
  ·simp only [E.den,aa,aj,ak] at h3
   refine aK ?_
   simp [E.den,gD,C6 h3 hI h2]
  ·simp only [E.den,aa,aj,ak] at h3
   refine fT h2 ?_ fun i hi=> ?_
   ·simp only [E.den,aa,aj,ak]
    rw [eM (by omega) (by omega)];rfl
   ·rcases Nat.lt_or_ge i k with h|h
    ·exact hI i h
    ·obtain rfl:i=k:=by omega
     exact h3
 ·simp only [E.den,aa,aj,ak] at h2
  obtain rfl:k=6:=by simp at h2;omega
  exact aK (by simp [E.den,gD,Ab hI])
theorem Vr(s:ByteArray):aG Tryz.prog 59 none [.str s] (.int .i64 (gD s)) []:=by
 refine aG.bV ag4 ae4 rfl ?_ (fun hfit=> ?_)
 ·exact ⟨trivial,trivial⟩
 unfold RQ
 refine gJ 6 (fun k=>[.int .i64 k]) (fun k=> ∀i,i<k->xp s i=false) rfl (by omega) ?_
 intro k hk hI _
 simp only [cA]
 refine aL (fun h2=> ?_) (fun h2=> ?_)
 ·simp only [E.den,aa,aj,ak] at h2
  have h2:k<6:=by simp at h2;omega
  (refine nS ?_ (VF k h2) (rS _) ?_;(focus (simp only [VC.den,E.den,aa,aP,and_true];try exact rfl));(simp only [cA]))
  (refine bD ?_ (VB (methods k) s) (trivial) ?_;(focus (simp only [VC.den,E.den,aa,aP,and_true];try exact rfl));(simp only [cA]))
  refine aL (fun h3=> ?_) (fun h3=> ?_)
  ·simp only [E.den,aa,aj,ak] at h3
   refine aK ?_
   simp [E.den,gD,C6 h3 hI h2]
  ·simp only [E.den,aa,aj,ak] at h3
   refine fT h2 ?_ fun i hi=> ?_
   ·simp only [E.den,aa,aj,ak]
    rw [eM (by omega) (by omega)];rfl
   ·rcases Nat.lt_or_ge i k with h|h
    ·exact hI i h
    ·obtain rfl:i=k:=by omega
     exact h3
 ·simp only [E.den,aa,aj,ak] at h2
  obtain rfl:k=6:=by simp at h2;omega
  exact aK (by simp [E.den,gD,Ab hI])
theorem JL(s:ByteArray):gD s<6:=by
 unfold gD
 cases h:jV (xp s) 6 with
 | none=>simp
 | some k=>have:=(C5 h).1;simp;omega
def bK(s:ByteArray):Int:=if gD s<0 then 0 else ((2^(gD s).toNat:Nat):Int)
theorem SL(s:ByteArray):(bK s=0)↔gD s<0:=by
 unfold bK
 split
 ·simp [*]
 ·have:=Nat.two_pow_pos (gD s).toNat
  constructor<;>intro h<;>omega
theorem Ct(s:ByteArray):aG Tryz.prog 31 none [.str s] (.int .i64 (bK s)) []:=by
 refine aG.bV ahn afB rfl ?_ (fun hfit=> ?_)
 ·exact ⟨trivial,trivial⟩
 unfold Sj
 (refine bD ?_ (Vr s) (rfl) ?_;(focus (simp only [VC.den,E.den,aa,aP,and_true];try exact rfl));(simp only [cA]))
 refine aL (fun h=> ?_) (fun h=> ?_)
 ·simp only [E.den,aa,aj,ak] at h
  have h:gD s<0:=by simpa using h
  exact aK (by simp [E.den,bK,h])
 simp only [E.den,aa,aj,ak] at h
 have h: ¬gD s<0:=by simpa using h
 have h6:=JL s
 refine bH (fun _=> ?_) (aK ?_)
 ·simp [E.den,bb];omega
 ·have e:=JP ⟨(gD s).toNat,by omega⟩
  have e2:(((gD s).toNat:Nat):Int)=gD s:=by omega
  rw [e2] at e
  simp only [E.den,aa,aj,ak,e]
  simp [bK,h]
def eH(c:Call):Bool:= !decide (gD c.method<0)&&(decide (c.text=cS)||decide (c.method=jN)) &&
 ((decide (c.method=gy)||decide (c.method=fw))&&kY c.key|| !(decide (c.method=gy)||decide (c.method=fw))&&decide (c.key=cS)) &&
 (decide (c.val=0)||(decide (c.method=fw)||decide (c.method=fe))&&decide (0<c.val)&&decide (c.val<=999))
theorem HZ:gy≠fw/\gy≠fe/\fw≠fe:=by decide
theorem Kk(c:Call):aG Tryz.prog 28 none [enc c] (.bool (eH c)) []:=by
 refine aG.bV ag9 afd rfl ?_ (fun hfit=> ?_)
 ·exact ⟨BS c,trivial⟩
 unfold RW
 (refine bD ?_ (Ct c.method) (rfl) ?_;(focus (simp only [VC.den,E.den,aa,aP,and_true,cF];try exact rfl));(simp only [cA]))
 (refine bD ?_ (Kn c.key) (trivial) ?_;(focus (simp only [VC.den,E.den,aa,aP,and_true,cF];try exact rfl));(simp only [cA]))
 refine aL (fun h=> ?_) (fun h=> ?_)
 ·simp only [E.den,aa,aj,ak,cF] at h
  have:=SL c.method
  have:=HZ
  refine aK ?_
  simp only [E.den,D.bool.injEq]
  unfold eH gy fw fe jN cS at *;grind
 simp only [E.den,aa,aj,ak,cF] at h
 have:=SL c.method
 have:=HZ
 refine aK ?_
 simp only [E.den,aa,aj,ak,cF]
 simp only [D.bool.injEq]
 unfold eH gy fw fe jN cS at *;grind
theorem U0(c:Call):aG Tryz.prog 37 none [enc c] (.bool (eH c)) []:=by
 refine aG.bV agi adG rfl ?_ (fun hfit=> ?_)
 ·exact ⟨BS c,trivial⟩
 have hn:=HZ
 unfold QY
 (refine bD ?_ (Kb c.method) (rfl) ?_;(focus (simp only [VC.den,E.den,aa,aP,and_true,cF];try exact rfl));(simp only [cA]))
 refine aL (fun h=> ?_) (fun h=> ?_)
 ·simp only [E.den,aa,aj,ak,cF] at h
  refine aK ?_
  simp only [E.den,D.bool.injEq]
  unfold eH gy fw fe jN cS at *;grind
 simp only [E.den,aa,aj,ak,cF] at h
 refine aL (fun h1=> ?_) (fun h1=> ?_)
 ·simp only [E.den,aa,aj,ak,cF] at h1
  (refine bD ?_ (Fj c.key) (trivial) ?_;(focus (simp only [VC.den,E.den,aa,aP,and_true,cF];try exact rfl));(simp only [cA]))
  refine aK ?_
  simp only [E.den,aa,aj,ak,cF]
  simp only [D.bool.injEq]
  unfold eH gy fw fe jN cS at *;grind
 simp only [E.den,aa,aj,ak,cF] at h1
 refine aL (fun h2=> ?_) (fun h2=> ?_)
 ·simp only [E.den,aa,aj,ak,cF] at h2
  (refine bD ?_ (Fj c.key) (trivial) ?_;(focus (simp only [VC.den,E.den,aa,aP,and_true,cF];try exact rfl));(simp only [cA]))
  (refine bD ?_ (zO c.val) (trivial) ?_;(focus (simp only [VC.den,E.den,aa,aP,and_true,cF];try exact rfl));(simp only [cA]))
  refine aK ?_
  simp only [E.den,aa,aj,ak,cF]
  simp only [D.bool.injEq]
  unfold eH gy fw fe jN cS fg at *;grind
 simp only [E.den,aa,aj,ak,cF] at h2
 refine aL (fun h3=> ?_) (fun h3=> ?_)
 ·simp only [E.den,aa,aj,ak,cF] at h3
  (refine bD ?_ (zO c.val) (trivial) ?_;(focus (simp only [VC.den,E.den,aa,aP,and_true,cF];try exact rfl));(simp only [cA]))
  refine aK ?_
  simp only [E.den,aa,aj,ak,cF]
  simp only [D.bool.injEq]
  unfold eH gy fw fe jN cS fg at *;grind
 simp only [E.den,aa,aj,ak,cF] at h3
 refine aK ?_
 simp only [E.den,aa,aj,ak,cF]
 simp only [D.bool.injEq]
 unfold eH gy fw fe jN cS at *;grind
end
section
def eO(n:Nat):List UInt8 :=
 if n<10 then [UInt8.ofNat (48+n)] else if n<100 then [UInt8.ofNat (48+n/10),UInt8.ofNat (48+n%10)] else [UInt8.ofNat (48+n/100),UInt8.ofNat (48+n/10%10),UInt8.ofNat (48+n%10)]
theorem Fw{n:Nat}(h:n<1000):Lib.decDigits n=eO n:=by
 unfold eO
 by_cases h1:n<10
 ·rw [if_pos h1,Lib.decDigits,dif_pos h1]
 ·rw [if_neg h1,Lib.decDigits,dif_neg h1]
  by_cases h2:n<100
  ·rw [if_pos h2,Lib.decDigits,dif_pos (by omega)];rfl
  ·rw [if_neg h2,Lib.decDigits,dif_neg (by omega),Lib.decDigits,dif_pos (by omega),show n/10/10=n/100 by omega];rfl
def Hg(b:UInt8):Bool:=decide (48<=b.toNat/\b.toNat<=57)
def nJ(l:List UInt8):Int:=(l.take 4).foldl (fun n c=>10*n+(c.toNat:Int)-48) 0
theorem zX: ∀n∈List.range 1000,(Lib.atoi (eO n)=some (n:Int)/\nJ (eO n)=(n:Int)/\0<(eO n).length/\(eO n).length<=3)/\(eO n).all Hg=true:=by decide +kernel
theorem FB{n:Nat}(h:n<1000):Lib.atoi (eO n)=some (n:Int):=(zX n (List.mem_range.2 h)).1.1
theorem Wu{n:Nat}(h:n<1000):nJ (eO n)=(n:Int):=(zX n (List.mem_range.2 h)).1.2.1
theorem KG{n:Nat}(h:n<1000):0<(eO n).length:=(zX n (List.mem_range.2 h)).1.2.2.1
theorem xA{n:Nat}(h:n<1000):(eO n).length<=3:=(zX n (List.mem_range.2 h)).1.2.2.2
theorem Ws{n:Nat}(h:n<1000):(eO n).all Hg=true:=(zX n (List.mem_range.2 h)).2
theorem Wt{n m:Nat}(hn:n<1000)(hm:m<1000)(h:eO n=eO m):n=m:=by
 have h1:=FB hn
 have h2:=FB hm
 rw [h,h2] at h1
 simp at h1;omega
def gY(l:List UInt8):Option Nat:=(List.range 1000).find? fun n=>decide (eO n=l)
theorem rK{l:List UInt8}{n:Nat}:gY l=some n↔n<1000/\eO n=l:=by
 unfold gY
 constructor
 ·intro h
  exact ⟨List.mem_range.1 (List.mem_of_find?_eq_some h),by simpa using List.find?_some h⟩
 ·rintro ⟨h1,h2⟩
  cases hf:(List.range 1000).find? fun n=>decide (eO n=l) with
  | none=>have:=List.find?_eq_none.1 hf n (List.mem_range.2 h1);simp [h2] at this
  | some m =>
   have hm:=List.mem_range.1 (List.mem_of_find?_eq_some hf)
   have he:eO m=l:=by simpa using List.find?_some hf
   rw [Wt hm h1 (he.trans h2.symm)]
theorem aa9{n:Nat}(h:n<1000):gY (eO n)=some n:=rK.2 ⟨h,rfl⟩
theorem Pf{c:UInt8}{t l:List UInt8}(h:l.head?≠some c):(c::t).isPrefixOf l=false:=by
 cases l with
 | nil=>rfl
 | cons b r =>
  have:c≠b:=fun e=>h (by simp [e])
  simp [List.isPrefixOf,this]
theorem index_none'{c:UInt8}{t:List UInt8}: ∀{x:List UInt8},c∉x->Lib.index x (c::t)= -1
 | [],_=>rfl
 | b::x,h=>by
  unfold Lib.index
  rw [Pf (by intro e;simp at e;exact h (by simp [e])),index_none' (x:=x) (fun e=>h (by simp [e]))]
  rfl
theorem Hf{c:UInt8}{t rest:List UInt8}: ∀{x:List UInt8},c∉x->Lib.index (x++((c::t)++rest)) (c::t)=x.length
 | [],_=>by
  simp only [List.nil_append,List.cons_append,List.length_nil]
  unfold Lib.index
  have:(c::t).isPrefixOf (c::(t++rest))=true:=by
   rw [List.isPrefixOf_iff_prefix]
   exact ⟨rest,rfl⟩
  rw [this];rfl
 | b::x,h=>by
  have hx:c∉x:=fun e=>h (by simp [e])
  have ih:=Hf (t:=t) (rest:=rest) hx
  rw [List.cons_append]
  unfold Lib.index
  rw [Pf (by intro e;simp at e;exact h (by simp [e])),ih]
  simp
theorem Es{s sep:List UInt8}(h:Lib.index s sep= -1):Lib.split s sep=[s]:=by
 unfold Lib.split
 rw [Lib.count_miss h];rfl
theorem IU{s sep:List UInt8}{i:Nat}(AR:sep≠[])(h:Lib.index s sep=i):Lib.split s sep=s.take i::Lib.split (s.drop (i+sep.length)) sep:=by
 unfold Lib.split
 rw [Lib.count_hit AR h,Nat.add_comm 1,Lib.splitK]
 rw [if_neg (by rw [h];simp),h]
 simp
theorem Hl{sep:List UInt8}(AR:sep≠[]): ∀(n:Nat) (s:List UInt8),s.length<=n->Lib.join (Lib.split s sep) sep=s/\Lib.split s sep≠[]
 | n,s,hn=>by
  rcases Lib.index_spec s sep with ⟨h,_⟩|⟨i,h,h1,h2,_⟩
  ·rw [Es h];exact ⟨Lib.join_one _ _,by simp⟩
  ·rw [IU AR h]
   have hroom:=Lib.index_room s sep (by rw [h];omega)
   have hpos:0<sep.length:=List.length_pos_iff.2 AR
   rw [h] at hroom
   have hlt:(s.drop (i+sep.length)).length<s.length:=by simp;omega
   cases n with
   | zero=>omega
   | succ n =>
    obtain ⟨q1,q2⟩:=Hl AR n (s.drop (i+sep.length)) (by omega)
    refine ⟨?_,by simp⟩
    cases hsp:Lib.split (s.drop (i+sep.length)) sep with
    | nil=>exact absurd hsp q2
    | cons y r =>
     rw [hsp] at q1
     have e:Lib.join (s.take i::y::r) sep=s.take i++(sep++Lib.join (y::r) sep):=by
      rw [Lib.join_cons,Lib.join_cons]
      simp [Lib.joinTail]
     rw [e,q1]
     have Nc:=Lib.occAt_iff_take s sep i (by omega)
     rw [h2] at Nc
     have hs:(s.drop i).take sep.length=sep:=by simpa using Nc.symm
     have e2:s.drop (i+sep.length)=(s.drop i).drop sep.length:=by rw [List.drop_drop]
     rw [e2]
     conv=>lhs;rw [show sep++(s.drop i).drop sep.length=(s.drop i).take sep.length++(s.drop i).drop sep.length by rw [hs]]
     rw [List.take_append_drop,List.take_append_drop]
theorem Wf{c:UInt8}{t rest x:List UInt8}(h:c∉x):Lib.cut (x++((c::t)++rest)) (c::t)=(x,rest,true):=by
 unfold Lib.cut
 rw [Hf h,if_pos (by omega)]
 simp
theorem Wh{c:UInt8}{t x:List UInt8}(h:c∉x):Lib.cut x (c::t)=(x,[],false):=by
 unfold Lib.cut
 rw [index_none' h];rfl
end
end Go.Proofs.YtimickglpboilaaGreatDoor
