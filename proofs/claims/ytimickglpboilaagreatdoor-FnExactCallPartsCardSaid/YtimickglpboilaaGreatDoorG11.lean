/- Writing marks into memory of one's own: what stays, what the shape of data is, a row of leaves with one cell written. No program in sight. -/
import Derived.Test.YtimickglpboilaaGreatDoorG10
set_option linter.unusedVariables false
set_option linter.unusedSimpArgs false
set_option linter.unusedSectionVars false
set_option maxRecDepth 100000
namespace Go.Proofs.YtimickglpboilaaGreatDoor
section
open Go.RowKit Go
variable [GC]
def xo(u u':Value):Prop:=u'=u\/(∃s s':ByteArray,u= .string s/\u'= .string s'/\s'.size<=maxLen)\/ ∃(k:IntKind) (n n':Int),u= .int k n/\u'= .int k n'/\k.min<=n'/\n'<=k.max
theorem xo.trans{a b c:Value}(h:xo a b)(h':xo b c):xo a c:=by
 rcases h with rfl|⟨s,s',rfl,rfl,h⟩|⟨k,n,n',rfl,rfl,h⟩
 ·exact h'
 ·rcases h' with rfl|⟨t,t',e,rfl,h'⟩|⟨k,n,n',e,_⟩
  ·exact .inr (.inl ⟨s,s',rfl,rfl,h⟩)
  ·exact .inr (.inl ⟨s,t',rfl,rfl,h'⟩)
  ·cases e
 ·rcases h' with rfl|⟨t,t',e,_⟩|⟨k',m,m',e,rfl,h'⟩
  ·exact .inr (.inr ⟨k,n,n',rfl,rfl,h⟩)
  ·cases e
  ·cases e
   exact .inr (.inr ⟨k,n,m',rfl,rfl,h'⟩)
structure Alt(A:Addr->Prop)(w w':World):Prop where
 size:w.heap.size<=w'.heap.size
 xR: ∀p:Addr,p.block<w.heap.size->w'.frozen? p=w.frozen? p
 keep: ∀p v,w.cell? p=some v-> ¬A p->w'.cell? p=some v
 same: ∀p u,w.cell? p=some u-> ∃u',w'.cell? p=some u'/\xo u u'
 env:w'.os=w.os/\w'.tape=w.tape/\w'.output=w.output
 blk: ∀k,k<w.heap.size->(∀p:Addr,p.block=k-> ¬A p)->w'.heap[k]? =w.heap[k]?
theorem Alt.refl(A:Addr->Prop)(w:World):Alt A w w:=⟨Nat.le_refl _,fun _ _=>rfl,fun _ _ h _=>h,fun _ u h=>⟨u,h,.inl rfl⟩,⟨rfl,rfl,rfl⟩,fun _ _ _=>rfl⟩
theorem Alt.trans{A:Addr->Prop}{w w' w'':World}(h:Alt A w w')(h':Alt A w' w''):Alt A w w'' where
 size:=Nat.le_trans h.size h'.size
 xR:=fun p hp=>by rw [h'.xR p (Nat.lt_of_lt_of_le hp h.size),h.xR p hp]
 keep:=fun p v hp ha=>h'.keep p v (h.keep p v hp ha) ha
 same:=fun p u hp=>by
  obtain ⟨u1,h1,h2⟩:=h.same p u hp
  obtain ⟨u2,h3,h4⟩:=h'.same p u1 h1
  exact ⟨u2,h3,h2.trans h4⟩
 env:=⟨h'.env.1.trans h.env.1,h'.env.2.1.trans h.env.2.1,h'.env.2.2.trans h.env.2.2⟩
 blk:=fun k hk ha=>(h'.blk k (Nat.lt_of_lt_of_le hk h.size) ha).trans (h.blk k hk ha)
theorem Alt.mono{A A':Addr->Prop}{w w':World}(h:Alt A w w')(hA: ∀p,p.block<w.heap.size->A p->A' p):Alt A' w w' :=
 ⟨h.size,h.xR,fun p v hp ha=>h.keep p v hp fun h=>ha (hA p (block_lt_of_cell hp) h),h.same,h.env,fun k hk ha=>h.blk k hk fun p hp hq=>ha p hp (hA p (by rw [hp];exact hk) hq)⟩
theorem xS{w w':World}{p:Addr}(h:w'.heap[p.block]? =w.heap[p.block]?):w'.frozen? p=w.frozen? p:=by
 unfold World.frozen?;rw [h]
theorem Alt.below{A:Addr->Prop}{w w':World}(h:Below w.heap.size w w'):Alt A w w' :=
 ⟨h.size,fun p hp=>xS (h.block p.block hp),fun p v hp _=>by rw [h.cell (block_lt_of_cell hp)];exact hp,fun p u hp=>⟨u,by rw [h.cell (block_lt_of_cell hp)];exact hp,.inl rfl⟩,⟨h.os,h.tape,h.output⟩,fun k hk _=>h.block k hk⟩
theorem E8{w:World}{a p:Addr}{v:Value}(h:p≠a)(hs:a.spot=none)(hp:p.spot=none\/True):(w.setCell a v).cell? p=w.cell? p\/(p.block=a.block/\p.off=a.off):=by
 by_cases hb:p.block=a.block
 ·by_cases ho:p.off=a.off
  ·exact .inr ⟨hb,ho⟩
  ·left
   unfold World.cell? World.setCell
   rw [hb]
   simp only [Array.getElem?_modify]
   cases hw:w.heap[a.block]? with
   | none=>simp
   | some x =>
    cases x with
    | cells c e f =>
     simp only [hs,Option.isSome_none,Option.map_some,if_true]
     split
     ·rfl
     ·simp [Array.getElem?_setIfInBounds,Ne.symm ho]
    | _=>simp
 ·left
  exact World.cell?_of_block (Below.heap_setCell _ _ _ _ hb)
theorem Cw{w:World}{p:Addr}{v:Value}(h:w.cell? p=some v):p.spot=none:=by
 unfold World.cell? at h
 split at h
 ·split at h
  ·cases h
  ·rename_i hs;simpa using hs
 ·cases h
theorem Kx{w:World}{a:Addr}{u v:Value}(h:w.cell? a=some u):(w.setCell a v).cell? a=some v:=by
 have hs:=Cw h
 unfold World.cell? World.setCell at *
 simp only [Array.getElem?_modify,if_true]
 cases hw:w.heap[a.block]? with
 | none=>rw [hw] at h;cases h
 | some x =>
  rw [hw] at h
  cases x with
  | cells c e f =>
   simp only [hs,Option.isSome_none,Bool.false_eq_true,if_false,Option.map_some] at h ⊢
   have:=(Array.getElem?_eq_some_iff.1 h).1
   simp [Array.getElem?_setIfInBounds,this]
  | _=>cases h
theorem size_setCell(w:World)(a:Addr)(v:Value):(w.setCell a v).heap.size=w.heap.size:=by unfold World.setCell;simp
theorem Xv(w:World)(a p:Addr)(v:Value):(w.setCell a v).frozen? p=w.frozen? p:=by
 unfold World.frozen? World.setCell
 simp only [Array.getElem?_modify]
 by_cases hb:a.block=p.block
 ·simp only [hb,if_true]
  cases hw:w.heap[p.block]? with
  | none=>simp
  | some x=>cases x<;>simp
 ·simp [hb]
theorem Alt.set{A:Addr->Prop}{w:World}{a:Addr}{u v:Value}(hA:A a)(h:w.cell? a=some u)(hs:xo u v):Alt A w (w.setCell a v):=by
 have hsp:=Cw h
 refine ⟨by rw [size_setCell];exact Nat.le_refl _,fun p _=>Xv _ _ _ _,fun p x hp ha=> ?_,fun p x hp=> ?_,⟨rfl,rfl,rfl⟩,fun k _ ha=>Below.heap_setCell _ _ _ _ fun e=>ha a e.symm hA⟩
 ·rcases E8 (w:=w) (v:=v) (p:=p) (a:=a) (fun e=>ha (by rw [e];exact hA)) hsp (.inr trivial) with h1|⟨h1,h2⟩
  ·rw [h1];exact hp
  ·have h3:=Cw hp
   have:p=a:=by cases p;cases a;simp_all
   exact absurd (this.symm▸hA) ha
 ·by_cases e:p=a
  ·subst e
   rw [h] at hp;cases hp
   exact ⟨v,Kx h,hs⟩
  ·rcases E8 (w:=w) (v:=v) (p:=p) (a:=a) e hsp (.inr trivial) with h1|⟨h1,h2⟩
   ·exact ⟨x,by rw [h1];exact hp,.inl rfl⟩
   ·have h3:=Cw hp
    exact absurd (by cases p;cases a;simp_all) e
theorem Alt.keeps{A M M':Addr->Prop}{w w':World}(h:Alt A w w')(hA: ∀p,A p->M p)(hM: ∀p,p.block<w.heap.size->M' p->M p):bb w M w' M' :=
 fun p v hp hn=>⟨h.keep p v hp fun ha=>hn (hA p ha),fun hm=>hn (hM p (block_lt_of_cell hp) hm)⟩
theorem R.up{w:World}{M:Addr->Prop}{d:D}{v:Value}(h:R w M d v):R w (fun p=>M p\/w.heap.size<=p.block) d v :=
 R.keep (fun p v hp hn=>⟨hp,fun hm=>hm.elim hn fun h=>by have:=block_lt_of_cell hp;omega⟩) d v h
theorem R.less{w:World}{M M':Addr->Prop}{d:D}{v:Value}(h:R w M d v)(hM: ∀p,M' p->M p):R w M' d v :=
 R.keep (fun p v hp hn=>⟨hp,fun hm=>hn (hM p hm)⟩) d v h
section
variable {w w':World}{A M M':Addr->Prop}
end
def pG:D->Bool
 | .bool _| .int _ _| .str _=>true
 | _=>false
theorem Oa{w w':World}{M M':Addr->Prop}{d:D}{v:Value}(hl:pG d=true)(h:R w M d v):R w' M' d v:=by
 cases d<;>simp [pG] at hl<;>exact h
theorem oY{w:World}{M:Addr->Prop}{rows:List (List D)}{n b o len cap:Nat}{s:Option Nat}(hn: ∀r∈rows,r.length=n)(h:R w M (.sl rows) (.slice (some ⟨b,o,s⟩) len cap)){i j:Nat}{r:List D}{d:D}(hi:rows[i]? =some r)(hj:r[j]? =some d) :
  ∃u,w.cell? ⟨b,o+i*n+j,none⟩=some u/\ ¬M ⟨b,o+i*n+j,none⟩/\R w M d u:=by
 obtain ⟨a,len',cap',e,h1,h2,h3,h4,h5⟩:=h
 cases e
 exact ((h5 b o s rfl).2.get hn hi).get hj
theorem FV{w:World}{M:Addr->Prop}{rows:List (List D)}{n b o len cap:Nat}{s:Option Nat}(hn: ∀r∈rows,r.length=n)(h1:len=rows.length)(h2:len<=cap)(h3:cap<=maxLen)(h4:0<len->s=none)
  (hc: ∀(i j:Nat) (r:List D) (d:D),rows[i]? =some r->r[j]? =some d-> ∃u,w.cell? ⟨b,o+i*n+j,none⟩=some u/\ ¬M ⟨b,o+i*n+j,none⟩/\R w M d u):R w M (.sl rows) (.slice (some ⟨b,o,s⟩) len cap):=by
 refine ⟨_,_,_,rfl,h1,h2,h3,(fun e=>by cases e),fun b' o' s' e=> ?_⟩
 cases e
 exact ⟨h4,dr.of hn fun i r hr=>Rw.of fun j d hd=>hc i j r d hr hd⟩
theorem LY{w:World}{M:Addr->Prop}{rows:List (List D)}{n b o len cap i j:Nat}{s:Option Nat}{r:List D}{x:D}{u:Value}(hn: ∀r∈rows,r.length=n)(hlf: ∀r∈rows,∀d∈r,pG d=true)
  (h:R w M (.sl rows) (.slice (some ⟨b,o,s⟩) len cap)) (hi:rows[i]? =some r) (hj:j<n) (hx: ∀(w:World) (M:Addr->Prop),R w M x u) :
  R (w.setCell ⟨b,o+i*n+j,none⟩ u) M (.sl (rows.set i (r.set j x))) (.slice (some ⟨b,o,s⟩) len cap):=by
 have hr:=hn r (List.mem_of_getElem? hi)
 have hlt:=(List.getElem?_eq_some_iff.1 hi).1
 have h0:=h
 obtain ⟨a,len',cap',e,h1,h2,h3,h4,h5⟩:=h
 cases e
 refine FV (n:=n) (fun r' hr'=> ?_) (by simpa using h1) h2 h3 (h5 b o s rfl).1 fun i' j' r' d hi' hj'=> ?_
 ·rcases List.mem_or_eq_of_mem_set hr' with h|rfl
  ·exact hn r' h
  ·simpa using hr
 ·have YL:r'.length=n:=by
   have:=List.mem_of_getElem? hi'
   rcases List.mem_or_eq_of_mem_set this with h|rfl
   ·exact hn r' h
   ·simpa using hr
  have Yq:j'<n:=by rw [<-YL];exact (List.getElem?_eq_some_iff.1 hj').1
  by_cases hij:i'=i/\j'=j
  ·obtain ⟨rfl,rfl⟩:=hij
   obtain ⟨d0,hd0⟩: ∃d0,r[j']? =some d0:=⟨_,List.getElem?_eq_getElem (by omega)⟩
   obtain ⟨u0,c1,c2,c3⟩:=oY hn h0 hi hd0
   rw [List.getElem?_set_self hlt] at hi'
   cases hi'
   rw [List.getElem?_set_self (by omega)] at hj'
   cases hj'
   exact ⟨u,Kx c1,c2,hx _ _⟩
  ·have hold: ∃r0,rows[i']? =some r0/\r0[j']? =some d:=by
    by_cases e:i'=i
    ·subst e
     rw [List.getElem?_set_self hlt] at hi'
     cases hi'
     refine ⟨r,hi,?_⟩
     rwa [List.getElem?_set_ne (fun e=>hij ⟨rfl,e.symm⟩)] at hj'
    ·rw [List.getElem?_set_ne (fun e'=>e e'.symm)] at hi'
     exact ⟨r',hi',hj'⟩
   obtain ⟨r0,q1,q2⟩:=hold
   obtain ⟨u0,c1,c2,c3⟩:=oY hn h0 q1 q2
   refine ⟨u0,?_,c2,Oa (hlf r0 (List.mem_of_getElem? q1) d (List.mem_of_getElem? q2)) c3⟩
   have hne:o+i'*n+j'≠o+i*n+j:=by
    intro e
    have e2:i'*n+j'=i*n+j:=by omega
    have h6:i'=i:=by
     have h7:(i'*n+j')/n=(i*n+j)/n:=by rw [e2]
     rwa [Nat.mul_comm i',Nat.mul_comm i,Nat.mul_add_div (by omega),Nat.mul_add_div (by omega),Nat.div_eq_of_lt Yq,Nat.div_eq_of_lt hj,Nat.add_zero,Nat.add_zero] at h7
    subst h6
    exact hij ⟨rfl,by omega⟩
   rcases E8 (w:=w) (v:=u) (p:=⟨b,o+i'*n+j',none⟩) (a:=⟨b,o+i*n+j,none⟩) (fun e=>hne (congrArg Addr.off e)) rfl (.inr trivial) with h7|⟨_,h7⟩
   ·rw [h7];exact c1
   ·exact absurd h7 hne
theorem aD.calls{P:Program}{f:FuncId}{ds:List D}{r:D}(h:aD P f none ds r []){w:World}{M:Addr->Prop}{vs:List Value}(hG:kf w M)(hr:Rs w M ds vs) :
  Calls P f vs.toArray w fun e w'=> ∃v,e= .returned v/\R w' M r v/\Below w.heap.size w w' :=
 (h.2 w M 0 vs hG hr (fun cs h=>by cases h)).mono fun e w' ⟨v,h1,h2,h3,_⟩=>⟨v,h1,h2,h3.jI⟩
theorem adO{P:Program}{w:World}{a:Addr}{u v:Value}(h:w.cell? a=some u)(hf:w.frozen? a=false)(hone:v.oneCell'=true):(store a v).run P w= .ok () (w.setCell a v):=by
 rw [run_store P w a v .plain hone,h,hf];rfl
theorem Alt.jI{A:Addr->Prop}{w w':World}{B:Nat}(h:Alt A w w')(hB:B<=w.heap.size)(hA: ∀p,A p->B<=p.block):Below B w w' :=
 ⟨h.env.1,h.env.2.1,h.env.2.2,h.size,fun k hk=>h.blk k (Nat.lt_of_lt_of_le hk hB) fun p hp ha=>by have:=hA p ha;omega⟩
theorem kZ{A:Addr->Prop}{w w':World}{h:Nat}{d:D}{v:Value}(hr:R w (fun p=>h<=p.block) d v)(ha:Alt A w w')(hA: ∀p,A p->h<=p.block):R w' (fun p=>h<=p.block) d v :=
 R.keep (ha.keeps hA fun _ _ hm=>hm) _ _ hr
theorem aX{w w':World}{h:Nat}{d:D}{v:Value}(hr:R w (fun p=>h<=p.block) d v)(hb:Below w.heap.size w w'):R w' (fun p=>h<=p.block) d v :=
 R.keep (bb.below hb fun _ _ hm=>hm) _ _ hr
theorem R.zero{w:World}{M:Addr->Prop}{d:D}{v:Value}(hr:R w M d v):R w (fun _=>False) d v:=R.less hr fun _ h=>h.elim
theorem R.over{w:World}{d:D}{v:Value}(hr:R w (fun _=>False) d v):R w (fun p=>w.heap.size<=p.block) d v:=R.less (R.up hr) fun _ h=> .inr h
def ik(n:Nat)(f:Nat->List D):List (List D):=(List.range n).map f
theorem Ir(n:Nat)(f:Nat->List D):(ik n f).length=n:=by simp [ik]
theorem pN{n:Nat}{f:Nat->List D}{i:Nat}(h:i<n):(ik n f)[i]? =some (f i):=by simp [ik,h]
theorem D3{n:Nat}{f:Nat->List D}{i:Nat}{x:List D}:(ik n f).set i x=ik n (fun a=>if a=i then x else f a):=by
 apply List.ext_getElem?
 intro j
 rw [List.getElem?_set]
 by_cases hj:j<n
 ·by_cases e:i=j
  ·subst e;simp [ik,hj]
  ·rw [if_neg e]
   simp [ik,hj]
   intro h;exact absurd h.symm e
 ·by_cases e:i=j
  ·subst e
   rw [if_pos rfl,if_neg (by simp [ik];omega),List.getElem?_eq_none (by simp [ik];omega)]
  ·rw [if_neg e,List.getElem?_eq_none (by simp [ik];omega),List.getElem?_eq_none (by simp [ik];omega)]
theorem um{n:Nat}{f g:Nat->List D}(h: ∀a,a<n->f a=g a):ik n f=ik n g:=by
 unfold ik
 exact List.map_congr_left fun a ha=>h a (by simpa using ha)
theorem D2{α:Type}[aZ α](l:List α):l.map aZ.cells=ik l.length fun a=>aZ.cells (nth l a):=by
 apply List.ext_getElem
 ·simp [ik]
 ·intro i h1 h2
  have hi:i<l.length:=by simpa using h1
  simp [ik,nth,List.getD_eq_getElem?_getD,hi]
theorem nV{n:Nat}{f:Nat->List D}{r:List D}(h:r∈ik n f): ∃a,a<n/\r=f a:=by
 unfold ik at h
 obtain ⟨a,ha,rfl⟩:=List.mem_map.1 h
 exact ⟨a,by simpa using ha,rfl⟩
end
section
open Go.RowKit Go
variable [GC]
def dN(n:Int)(P:Prop)(r:D):Prop:= ∃m:Int,r= .int .i64 m/\ -1<=m/\m<=n/\(0<=m->P)
theorem dN.no{n:Int}{P:Prop}(h:0<=n):dN n P (.int .i64 (-1)):=⟨-1,rfl,by omega,by omega,by omega⟩
theorem dN.ty{n:Int}{P:Prop}{r:D}(h:dN n P r):bU ay.tab (.one (.c (.int .i64))) r:=by obtain ⟨m,rfl,_⟩:=h;rfl
class Sm(α:Type) where
 sm:α->Prop
instance :Sm ByteArray:=⟨fun s=>s.size<=1048576⟩
instance {α:Type}[Inhabited α][Sm α]:Sm (List α):=⟨fun l=>l.length<=1048576/\ ∀k,k<l.length->Sm.sm (nth l k)⟩
theorem zk{s:ByteArray}:Sm.sm s↔s.size<=1048576:=Iff.rfl
theorem nW{α:Type}[Inhabited α][Sm α]{l:List α}:Sm.sm l↔l.length<=1048576/\ ∀k,k<l.length->Sm.sm (nth l k):=Iff.rfl
def qe{α:Type}[aZ α](l:List α)(z:List D)(k:Nat):List (List D):=(l.take k).map aZ.cells++List.replicate (l.length-k) z
theorem Fg{α:Type}[aZ α](l:List α)(z:List D):List.replicate l.length z=qe l z 0:=by simp [qe]
theorem Fe{α:Type}[aZ α](l:List α)(z:List D):D.sl (qe l z l.length)=aN l:=by simp [qe,aN]
theorem adw{α:Type}{cs l:List α}(h:l.length=cs.length):oM cs 0 l=l:=by
 apply List.ext_getElem?
 intro i
 rw [BD]
 split
 ·rw [Nat.sub_zero]
 ·rw [List.getElem?_eq_none (by omega),List.getElem?_eq_none (by omega)]
theorem Ff{α:Type}[aZ α]{l:List α}{z:List D}{k:Nat}(hk:k<l.length)(hz:(aZ.cells (nth l k)).length=z.length):mZ (qe l z k) k 0 (aZ.cells (nth l k))=qe l z (k+1):=by
 have hA:((l.take k).map (aZ.cells (α:=α))).length=k:=by simp;omega
 have hr:List.replicate (l.length-k) z=z::List.replicate (l.length-(k+1)) z:=by
  rw [show l.length-k=(l.length-(k+1))+1 by omega,List.replicate_succ]
 unfold mZ qe
 rw [hr]
 have hg:(((l.take k).map aZ.cells++z::List.replicate (l.length-(k+1)) z).getD k [])=z:=by
  rw [List.getD,List.getElem?_append_right (by omega),hA,Nat.sub_self];rfl
 rw [hg,adw hz,List.set_append_right _ _ (by omega),hA,Nat.sub_self,List.set_cons_zero,List.take_succ_eq_append_getElem hk,List.map_append]
 have:nth l k=l[k]:=by simp [nth,hk]
 rw [this]
 simp
instance :Sm fV:=⟨fun x=>Sm.sm x.name⟩
theorem aje(x:fV)(n:Int)(h0:0<=n)(h1:n<=1048576): ∃r,dN n (Sm.sm x) r/\aD Tryz.prog 51 none [enc x,.int .i64 n] r []:=by
 refine aD.qU ahQ rfl afx ⟨I5 x,rfl,trivial⟩ (.int .i64 (-1)) (dN.no h0) fun hfit=> ?_;unfold RR
 have hf:=hfit.1
 simp only [enc,Fits,ju,dU] at hf
 have hs0:x.name.size<=9223372036854775807:=tH (by simp only [Fits];exact hf.1)
 have e0:cv .sub .i64 n x.name.size=n-x.name.size:=jO (by omega) (by omega)
 refine aG (fun h=>⟨dN.no h0,rfl⟩) (fun g0=> ?_)
 simp only [E.den,List.map_cons,List.map_nil,List.getD_cons_zero,List.getD_cons_succ,D.cQ,D.eX,D.eY,fX,gR,gQ,eQ,gF,ju,e0] at g0
 simp at g0
 refine ⟨⟨(n-x.name.size),?_,by omega,by omega,fun _=>zk.2 (by omega)⟩,rfl⟩
 simp only [E.den,List.map_cons,List.map_nil,List.getD_cons_zero,List.getD_cons_succ,D.cQ,D.eX,D.eY,fX,gR,gQ,eQ,gF,ju,e0]
theorem ajf(l:List fV)(n:Int)(h0:0<=n)(h1:n<=1048576): ∃r,dN n (Sm.sm l) r/\aD Tryz.prog 25 none [aN l,.int .i64 n] r []:=by
 refine aD.qU ahP rfl afw ⟨I6 l,rfl,trivial⟩ (.int .i64 (-1)) (dN.no h0) fun hfit=> ?_;unfold RS
 have hl:l.length<=9223372036854775807:=ow hfit.1
 have e:cv .sub .i64 n l.length=n-l.length:=jO (by omega) (by omega)
 refine aG (fun h=> ?_) (fun h=> ?_)
 ·exact ⟨dN.no h0,rfl⟩
 simp only [E.den,List.map_cons,List.map_nil,List.getD_cons_zero,List.getD_cons_succ,D.cQ,D.eX,D.eY,fX,gR,gQ,eQ,gF,e] at h
 simp at h
 refine zW (Int×Nat) (fun s=>[.int .i64 s.1,.int .i64 s.2]) (fun s=>s.2<=l.length/\s.1<=n-l.length/\0<=s.1/\ ∀i,i<s.2->Sm.sm (nth l i)) (fun s=>l.length-s.2) (n-l.length,0) (fun s s' h=>by simp at h;omega) ?_ ⟨by omega,by omega,by omega,by omega⟩ ?_
 ·simp only [E.den,List.map_cons,List.map_nil,List.getD_cons_zero,List.getD_cons_succ,D.cQ,D.eX,D.eY,fX,gR,gQ,eQ,gF,e];rfl
 rintro ⟨m,k⟩ ⟨hk,hm,hm0,hI⟩ -
 simp only at hk hm hm0 hI
 simp only [cA]
 refine aG (fun h2=> ?_) (fun h2=> ?_)
 ·simp [E.den,aS] at h2
  refine bh (fun hg=> ?_) ?_
  ·simp [E.den];omega
  (refine xB ?_ (aje (nth l k) m hm0 (by omega)) (fun _ h=>dN.ty h) ?_;(focus (simp only [VC.den,E.den,aa,aK,and_true,oL,Int.toNat_natCast];try exact rfl));rintro _ ⟨q,rfl,q1,q2,q3⟩;(simp only [cA]))
  refine aG (fun h3=> ?_) (fun h3=> ?_)
  ·exact ⟨dN.no h0,rfl⟩
  simp only [E.den,List.map_cons,List.map_nil,List.getD_cons_zero,List.getD_cons_succ,D.cQ,D.eX,D.eY,fX,gR,gQ,eQ,gF] at h3
  simp at h3
  refine ⟨(q,k+1),?_,⟨by omega,by omega,h3,fun i hi=> ?_⟩,by omega⟩
  ·simp only [E.den,List.map_cons,List.map_nil,List.getD_cons_zero,List.getD_cons_succ,D.cQ,D.eX,D.eY,fX,gR,gQ,eQ,gF];rw [db (by omega) (by omega)];rfl
  rcases Nat.lt_or_ge i k with h'|h'
  ·exact hI i h'
  ·obtain rfl:i=k:=by omega
   exact q3 h3
 ·simp [E.den,aS] at h2
  obtain rfl:k=l.length:=by omega
  exact ⟨⟨m,rfl,by omega,by omega,fun _=>nW.2 ⟨by omega,hI⟩⟩,rfl⟩
theorem VI(x:fV)(h:Sm.sm x):aD Tryz.prog 63 none [enc x] (enc x) []:=by
 refine aD.bK ahY afO rfl ?_ (fun hfit=> ?_)
 ·exact ⟨I5 x,trivial⟩
 unfold RZ
 exact aF (by simp [E.den,ju,enc])
theorem VJ(l:List fV)(h:l.length<=1048576)(H: ∀k,k<l.length->Sm.sm (nth l k)):cM Tryz.prog 34 none [aN l] (aN l) [] [(0,2)]:=by
 refine cM.bK ahX afN acy rfl ?_ (fun hfit=> ?_)
 ·exact ⟨I6 l,trivial⟩
 unfold R0
 refine bh (fun _=> ?_) ?_
 ·simp only [E.den,aa,ai,aj];simp;omega
 refine fp l.length (fun k=>[.int .i64 k,.sl (qe l (List.map fU [.str,.int .i64]) k)]) (fun _=>True) ?_ trivial ?_
 ·simp only [E.den,aa,ai,aj]
  rw [Fg];rfl
 intro k hk _ _
 simp only [cA]
 refine aG (fun h2=> ?_) (fun h2=> ?_)
 ·simp only [E.den,aa,ai,aj] at h2
  have h2:k<l.length:=by simp at h2;exact h2
  (refine bh (fun hg=> ?_) ?_;(focus (simp only [bB,gE,E.den,aa,ai,aj] at hg ⊢;(try simp only [D.bool.injEq] at hg);(try simp only [D.bool.injEq]);grind)))
  (refine bu ?_ (VI (nth l k) (H k h2)) (El _) ?_;(focus (simp only [VC.den,E.den,aa,aK,and_true,oL,Int.toNat_natCast];try exact rfl));(simp only [cA]))
  refine bh (fun _=> ?_) ?_
  ·simp only [E.den,aa,ai,aj,jS,Ht];simp;omega
  refine eH h2 ?_ trivial
  simp only [E.den,aa,ai,aj,fX]
  rw [db (by omega) (by omega)]
  exact congrArg (fun r=>[D.int .i64 ((k+1:Nat):Int),D.sl r]) (Ff h2 rfl)
 ·simp only [E.den,aa,ai,aj] at h2
  obtain rfl:k=l.length:=by simp at h2;omega
  refine aF ?_
  simp only [E.den,aa,ai,aj]
  exact Fe l _
theorem Vy(x y:fV):aD Tryz.prog 76 none [enc x,enc y] (.bool (decide (x=y))) []:=by
 refine aD.bK ahA ae1 rfl ?_ (fun hfit=> ?_)
 ·exact ⟨El x,El y,trivial⟩
 have e:=Xf x y
 unfold Rz
 refine aG (fun h=> ?_) (fun h0=> ?_)
 ·simp [E.den,aS,eG,ju] at h
  exact aF (by simp [E.den,e,h])
 simp [E.den,aS,eG,ju] at h0
 refine aG (fun h=> ?_) (fun h1=> ?_)
 ·simp [E.den,aS,eG,ju] at h
  exact aF (by simp [E.den,e,h])
 simp [E.den,aS,eG,ju] at h1
 exact aF (by simp [E.den,e,h0,h1])
theorem Vz(l l':List fV):aD Tryz.prog 43 none [aN l,aN l'] (.bool (decide (l=l'))) []:=by
 refine aD.bK ahz ae0 rfl ?_ (fun hfit=> ?_)
 ·exact ⟨Em l,Em l',trivial⟩
 have hl:l.length<=9223372036854775807:=ow hfit.1
 unfold RA
 refine aG (fun h=> ?_) (fun h=> ?_)
 ·simp [E.den,aS] at h
  refine aF ?_
  have:l≠l':=fun e=>h (by rw [e])
  simp [E.den,this]
 simp [E.den,aS] at h
 have h:l.length=l'.length:=by omega
 refine fp l.length (fun k=>[.int .i64 k]) (fun k=> ∀i,i<k->nth l i=nth l' i) rfl (by omega) ?_
 intro k hk hI _
 simp only [cA]
 refine aG (fun h2=> ?_) (fun h2=> ?_)
 ·simp [E.den,aS] at h2
  refine bh (fun hg=> ?_) (bh (fun hg=> ?_) ?_)
  ·simp [E.den];omega
  ·simp [E.den];omega
  (refine bu ?_ (Vy (nth l k) (nth l' k)) (trivial) ?_;(focus (simp only [VC.den,E.den,aa,aK,and_true,oL,Int.toNat_natCast];try exact rfl));(simp only [cA]))
  refine aG (fun h3=> ?_) (fun h3=> ?_)
  ·simp [E.den] at h3
   exact aF (by have:l≠l':=fun e=>h3 (by rw [e])
                simp [E.den,this])
  simp [E.den] at h3
  refine eH h2 ?_ fun i hi=> ?_
  ·simp [E.den];rw [db (by omega) (by omega)]
  rcases Nat.lt_or_ge i k with h'|h'
  ·exact hI i h'
  ·obtain rfl:i=k:=by omega
   exact h3
 ·simp [E.den,aS] at h2
  obtain rfl:k=l.length:=by omega
  exact aF (by simp [E.den,CQ h hI])
instance :Sm Cell:=⟨fun x=>Sm.sm x.key⟩
theorem ajb(x:Cell)(n:Int)(h0:0<=n)(h1:n<=1048576): ∃r,dN n (Sm.sm x) r/\aD Tryz.prog 79 none [enc x,.int .i64 n] r []:=by
 refine aD.qU ahN rfl afr ⟨I4 x,rfl,trivial⟩ (.int .i64 (-1)) (dN.no h0) fun hfit=> ?_;unfold RO
 have hf:=hfit.1
 simp only [enc,Fits,dH,dU] at hf
 have hs0:x.key.size<=9223372036854775807:=tH (by simp only [Fits];exact hf.1)
 have e0:cv .sub .i64 n x.key.size=n-x.key.size:=jO (by omega) (by omega)
 refine aG (fun h=>⟨dN.no h0,rfl⟩) (fun g0=> ?_)
 simp only [E.den,List.map_cons,List.map_nil,List.getD_cons_zero,List.getD_cons_succ,D.cQ,D.eX,D.eY,fX,gR,gQ,eQ,gF,dH,e0] at g0
 simp at g0
 refine ⟨⟨(n-x.key.size),?_,by omega,by omega,fun _=>zk.2 (by omega)⟩,rfl⟩
 simp only [E.den,List.map_cons,List.map_nil,List.getD_cons_zero,List.getD_cons_succ,D.cQ,D.eX,D.eY,fX,gR,gQ,eQ,gF,dH,e0]
theorem ajc(l:List Cell)(n:Int)(h0:0<=n)(h1:n<=1048576): ∃r,dN n (Sm.sm l) r/\aD Tryz.prog 50 none [aN l,.int .i64 n] r []:=by
 refine aD.qU ahM rfl afq ⟨En l,rfl,trivial⟩ (.int .i64 (-1)) (dN.no h0) fun hfit=> ?_;unfold RP
 have hl:l.length<=9223372036854775807:=ow hfit.1
 have e:cv .sub .i64 n l.length=n-l.length:=jO (by omega) (by omega)
 refine aG (fun h=> ?_) (fun h=> ?_)
 ·exact ⟨dN.no h0,rfl⟩
 simp only [E.den,List.map_cons,List.map_nil,List.getD_cons_zero,List.getD_cons_succ,D.cQ,D.eX,D.eY,fX,gR,gQ,eQ,gF,e] at h
 simp at h
 refine zW (Int×Nat) (fun s=>[.int .i64 s.1,.int .i64 s.2]) (fun s=>s.2<=l.length/\s.1<=n-l.length/\0<=s.1/\ ∀i,i<s.2->Sm.sm (nth l i)) (fun s=>l.length-s.2) (n-l.length,0) (fun s s' h=>by simp at h;omega) ?_ ⟨by omega,by omega,by omega,by omega⟩ ?_
 ·simp only [E.den,List.map_cons,List.map_nil,List.getD_cons_zero,List.getD_cons_succ,D.cQ,D.eX,D.eY,fX,gR,gQ,eQ,gF,e];rfl
 rintro ⟨m,k⟩ ⟨hk,hm,hm0,hI⟩ -
 simp only at hk hm hm0 hI
 simp only [cA]
 refine aG (fun h2=> ?_) (fun h2=> ?_)
 ·simp [E.den,aS] at h2
  refine bh (fun hg=> ?_) ?_
  ·simp [E.den];omega
  (refine xB ?_ (ajb (nth l k) m hm0 (by omega)) (fun _ h=>dN.ty h) ?_;(focus (simp only [VC.den,E.den,aa,aK,and_true,gu,Int.toNat_natCast];try exact rfl));rintro _ ⟨q,rfl,q1,q2,q3⟩;(simp only [cA]))
  refine aG (fun h3=> ?_) (fun h3=> ?_)
  ·exact ⟨dN.no h0,rfl⟩
  simp only [E.den,List.map_cons,List.map_nil,List.getD_cons_zero,List.getD_cons_succ,D.cQ,D.eX,D.eY,fX,gR,gQ,eQ,gF] at h3
  simp at h3
  refine ⟨(q,k+1),?_,⟨by omega,by omega,h3,fun i hi=> ?_⟩,by omega⟩
  ·simp only [E.den,List.map_cons,List.map_nil,List.getD_cons_zero,List.getD_cons_succ,D.cQ,D.eX,D.eY,fX,gR,gQ,eQ,gF];rw [db (by omega) (by omega)];rfl
  rcases Nat.lt_or_ge i k with h'|h'
  ·exact hI i h'
  ·obtain rfl:i=k:=by omega
   exact q3 h3
 ·simp [E.den,aS] at h2
  obtain rfl:k=l.length:=by omega
  exact ⟨⟨m,rfl,by omega,by omega,fun _=>nW.2 ⟨by omega,hI⟩⟩,rfl⟩
theorem VG(x:Cell)(h:Sm.sm x):aD Tryz.prog 89 none [enc x] (enc x) []:=by
 refine aD.bK ahV afI rfl ?_ (fun hfit=> ?_)
 ·exact ⟨I4 x,trivial⟩
 unfold RW
 exact aF (by simp [E.den,dH,enc])
theorem VH(l:List Cell)(h:l.length<=1048576)(H: ∀k,k<l.length->Sm.sm (nth l k)):cM Tryz.prog 62 none [aN l] (aN l) [] [(0,2)]:=by
 refine cM.bK ahU afH acw rfl ?_ (fun hfit=> ?_)
 ·exact ⟨En l,trivial⟩
 unfold RX
 refine bh (fun _=> ?_) ?_
 ·simp only [E.den,aa,ai,aj];simp;omega
 refine fp l.length (fun k=>[.int .i64 k,.sl (qe l (List.map fU [.str,.int .i64]) k)]) (fun _=>True) ?_ trivial ?_
 ·simp only [E.den,aa,ai,aj]
  rw [Fg];rfl
 intro k hk _ _
 simp only [cA]
 refine aG (fun h2=> ?_) (fun h2=> ?_)
 ·simp only [E.den,aa,ai,aj] at h2
  have h2:k<l.length:=by simp at h2;exact h2
  (refine bh (fun hg=> ?_) ?_;(focus (simp only [bB,gE,E.den,aa,ai,aj] at hg ⊢;(try simp only [D.bool.injEq] at hg);(try simp only [D.bool.injEq]);grind)))
  (refine bu ?_ (VG (nth l k) (H k h2)) (Ek _) ?_;(focus (simp only [VC.den,E.den,aa,aK,and_true,gu,Int.toNat_natCast];try exact rfl));(simp only [cA]))
  refine bh (fun _=> ?_) ?_
  ·simp only [E.den,aa,ai,aj,jS,Ht];simp;omega
  refine eH h2 ?_ trivial
  simp only [E.den,aa,ai,aj,fX]
  rw [db (by omega) (by omega)]
  exact congrArg (fun r=>[D.int .i64 ((k+1:Nat):Int),D.sl r]) (Ff h2 rfl)
 ·simp only [E.den,aa,ai,aj] at h2
  obtain rfl:k=l.length:=by simp at h2;omega
  refine aF ?_
  simp only [E.den,aa,ai,aj]
  exact Fe l _
theorem Vv(x y:Cell):aD Tryz.prog 97 none [enc x,enc y] (.bool (decide (x=y))) []:=by
 refine aD.bK ahx aeV rfl ?_ (fun hfit=> ?_)
 ·exact ⟨Ek x,Ek y,trivial⟩
 have e:=Xd x y
 unfold Rv
 refine aG (fun h=> ?_) (fun h0=> ?_)
 ·simp [E.den,aS,eG,dH] at h
  exact aF (by simp [E.den,e,h])
 simp [E.den,aS,eG,dH] at h0
 refine aG (fun h=> ?_) (fun h1=> ?_)
 ·simp [E.den,aS,eG,dH] at h
  exact aF (by simp [E.den,e,h])
 simp [E.den,aS,eG,dH] at h1
 exact aF (by simp [E.den,e,h0,h1])
theorem Vw(l l':List Cell):aD Tryz.prog 75 none [aN l,aN l'] (.bool (decide (l=l'))) []:=by
 refine aD.bK ahw aeU rfl ?_ (fun hfit=> ?_)
 ·exact ⟨nX l,nX l',trivial⟩
 have hl:l.length<=9223372036854775807:=ow hfit.1
 unfold Rx
 refine aG (fun h=> ?_) (fun h=> ?_)
 ·simp [E.den,aS] at h
  refine aF ?_
  have:l≠l':=fun e=>h (by rw [e])
  simp [E.den,this]
 simp [E.den,aS] at h
 have h:l.length=l'.length:=by omega
 refine fp l.length (fun k=>[.int .i64 k]) (fun k=> ∀i,i<k->nth l i=nth l' i) rfl (by omega) ?_
 intro k hk hI _
 simp only [cA]
 refine aG (fun h2=> ?_) (fun h2=> ?_)
 ·simp [E.den,aS] at h2
  refine bh (fun hg=> ?_) (bh (fun hg=> ?_) ?_)
  ·simp [E.den];omega
  ·simp [E.den];omega
  (refine bu ?_ (Vv (nth l k) (nth l' k)) (trivial) ?_;(focus (simp only [VC.den,E.den,aa,aK,and_true,gu,Int.toNat_natCast];try exact rfl));(simp only [cA]))
  refine aG (fun h3=> ?_) (fun h3=> ?_)
  ·simp [E.den] at h3
   exact aF (by have:l≠l':=fun e=>h3 (by rw [e])
                simp [E.den,this])
  simp [E.den] at h3
  refine eH h2 ?_ fun i hi=> ?_
  ·simp [E.den];rw [db (by omega) (by omega)]
  rcases Nat.lt_or_ge i k with h'|h'
  ·exact hI i h'
  ·obtain rfl:i=k:=by omega
   exact h3
 ·simp [E.den,aS] at h2
  obtain rfl:k=l.length:=by omega
  exact aF (by simp [E.den,CQ h hI])
instance :Sm Core:=⟨fun x=>Sm.sm x.kind/\Sm.sm x.cells⟩
theorem adF{x:Core}:Sm.sm x↔Sm.sm x.kind/\Sm.sm x.cells:=Iff.rfl
theorem ajd(x:Core)(n:Int)(h0:0<=n)(h1:n<=1048576): ∃r,dN n (Sm.sm x) r/\aD Tryz.prog 24 none [enc x,.int .i64 n] r []:=by
 refine aD.qU ahO rfl aft ⟨QN x,rfl,trivial⟩ (.int .i64 (-1)) (dN.no h0) fun hfit=> ?_;unfold RQ
 have hf:=hfit.1
 simp only [enc,Fits,bN,dU] at hf
 have hs0:x.kind.size<=9223372036854775807:=tH (by simp only [Fits];exact hf.1)
 have e0:cv .sub .i64 n x.kind.size=n-x.kind.size:=jO (by omega) (by omega)
 refine aG (fun h=>⟨dN.no h0,rfl⟩) (fun g0=> ?_)
 simp only [E.den,List.map_cons,List.map_nil,List.getD_cons_zero,List.getD_cons_succ,D.cQ,D.eX,D.eY,fX,gR,gQ,eQ,gF,bN,e0] at g0
 simp at g0
 (refine xB ?_ (ajc x.cells (n-x.kind.size) (by omega) (by omega)) (fun _ h=>dN.ty h) ?_;(focus (simp only [VC.den,E.den,aa,aK,and_true,bN,eQ,e0];try exact rfl));rintro _ ⟨m1,rfl,p1,q1,s1⟩;(simp only [cA]))
 refine aG (fun h=>⟨dN.no h0,rfl⟩) (fun g1=> ?_)
 simp only [E.den,List.map_cons,List.map_nil,List.getD_cons_zero,List.getD_cons_succ,D.cQ,D.eX,D.eY,fX,gR,gQ,eQ,gF] at g1
 simp at g1
 refine ⟨⟨m1,?_,by omega,by omega,fun _=>⟨zk.2 (by omega),s1 g1⟩⟩,rfl⟩
 simp only [E.den,List.map_cons,List.map_nil,List.getD_cons_zero,List.getD_cons_succ,D.cQ,D.eX,D.eY,fX,gR,gQ,eQ,gF,bN,e0]
theorem U0(x:Core)(h:Sm.sm x):cM Tryz.prog 33 none [enc x] (enc x) [] [(3,2)]:=by
 refine cM.bK ahW afK acx rfl ?_ (fun hfit=> ?_)
 ·exact ⟨QN x,trivial⟩
 unfold RY
 (refine mr ?_ (VH x.cells (nW.1 (h.2)).1 (nW.1 (h.2)).2) (nX _) ?_;(focus (simp only [VC.den,E.den,aa,aK,and_true,bN];try exact rfl));(simp only [cA]))
 exact aF (by simp [E.den,bN,enc])
theorem Vx(x y:Core):aD Tryz.prog 42 none [enc x,enc y] (.bool (decide (x=y))) []:=by
 refine aD.bK ahy aeX rfl ?_ (fun hfit=> ?_)
 ·exact ⟨jY x,jY y,trivial⟩
 have e:=Xe x y
 unfold Ry
 refine aG (fun h=> ?_) (fun h0=> ?_)
 ·simp [E.den,aS,eG,bN] at h
  exact aF (by simp [E.den,e,h])
 simp [E.den,aS,eG,bN] at h0
 refine aG (fun h=> ?_) (fun h1=> ?_)
 ·simp [E.den,aS,eG,bN] at h
  exact aF (by simp [E.den,e,h])
 simp [E.den,aS,eG,bN] at h1
 refine aG (fun h=> ?_) (fun h2=> ?_)
 ·simp [E.den,aS,eG,bN] at h
  exact aF (by simp [E.den,e,h])
 simp [E.den,aS,eG,bN] at h2
 (refine bu ?_ (Vw x.cells y.cells) (trivial) ?_;(focus (simp only [VC.den,E.den,aa,aK,and_true,bN];try exact rfl));(simp only [cA]))
 refine aG (fun h=> ?_) (fun h3=> ?_)
 ·simp [E.den] at h
  exact aF (by simp [E.den,e,h])
 simp [E.den] at h3
 refine aG (fun h=> ?_) (fun h4=> ?_)
 ·simp [E.den,aS,eG,bN] at h
  exact aF (by simp [E.den,e,h])
 simp [E.den,aS,eG,bN] at h4
 exact aF (by simp [E.den,e,h0,h1,h2,h3,h4])
instance :Sm Call:=⟨fun x=>Sm.sm x.method/\Sm.sm x.key/\Sm.sm x.text⟩
theorem adE{x:Call}:Sm.sm x↔Sm.sm x.method/\Sm.sm x.key/\Sm.sm x.text:=Iff.rfl
theorem ai9(x:Call)(n:Int)(h0:0<=n)(h1:n<=1048576): ∃r,dN n (Sm.sm x) r/\aD Tryz.prog 6 none [enc x,.int .i64 n] r []:=by
 refine aD.qU ahL rfl afn ⟨I0 x,rfl,trivial⟩ (.int .i64 (-1)) (dN.no h0) fun hfit=> ?_;unfold RM
 have hf:=hfit.1
 simp only [enc,Fits,bY,dU] at hf
 have hs0:x.method.size<=9223372036854775807:=tH (by simp only [Fits];exact hf.1)
 have e0:cv .sub .i64 n x.method.size=n-x.method.size:=jO (by omega) (by omega)
 refine aG (fun h=>⟨dN.no h0,rfl⟩) (fun g0=> ?_)
 simp only [E.den,List.map_cons,List.map_nil,List.getD_cons_zero,List.getD_cons_succ,D.cQ,D.eX,D.eY,fX,gR,gQ,eQ,gF,bY,e0] at g0
 simp at g0
 have hs1:x.key.size<=9223372036854775807:=tH (by simp only [Fits];exact hf.2.1)
 have e1:cv .sub .i64 (n-x.method.size) x.key.size=(n-x.method.size)-x.key.size:=jO (by omega) (by omega)
 refine aG (fun h=>⟨dN.no h0,rfl⟩) (fun g1=> ?_)
 simp only [E.den,List.map_cons,List.map_nil,List.getD_cons_zero,List.getD_cons_succ,D.cQ,D.eX,D.eY,fX,gR,gQ,eQ,gF,bY,e0,e1] at g1
 simp at g1
 have hs2:x.text.size<=9223372036854775807:=tH (by simp only [Fits];exact hf.2.2.2.1)
 have e2:cv .sub .i64 ((n-x.method.size)-x.key.size) x.text.size=((n-x.method.size)-x.key.size)-x.text.size:=jO (by omega) (by omega)
 refine aG (fun h=>⟨dN.no h0,rfl⟩) (fun g2=> ?_)
 simp only [E.den,List.map_cons,List.map_nil,List.getD_cons_zero,List.getD_cons_succ,D.cQ,D.eX,D.eY,fX,gR,gQ,eQ,gF,bY,e0,e1,e2] at g2
 simp at g2
 refine ⟨⟨(((n-x.method.size)-x.key.size)-x.text.size),?_,by omega,by omega,fun _=>⟨zk.2 (by omega),zk.2 (by omega),zk.2 (by omega)⟩⟩,rfl⟩
 simp only [E.den,List.map_cons,List.map_nil,List.getD_cons_zero,List.getD_cons_succ,D.cQ,D.eX,D.eY,fX,gR,gQ,eQ,gF,bY,e0,e1,e2]
theorem aja(l:List Call)(n:Int)(h0:0<=n)(h1:n<=1048576): ∃r,dN n (Sm.sm l) r/\aD Tryz.prog 15 none [aN l,.int .i64 n] r []:=by
 refine aD.qU ahK rfl afm ⟨QM l,rfl,trivial⟩ (.int .i64 (-1)) (dN.no h0) fun hfit=> ?_;unfold RN
 have hl:l.length<=9223372036854775807:=ow hfit.1
 have e:cv .sub .i64 n l.length=n-l.length:=jO (by omega) (by omega)
 refine aG (fun h=> ?_) (fun h=> ?_)
 ·exact ⟨dN.no h0,rfl⟩
 simp only [E.den,List.map_cons,List.map_nil,List.getD_cons_zero,List.getD_cons_succ,D.cQ,D.eX,D.eY,fX,gR,gQ,eQ,gF,e] at h
 simp at h
 refine zW (Int×Nat) (fun s=>[.int .i64 s.1,.int .i64 s.2]) (fun s=>s.2<=l.length/\s.1<=n-l.length/\0<=s.1/\ ∀i,i<s.2->Sm.sm (nth l i)) (fun s=>l.length-s.2) (n-l.length,0) (fun s s' h=>by simp at h;omega) ?_ ⟨by omega,by omega,by omega,by omega⟩ ?_
 ·simp only [E.den,List.map_cons,List.map_nil,List.getD_cons_zero,List.getD_cons_succ,D.cQ,D.eX,D.eY,fX,gR,gQ,eQ,gF,e];rfl
 rintro ⟨m,k⟩ ⟨hk,hm,hm0,hI⟩ -
 simp only at hk hm hm0 hI
 simp only [cA]
 refine aG (fun h2=> ?_) (fun h2=> ?_)
 ·simp [E.den,aS] at h2
  refine bh (fun hg=> ?_) ?_
  ·simp [E.den];omega
  (refine xB ?_ (ai9 (nth l k) m hm0 (by omega)) (fun _ h=>dN.ty h) ?_;(focus (simp only [VC.den,E.den,aa,aK,and_true,BC,Int.toNat_natCast];try exact rfl));rintro _ ⟨q,rfl,q1,q2,q3⟩;(simp only [cA]))
  refine aG (fun h3=> ?_) (fun h3=> ?_)
  ·exact ⟨dN.no h0,rfl⟩
  simp only [E.den,List.map_cons,List.map_nil,List.getD_cons_zero,List.getD_cons_succ,D.cQ,D.eX,D.eY,fX,gR,gQ,eQ,gF] at h3
  simp at h3
  refine ⟨(q,k+1),?_,⟨by omega,by omega,h3,fun i hi=> ?_⟩,by omega⟩
  ·simp only [E.den,List.map_cons,List.map_nil,List.getD_cons_zero,List.getD_cons_succ,D.cQ,D.eX,D.eY,fX,gR,gQ,eQ,gF];rw [db (by omega) (by omega)];rfl
  rcases Nat.lt_or_ge i k with h'|h'
  ·exact hI i h'
  ·obtain rfl:i=k:=by omega
   exact q3 h3
 ·simp [E.den,aS] at h2
  obtain rfl:k=l.length:=by omega
  exact ⟨⟨m,rfl,by omega,by omega,fun _=>nW.2 ⟨by omega,hI⟩⟩,rfl⟩
theorem VE(x:Call)(h:Sm.sm x):aD Tryz.prog 9 none [enc x] (enc x) []:=by
 refine aD.bK ahT afE rfl ?_ (fun hfit=> ?_)
 ·exact ⟨I0 x,trivial⟩
 unfold RU
 exact aF (by simp [E.den,bY,enc])
theorem VF(l:List Call)(h:l.length<=1048576)(H: ∀k,k<l.length->Sm.sm (nth l k)):cM Tryz.prog 17 none [aN l] (aN l) [] [(0,4)]:=by
 refine cM.bK ahS afD acv rfl ?_ (fun hfit=> ?_)
 ·exact ⟨QM l,trivial⟩
 unfold RV
 refine bh (fun _=> ?_) ?_
 ·simp only [E.den,aa,ai,aj];simp;omega
 refine fp l.length (fun k=>[.int .i64 k,.sl (qe l (List.map fU [.str,.str,.int .i64,.str]) k)]) (fun _=>True) ?_ trivial ?_
 ·simp only [E.den,aa,ai,aj]
  rw [Fg];rfl
 intro k hk _ _
 simp only [cA]
 refine aG (fun h2=> ?_) (fun h2=> ?_)
 ·simp only [E.den,aa,ai,aj] at h2
  have h2:k<l.length:=by simp at h2;exact h2
  (refine bh (fun hg=> ?_) ?_;(focus (simp only [bB,gE,E.den,aa,ai,aj] at hg ⊢;(try simp only [D.bool.injEq] at hg);(try simp only [D.bool.injEq]);grind)))
  (refine bu ?_ (VE (nth l k) (H k h2)) (sn _) ?_;(focus (simp only [VC.den,E.den,aa,aK,and_true,BC,Int.toNat_natCast];try exact rfl));(simp only [cA]))
  refine bh (fun _=> ?_) ?_
  ·simp only [E.den,aa,ai,aj,jS,Ht];simp;omega
  refine eH h2 ?_ trivial
  simp only [E.den,aa,ai,aj,fX]
  rw [db (by omega) (by omega)]
  exact congrArg (fun r=>[D.int .i64 ((k+1:Nat):Int),D.sl r]) (Ff h2 rfl)
 ·simp only [E.den,aa,ai,aj] at h2
  obtain rfl:k=l.length:=by simp at h2;omega
  refine aF ?_
  simp only [E.den,aa,ai,aj]
  exact Fe l _
theorem Vt(x y:Call):aD Tryz.prog 48 none [enc x,enc y] (.bool (decide (x=y))) []:=by
 refine aD.bK ahv aeR rfl ?_ (fun hfit=> ?_)
 ·exact ⟨sn x,sn y,trivial⟩
 have e:=Xc x y
 unfold Rt
 refine aG (fun h=> ?_) (fun h0=> ?_)
 ·simp [E.den,aS,eG,bY] at h
  exact aF (by simp [E.den,e,h])
 simp [E.den,aS,eG,bY] at h0
 refine aG (fun h=> ?_) (fun h1=> ?_)
 ·simp [E.den,aS,eG,bY] at h
  exact aF (by simp [E.den,e,h])
 simp [E.den,aS,eG,bY] at h1
 refine aG (fun h=> ?_) (fun h2=> ?_)
 ·simp [E.den,aS,eG,bY] at h
  exact aF (by simp [E.den,e,h])
 simp [E.den,aS,eG,bY] at h2
 refine aG (fun h=> ?_) (fun h3=> ?_)
 ·simp [E.den,aS,eG,bY] at h
  exact aF (by simp [E.den,e,h])
 simp [E.den,aS,eG,bY] at h3
 exact aF (by simp [E.den,e,h0,h1,h2,h3])
theorem Vu(l l':List Call):aD Tryz.prog 20 none [aN l,aN l'] (.bool (decide (l=l'))) []:=by
 refine aD.bK ahu aeQ rfl ?_ (fun hfit=> ?_)
 ·exact ⟨Ej l,Ej l',trivial⟩
 have hl:l.length<=9223372036854775807:=ow hfit.1
 unfold Ru
 refine aG (fun h=> ?_) (fun h=> ?_)
 ·simp [E.den,aS] at h
  refine aF ?_
  have:l≠l':=fun e=>h (by rw [e])
  simp [E.den,this]
 simp [E.den,aS] at h
 have h:l.length=l'.length:=by omega
 refine fp l.length (fun k=>[.int .i64 k]) (fun k=> ∀i,i<k->nth l i=nth l' i) rfl (by omega) ?_
 intro k hk hI _
 simp only [cA]
 refine aG (fun h2=> ?_) (fun h2=> ?_)
 ·simp [E.den,aS] at h2
  refine bh (fun hg=> ?_) (bh (fun hg=> ?_) ?_)
  ·simp [E.den];omega
  ·simp [E.den];omega
  (refine bu ?_ (Vt (nth l k) (nth l' k)) (trivial) ?_;(focus (simp only [VC.den,E.den,aa,aK,and_true,BC,Int.toNat_natCast];try exact rfl));(simp only [cA]))
  refine aG (fun h3=> ?_) (fun h3=> ?_)
  ·simp [E.den] at h3
   exact aF (by have:l≠l':=fun e=>h3 (by rw [e])
                simp [E.den,this])
  simp [E.den] at h3
  refine eH h2 ?_ fun i hi=> ?_
  ·simp [E.den];rw [db (by omega) (by omega)]
  rcases Nat.lt_or_ge i k with h'|h'
  ·exact hI i h'
  ·obtain rfl:i=k:=by omega
   exact h3
 ·simp [E.den,aS] at h2
  obtain rfl:k=l.length:=by omega
  exact aF (by simp [E.den,CQ h hI])
instance :Sm da:=⟨fun x=>Sm.sm x.text⟩
theorem VB(x y:da):aD Tryz.prog 12 none [enc x,enc y] (.bool (decide (x=y))) []:=by
 refine aD.bK ahD ae7 rfl ?_ (fun hfit=> ?_)
 ·exact ⟨sr x,sr y,trivial⟩
 have e:=Xh x y
 unfold RD
 refine aG (fun h=> ?_) (fun h0=> ?_)
 ·simp [E.den,aS,eG,lH] at h
  exact aF (by simp [E.den,e,h])
 simp [E.den,aS,eG,lH] at h0
 refine aG (fun h=> ?_) (fun h1=> ?_)
 ·simp [E.den,aS,eG,lH] at h
  exact aF (by simp [E.den,e,h])
 simp [E.den,aS,eG,lH] at h1
 refine aG (fun h=> ?_) (fun h2=> ?_)
 ·simp [E.den,aS,eG,lH] at h
  exact aF (by simp [E.den,e,h])
 simp [E.den,aS,eG,lH] at h2
 refine aG (fun h=> ?_) (fun h3=> ?_)
 ·simp [E.den,aS,eG,lH] at h
  exact aF (by simp [E.den,e,h])
 simp [E.den,aS,eG,lH] at h3
 refine aG (fun h=> ?_) (fun h4=> ?_)
 ·simp [E.den,aS,eG,lH] at h
  exact aF (by simp [E.den,e,h])
 simp [E.den,aS,eG,lH] at h4
 exact aF (by simp [E.den,e,h0,h1,h2,h3,h4])
theorem VD(l l':List da):aD Tryz.prog 19 none [aN l,aN l'] (.bool (decide (l=l'))) []:=by
 refine aD.bK ahC ae6 rfl ?_ (fun hfit=> ?_)
 ·exact ⟨QI l,QI l',trivial⟩
 have hl:l.length<=9223372036854775807:=ow hfit.1
 unfold RE
 refine aG (fun h=> ?_) (fun h=> ?_)
 ·simp [E.den,aS] at h
  refine aF ?_
  have:l≠l':=fun e=>h (by rw [e])
  simp [E.den,this]
 simp [E.den,aS] at h
 have h:l.length=l'.length:=by omega
 refine fp l.length (fun k=>[.int .i64 k]) (fun k=> ∀i,i<k->nth l i=nth l' i) rfl (by omega) ?_
 intro k hk hI _
 simp only [cA]
 refine aG (fun h2=> ?_) (fun h2=> ?_)
 ·simp [E.den,aS] at h2
  refine bh (fun hg=> ?_) (bh (fun hg=> ?_) ?_)
  ·simp [E.den];omega
  ·simp [E.den];omega
  (refine bu ?_ (VB (nth l k) (nth l' k)) (trivial) ?_;(focus (simp only [VC.den,E.den,aa,aK,and_true,acj,Int.toNat_natCast];try exact rfl));(simp only [cA]))
  refine aG (fun h3=> ?_) (fun h3=> ?_)
  ·simp [E.den] at h3
   exact aF (by have:l≠l':=fun e=>h3 (by rw [e])
                simp [E.den,this])
  simp [E.den] at h3
  refine eH h2 ?_ fun i hi=> ?_
  ·simp [E.den];rw [db (by omega) (by omega)]
  rcases Nat.lt_or_ge i k with h'|h'
  ·exact hI i h'
  ·obtain rfl:i=k:=by omega
   exact h3
 ·simp [E.den,aS] at h2
  obtain rfl:k=l.length:=by omega
  exact aF (by simp [E.den,CQ h hI])
instance :Sm Part:=⟨fun x=>Sm.sm x.core/\Sm.sm x.af⟩
theorem ajg(x:Part)(n:Int)(h0:0<=n)(h1:n<=1048576): ∃r,dN n (Sm.sm x) r/\aD Tryz.prog 5 none [enc x,.int .i64 n] r []:=by
 refine aD.qU ahR rfl afA ⟨QO x,rfl,trivial⟩ (.int .i64 (-1)) (dN.no h0) fun hfit=> ?_;unfold RT
 have hf:=hfit.1
 simp only [enc,Fits,dh,dU] at hf
 (refine xB ?_ (ajd x.core n (by omega) (by omega)) (fun _ h=>dN.ty h) ?_;(focus (simp only [VC.den,E.den,aa,aK,and_true,dh];try exact rfl));rintro _ ⟨m0,rfl,p0,q0,s0⟩;(simp only [cA]))
 refine aG (fun h=>⟨dN.no h0,rfl⟩) (fun g0=> ?_)
 simp only [E.den,List.map_cons,List.map_nil,List.getD_cons_zero,List.getD_cons_succ,D.cQ,D.eX,D.eY,fX,gR,gQ,eQ,gF] at g0
 simp at g0
 (refine xB ?_ (ajf x.af m0 (by omega) (by omega)) (fun _ h=>dN.ty h) ?_;(focus (simp only [VC.den,E.den,aa,aK,and_true,dh];try exact rfl));rintro _ ⟨m1,rfl,p1,q1,s1⟩;(simp only [cA]))
 refine aG (fun h=>⟨dN.no h0,rfl⟩) (fun g1=> ?_)
 simp only [E.den,List.map_cons,List.map_nil,List.getD_cons_zero,List.getD_cons_succ,D.cQ,D.eX,D.eY,fX,gR,gQ,eQ,gF] at g1
 simp at g1
 refine ⟨⟨m1,?_,by omega,by omega,fun _=>⟨s0 g0,s1 g1⟩⟩,rfl⟩
 simp only [E.den,List.map_cons,List.map_nil,List.getD_cons_zero,List.getD_cons_succ,D.cQ,D.eX,D.eY,fX,gR,gQ,eQ,gF,dh]
theorem U3(x:Part)(h:Sm.sm x):cM Tryz.prog 8 none [enc x] (enc x) [] [(3,2),(5,2)]:=by
 refine cM.bK ahZ afQ acz rfl ?_ (fun hfit=> ?_)
 ·exact ⟨QO x,trivial⟩
 unfold R3
 (refine mr ?_ (U0 x.core (h.1)) (jY _) ?_;(focus (simp only [VC.den,E.den,aa,aK,and_true,dh];try exact rfl));(simp only [cA]))
 (refine mr ?_ (VJ x.af (nW.1 (h.2)).1 (nW.1 (h.2)).2) (Em _) ?_;(focus (simp only [VC.den,E.den,aa,aK,and_true,dh];try exact rfl));(simp only [cA]))
 exact aF (by simp [E.den,dh,bN,enc])
theorem VA(x y:Part):aD Tryz.prog 11 none [enc x,enc y] (.bool (decide (x=y))) []:=by
 refine aD.bK ahB ae3 rfl ?_ (fun hfit=> ?_)
 ·exact ⟨kX x,kX y,trivial⟩
 have e:=Xg x y
 unfold RC
 (refine bu ?_ (Vx x.core y.core) (trivial) ?_;(focus (simp only [VC.den,E.den,aa,aK,and_true,dh];try exact rfl));(simp only [cA]))
 refine aG (fun h=> ?_) (fun h0=> ?_)
 ·simp [E.den] at h
  exact aF (by simp [E.den,e,h])
 simp [E.den] at h0
 (refine bu ?_ (Vz x.af y.af) (trivial) ?_;(focus (simp only [VC.den,E.den,aa,aK,and_true,dh];try exact rfl));(simp only [cA]))
 refine aG (fun h=> ?_) (fun h1=> ?_)
 ·simp [E.den] at h
  exact aF (by simp [E.den,e,h])
 simp [E.den] at h1
 exact aF (by simp [E.den,e,h0,h1])
end
section
open Go.RowKit Go
variable [GC]
def Zw(r:D):Prop:= ∃s:ByteArray,r= .str s
structure JB where
 s:ByteArray
 n:Int
theorem Wz(k:Int)(hk:k<=1152921504606846976): ∃r,Zw r/\aD Tryz.prog 49 none [.int .i64 k] r []:=by
 refine aD.qU ahJ rfl afj ⟨rfl,trivial⟩ (.str ⟨#[]⟩) ⟨_,rfl⟩ fun hfit=> ?_;unfold RL
 refine aG (fun _=>⟨⟨_,rfl⟩,rfl⟩) (fun h=> ?_)
 simp only [E.den,aa,ai,aj] at h
 have h:0<k:=by simpa using h
 refine zW JB (fun s=>[.str s.s,.int .i64 s.n]) (fun s=>0<=s.n/\(s.s.size:Int)+s.n<=k) (fun s=>s.n.toNat) ⟨⟨#[]⟩,k⟩ (fun s s' h=>by simp at h;rw [h.2]) rfl ⟨by simp only;omega,by simp [ByteArray.size]⟩ ?_
 rintro ⟨s,n⟩ ⟨hn,hs⟩ _
 simp only at hn hs
 simp only [cA]
 refine aG (fun h2=> ?_) (fun h2=> ?_)
 ·simp only [E.den,aa,ai,aj] at h2
  have h2:0<n:=by simpa using h2
  refine bh (fun _=> ?_) (bh (fun _=> ?_) (bh (fun _=> ?_) ?_))
  ·simp [E.den,aS]
  ·simp only [E.den,aa,ai,aj]
   simp only [tv,strOfNums_size,List.length_map,D.wN,List.length_cons,List.length_nil,List.append_nil,List.nil_append]
   simp only [D.bool.injEq,decide_eq_true_eq]
   unfold maxLen;omega
  ·simp [E.den,aS]
  have hq:cv .quo .i64 n 10=n/10:=by
   show IntKind.i64.wrap (n.tdiv 10)=_
   rw [Int.tdiv_eq_ediv_of_nonneg (by omega),wrap_i64 (by omega) (by omega)]
  refine Fj (s':=(⟨tv (.sl [[.int .u8 (IntKind.u8.wrap (cv .add .i64 48 (cv .rem .i64 n 10)))]])++s,n/10⟩:JB)) ?_ ⟨?_,?_⟩ ?_
  ·simp only [E.den,aa,ai,aj]
   rw [hq]
  ·simp only;omega
  ·simp only [ByteArray.size_append,tv,strOfNums_size,List.length_map,D.wN,List.length_cons,List.length_nil,List.append_nil,List.nil_append]
   omega
  ·simp only;omega
 ·refine bh (fun _=> ?_) ⟨⟨_,rfl⟩,rfl⟩
  simp only [E.den,aa,ai,aj]
  simp only [D.bool.injEq,decide_eq_true_eq]
  have:(⟨#[109]⟩:ByteArray).size=1:=rfl
  unfold maxLen;omega
open Classical in
noncomputable def gY(k:Nat):ByteArray:=if h: ∃s:ByteArray,aD Tryz.prog 49 none [.int .i64 k] (.str s) [] then h.choose else ⟨#[]⟩
theorem Cs(k:Nat)(hk:k<=1152921504606846976):aD Tryz.prog 49 none [.int .i64 k] (.str (gY k)) []:=by
 have h: ∃s:ByteArray,aD Tryz.prog 49 none [.int .i64 k] (.str s) []:=by
  obtain ⟨r,⟨s,rfl⟩,h⟩:=Wz k (by omega)
  exact ⟨s,h⟩
 unfold gY
 rw [dif_pos h]
 exact h.choose_spec
theorem NB:IntKind.i64.min= -9223372036854775808:=rfl
theorem NA:IntKind.i64.max=9223372036854775807:=rfl
theorem yN{w:World}{M:Addr->Prop}{n:Int}(h1: -9223372036854775808<=n)(h2:n<=9223372036854775807):R w M (.int .i64 n) (.int .i64 n) :=
 ⟨rfl,by rw [NB];exact h1,by rw [NA];exact h2⟩
def Rd(w:World):Prop:=kf w (fun _=>False)
theorem Rd.alt{A:Addr->Prop}{w w':World}(h:Rd w)(ha:Alt A w w')(hA: ∀p,A p->NG<=p.block):Rd w' :=
 ⟨fun _ h=>h.elim,h.2.1.keep fun k hk=>ha.blk k (Nat.lt_of_lt_of_le hk h.2.2) fun p hp hq=>by have:=hA p hq;omega,Nat.le_trans h.2.2 ha.size⟩
theorem Rd.below{w w':World}(h:Rd w)(hb:Below w.heap.size w w'):Rd w':=kf.below h hb fun _ h=>h.elim
theorem zy(k:Nat)(hk:k<=1152921504606846976)(w:World)(hG:Rd w):Calls Tryz.prog 49 #[.int .i64 k] w fun e w'=>e= .returned (.string (gY k))/\(gY k).size<=maxLen/\Below w.heap.size w w':=by
 have h:=aD.calls (Cs k hk) hG (vs:=[.int .i64 k]) ⟨_,[],rfl,yN (by omega) (by omega),rfl⟩
 refine h.mono ?_
 rintro e w' ⟨v,rfl,⟨rfl,hs⟩,hb⟩
 exact ⟨rfl,hs,hb⟩
def Flat(w:World)(M:Addr->Prop)(n:Nat)(rows:List (List D))(v:Value):Prop:=R w M (.sl rows) v/\(∀r∈rows,r.length=n)/\ ∀r∈rows,∀d∈r,pG d=true
theorem Flat.keep{w w':World}{M:Addr->Prop}{n:Nat}{rows:List (List D)}{v:Value}(h:Flat w M n rows v)(hb:Below w.heap.size w w'):Flat w' M n rows v:=⟨R.keep (bb.below hb fun _ _ h=>h) _ _ h.1,h.2⟩
theorem Ea{α:Type}{p:α->Prop}{l:List α}{i:Nat}{x:α}(h: ∀r∈l,p r)(hx:p x): ∀r∈l.set i x,p r:=fun r hr=>by
 rcases List.mem_or_eq_of_mem_set hr with h1|rfl
 ·exact h r h1
 ·exact hx
theorem Flat.zb{w:World}{M:Addr->Prop}{n b o len cap i j:Nat}{rows:List (List D)}{r:List D}{t s:ByteArray}(h:Flat w M n rows (.slice (some ⟨b,o,none⟩) len cap))(hi:rows[i]? =some r)(hj:r[j]? =some (.str t))(hs:s.size<=maxLen) :
  w.cell? ⟨b,o+i*n+j,none⟩=some (.string t)/\ ¬M ⟨b,o+i*n+j,none⟩/\Flat (w.setCell ⟨b,o+i*n+j,none⟩ (.string s)) M n (rows.set i (r.set j (.str s))) (.slice (some ⟨b,o,none⟩) len cap)/\Alt (fun p=> ¬M p) w (w.setCell ⟨b,o+i*n+j,none⟩ (.string s)):=by
 obtain ⟨u,c1,c2,c3⟩:=oY h.2.1 h.1 hi hj
 have hu:u= .string t:=c3.1
 subst hu
 have hr:=h.2.1 r (List.mem_of_getElem? hi)
 have hjn:j<n:=by rw [<-hr];exact (List.getElem?_eq_some_iff.1 hj).1
 refine ⟨c1,c2,⟨LY h.2.1 h.2.2 h.1 hi hjn fun _ _=>⟨rfl,hs⟩,Ea h.2.1 (by simpa using hr),Ea h.2.2 fun d hd=> ?_⟩,Alt.set (A:=fun p=> ¬M p) c2 c1 (.inr (.inl ⟨_,_,rfl,rfl,hs⟩))⟩
 rcases List.mem_or_eq_of_mem_set hd with h1|rfl
 ·exact h.2.2 r (List.mem_of_getElem? hi) d h1
 ·rfl
theorem Flat.wq{w:World}{M:Addr->Prop}{n b o len cap i j:Nat}{rows:List (List D)}{r:List D}{t x:Int}(h:Flat w M n rows (.slice (some ⟨b,o,none⟩) len cap))(hi:rows[i]? =some r)(hj:r[j]? =some (.int .i64 t))(h1: -9223372036854775808<=x)(h2:x<=9223372036854775807) :
  w.cell? ⟨b,o+i*n+j,none⟩=some (.int .i64 t)/\ ¬M ⟨b,o+i*n+j,none⟩/\Flat (w.setCell ⟨b,o+i*n+j,none⟩ (.int .i64 x)) M n (rows.set i (r.set j (.int .i64 x))) (.slice (some ⟨b,o,none⟩) len cap)/\Alt (fun p=> ¬M p) w (w.setCell ⟨b,o+i*n+j,none⟩ (.int .i64 x)):=by
 obtain ⟨u,c1,c2,c3⟩:=oY h.2.1 h.1 hi hj
 have hu:u= .int .i64 t:=c3.1
 subst hu
 have hr:=h.2.1 r (List.mem_of_getElem? hi)
 have hjn:j<n:=by rw [<-hr];exact (List.getElem?_eq_some_iff.1 hj).1
 refine ⟨c1,c2,⟨LY h.2.1 h.2.2 h.1 hi hjn fun _ _=>yN h1 h2,Ea h.2.1 (by simpa using hr),Ea h.2.2 fun d hd=> ?_⟩,Alt.set (A:=fun p=> ¬M p) c2 c1 (.inr (.inr ⟨_,_,_,rfl,rfl,by rw [NB];exact h1,by rw [NA];exact h2⟩))⟩
 rcases List.mem_or_eq_of_mem_set hd with h3|rfl
 ·exact h.2.2 r (List.mem_of_getElem? hi) d h3
 ·rfl
theorem nB{A M:Addr->Prop}{w w':World}{p:Addr}(h:Alt A w w')(hF: ∀p,w.frozen? p=true->M p)(hp: ¬M p)(hb:p.block<w.heap.size):w'.frozen? p=false:=by
 rw [h.xR p hb]
 cases hf:w.frozen? p with
 | false=>rfl
 | true=>exact absurd (hF p hf) hp
theorem jW{α:Type}{l:List α}{i:Nat}{r x:α}(h:l[i]? =some r):(l.set i x)[i]? =some x:=List.getElem?_set_self (List.getElem?_eq_some_iff.1 h).1
end
section
open Go.RowKit Go
variable [GC]
noncomputable def jF(k:Nat)(l:List fV)(i:Nat):List (List D):=ik l.length fun a=>if a<i then [.str (gY (k+2*a)),.int .i64 ((k+2*a+1:Nat):Int)] else aZ.cells (nth l a)
theorem aa4(k:Nat)(l:List fV)(i:Nat):(∀r∈jF k l i,r.length=2)/\ ∀r∈jF k l i,∀d∈r,pG d=true:=by
 constructor
 ·intro r hr
  obtain ⟨a,_,rfl⟩:=nV hr
  split<;>rfl
 ·intro r hr d hd
  obtain ⟨a,_,rfl⟩:=nV hr
  split at hd
  ·simp at hd;rcases hd with rfl|rfl<;>rfl
  ·simp [ju] at hd;rcases hd with rfl|rfl<;>rfl
theorem aa6(k:Nat)(l:List fV):jF k l 0=l.map aZ.cells:=by
 rw [D2];exact um fun a _=>by simp
theorem aa5(k:Nat)(l:List fV)(i:Nat):jF k l (i+1)=(jF k l i).set i [.str (gY (k+2*i)),.int .i64 ((k+2*i+1:Nat):Int)]:=by
 unfold jF
 rw [D3]
 refine um fun a _=> ?_
 by_cases ha:a=i
 ·subst ha;simp
 ·have:a<i+1↔a<i:=by omega
  simp [ha,this]
theorem abb(l:List fV)(k:Nat)(w:World)(M:Addr->Prop)(v:Value)(hr:R w M (aN l) v)(hfr: ∀p,w.frozen? p=true->M p)(hG:Rd w)(hM: ∀p,¬M p->NG<=p.block)(hk:k+2*l.length<=1152921504606846970) :
  Calls Tryz.prog 45 #[v,.int .i64 k] w fun e w'=>e= .returned (.int .i64 ((k+2*l.length:Nat):Int))/\Alt (fun p=> ¬M p) w w'/\R w' M (.sl (jF k l l.length)) v:=by
 obtain ⟨a,len,cap,hv,hlen,hlc,hcm,hno, -⟩:=(show R w M (.sl (l.map aZ.cells)) v from hr)
 subst hv
 rw [List.length_map] at hlen
 subst hlen
 have GD:(l.length:Int)<=1152921504606846976:=by omega
 have HR:=Lib.hid (show Flat w M 2 (jF k l 0) (.slice a l.length cap) from ⟨by rw [aa6];exact hr,aa4 k l 0⟩)
 have HF:=Lib.hid hfr
 have HG:=Lib.hid hG
 have HM:=Lib.hid hM
 clear hr hfr hG hM
 go_enter Tryz.func45,Tryz.ntmps45
 go_wp2
 go_loopw [1,5] (fun kk ii wr=>Alt (fun p=> ¬M p) w wr/\ ∃i K:Nat,i<=l.length/\K=k+2*i/\kk= .int .i64 (K:Int)/\ii= .int .i64 (i:Int)/\Flat wr M 2 (jF k l i) (.slice a l.length cap)) (fun _ ii _=>l.length-(intOf ii).toNat)
 case atStart=>exact ⟨Alt.refl _ _,0,k,by omega,rfl,rfl,rfl,HR.out⟩
 case round =>
  obtain ⟨hA,i,K,hi,hK,rfl,rfl,pq⟩:=hrel
  have HA:=Lib.hid hA
  have lD:=Lib.hid pq
  have HK:=Lib.hid hK
  clear hA pq
  by_cases hlt:i<l.length
  ·obtain ⟨b,o,s,rfl⟩: ∃b o s,a=some ⟨b,o,s⟩:=by
    rcases a with _|⟨b,o,s⟩
    ·have:=hno rfl;omega
    ·exact ⟨b,o,s,rfl⟩
   have hs:s=none:=by
    obtain ⟨a',len',cap',e,q1,q2,q3,q4,q5⟩:=lD.out.1
    cases e
    exact (q5 b o s rfl).1 (by omega)
   subst hs
   have hi0:(0:Int)<=(i:Int):=by omega
   have hi1:(i:Int)<(l.length:Int):=by omega
   have hKb:K+2<=1152921504606846970:=by omega
   have kP:b<w.heap.size:=by
    obtain ⟨u0,d1,_,_⟩:=oY HR.out.2.1 HR.out.1 (i:=i) (j:=0) (pN hlt) (d:= .str (nth l i).name) (by rw [if_neg (by omega)];rfl)
    exact block_lt_of_cell d1
   have hrow:(jF k l i)[i]? =some (aZ.cells (nth l i)):=by
    unfold jF
    rw [pN hlt,if_neg (by omega)]
   clear hK
   go_wp2_with fail
   refine (zy (K) (by omega) _ (HG.out.alt HA.out HM.out)).mono ?_
   rintro e w1 ⟨rfl,hsz,hb1⟩
   have G1:=lD.out.keep hb1
   have fq:=HA.out.trans (Alt.below hb1)
   obtain ⟨c0,n0,F0,A0⟩:=G1.zb (j:=0) (s:=gY (K)) hrow rfl hsz
   have hf0:=nB (fq) HF.out n0 kP
   have kr:=(fq).trans A0
   obtain ⟨c1,n1,F1,A1⟩:=F0.wq (j:=1) (x:=((K+1:Nat):Int)) (jW hrow) rfl (by omega) (by omega)
   have hf1:=nB (kr) HF.out n1 kP
   have hA1:=(kr).trans A1
   have nj:=Lib.hid hA1
   have qG:=Lib.hid F1
   rw [List.set_set] at qG
   clear F0 F1 A0 A1 kr hA1 n0 n1 G1 fq hb1 hsz
   try simp only [Nat.add_zero,Int.natCast_add,Int.natCast_one] at c0 c1 hf0 hf1 nj
   go_wp2
   refine ⟨⟨nj.out,i+1,K+2,by omega,by have:=HK.out;omega,by go_num,by go_num,?_⟩,by simp [intOf];omega⟩
   have e:=HK.out
   subst e
   rw [aa5]
   exact qG.out
  ·go_wp2
   go_ret
   obtain rfl:i=l.length:=by omega
   subst hK
   exact ⟨rfl,HA.out,lD.out.1⟩
theorem Vb(l:List fV)(k:Nat)(hk:k+2*l.length<=1152921504606846970):aD Tryz.prog 47 none [.sl (jF k l l.length),.int .i64 k] (.int .i64 ((k+2*l.length:Nat):Int)) []:=by
 refine aD.bK ahG afd rfl ?_ (fun hfit=> ?_)
 ·refine ⟨?_,rfl,trivial⟩
  show cV _ (ay.tab _) _
  rw [IW]
  refine cV.of fun r hr=> ?_
  obtain ⟨a,ha,rfl⟩:=nV hr
  rw [if_pos ha];exact ⟨trivial,rfl,trivial⟩
 unfold RH
 have gI:(jF k l l.length).length=l.length:=Ir _ _
 refine fp l.length (fun i=>[.int .i64 ((k+2*i:Nat):Int),.int .i64 i]) (fun _=>True) rfl trivial ?_
 intro i hi _ _
 simp only [cA]
 refine aG (fun h2=> ?_) (fun h2=> ?_)
 ·simp only [E.den,aa,ai,aj,jS,gI] at h2
  have h2:i<l.length:=by simpa using h2
  have hrow:(jF k l l.length)[i]? =some [.str (gY (k+2*i)),.int .i64 ((k+2*i+1:Nat):Int)]:=by
   unfold jF
   rw [pN h2,if_pos h2]
  have e1:cv .add .i64 ((k+2*i:Nat):Int) 1=((k+2*i+1:Nat):Int):=db (by omega) (by omega)
  have e2:cv .add .i64 ((k+2*i+1:Nat):Int) 1=((k+2*(i+1):Nat):Int):=by rw [db (by omega) (by omega)];omega
  refine bh (fun _=> ?_) ?_
  ·simp only [E.den,aa,ai,aj,jS,gI];simp;omega
  (refine bu ?_ (Cs (k+2*i) (by omega)) (trivial) ?_;(focus (simp only [VC.den,E.den,aa,aK,and_true];try exact rfl));(simp only [cA]))
  refine aG (fun h3=> ?_) (fun h3=> ?_)
  ·simp only [E.den,aa,ai,aj,hrow,Option.getD_some] at h3
   simp at h3
  refine bh (fun _=> ?_) ?_
  ·simp only [E.den,aa,ai,aj,jS,gI];simp;omega
  refine aG (fun h3=> ?_) (fun h3=> ?_)
  ·simp only [E.den,aa,ai,aj,hrow,Option.getD_some,e1] at h3
   simp at h3
  refine eH h2 ?_ trivial
  simp only [E.den,aa,ai,aj,e1,e2]
  rw [db (by omega) (by omega)];rfl
 ·simp only [E.den,aa,ai,aj,jS,gI] at h2
  obtain rfl:i=l.length:=by simp at h2;omega
  exact aF rfl
noncomputable def iY(k:Nat)(l:List Cell)(i:Nat):List (List D):=ik l.length fun a=>if a<i then [.str (gY (k+2*a)),.int .i64 ((k+2*a+1:Nat):Int)] else aZ.cells (nth l a)
theorem aa0(k:Nat)(l:List Cell)(i:Nat):(∀r∈iY k l i,r.length=2)/\ ∀r∈iY k l i,∀d∈r,pG d=true:=by
 constructor
 ·intro r hr
  obtain ⟨a,_,rfl⟩:=nV hr
  split<;>rfl
 ·intro r hr d hd
  obtain ⟨a,_,rfl⟩:=nV hr
  split at hd
  ·simp at hd;rcases hd with rfl|rfl<;>rfl
  ·simp [dH] at hd;rcases hd with rfl|rfl<;>rfl
theorem aa2(k:Nat)(l:List Cell):iY k l 0=l.map aZ.cells:=by
 rw [D2];exact um fun a _=>by simp
theorem aa1(k:Nat)(l:List Cell)(i:Nat):iY k l (i+1)=(iY k l i).set i [.str (gY (k+2*i)),.int .i64 ((k+2*i+1:Nat):Int)]:=by
 unfold iY
 rw [D3]
 refine um fun a _=> ?_
 by_cases ha:a=i
 ·subst ha;simp
 ·have:a<i+1↔a<i:=by omega
  simp [ha,this]
theorem aa9(l:List Cell)(k:Nat)(w:World)(M:Addr->Prop)(v:Value)(hr:R w M (aN l) v)(hfr: ∀p,w.frozen? p=true->M p)(hG:Rd w)(hM: ∀p,¬M p->NG<=p.block)(hk:k+2*l.length<=1152921504606846970) :
  Calls Tryz.prog 77 #[v,.int .i64 k] w fun e w'=>e= .returned (.int .i64 ((k+2*l.length:Nat):Int))/\Alt (fun p=> ¬M p) w w'/\R w' M (.sl (iY k l l.length)) v:=by
 obtain ⟨a,len,cap,hv,hlen,hlc,hcm,hno, -⟩:=(show R w M (.sl (l.map aZ.cells)) v from hr)
 subst hv
 rw [List.length_map] at hlen
 subst hlen
 have GD:(l.length:Int)<=1152921504606846976:=by omega
 have HR:=Lib.hid (show Flat w M 2 (iY k l 0) (.slice a l.length cap) from ⟨by rw [aa2];exact hr,aa0 k l 0⟩)
 have HF:=Lib.hid hfr
 have HG:=Lib.hid hG
 have HM:=Lib.hid hM
 clear hr hfr hG hM
 go_enter Tryz.func77,Tryz.ntmps77
 go_wp2
 go_loopw [1,5] (fun kk ii wr=>Alt (fun p=> ¬M p) w wr/\ ∃i K:Nat,i<=l.length/\K=k+2*i/\kk= .int .i64 (K:Int)/\ii= .int .i64 (i:Int)/\Flat wr M 2 (iY k l i) (.slice a l.length cap)) (fun _ ii _=>l.length-(intOf ii).toNat)
 case atStart=>exact ⟨Alt.refl _ _,0,k,by omega,rfl,rfl,rfl,HR.out⟩
 case round =>
  obtain ⟨hA,i,K,hi,hK,rfl,rfl,pq⟩:=hrel
  have HA:=Lib.hid hA
  have lD:=Lib.hid pq
  have HK:=Lib.hid hK
  clear hA pq
  by_cases hlt:i<l.length
  ·obtain ⟨b,o,s,rfl⟩: ∃b o s,a=some ⟨b,o,s⟩:=by
    rcases a with _|⟨b,o,s⟩
    ·have:=hno rfl;omega
    ·exact ⟨b,o,s,rfl⟩
   have hs:s=none:=by
    obtain ⟨a',len',cap',e,q1,q2,q3,q4,q5⟩:=lD.out.1
    cases e
    exact (q5 b o s rfl).1 (by omega)
   subst hs
   have hi0:(0:Int)<=(i:Int):=by omega
   have hi1:(i:Int)<(l.length:Int):=by omega
   have hKb:K+2<=1152921504606846970:=by omega
   have kP:b<w.heap.size:=by
    obtain ⟨u0,d1,_,_⟩:=oY HR.out.2.1 HR.out.1 (i:=i) (j:=0) (pN hlt) (d:= .str (nth l i).key) (by rw [if_neg (by omega)];rfl)
    exact block_lt_of_cell d1
   have hrow:(iY k l i)[i]? =some (aZ.cells (nth l i)):=by
    unfold iY
    rw [pN hlt,if_neg (by omega)]
   clear hK
   go_wp2_with fail
   refine (zy (K) (by omega) _ (HG.out.alt HA.out HM.out)).mono ?_
   rintro e w1 ⟨rfl,hsz,hb1⟩
   have G1:=lD.out.keep hb1
   have fq:=HA.out.trans (Alt.below hb1)
   obtain ⟨c0,n0,F0,A0⟩:=G1.zb (j:=0) (s:=gY (K)) hrow rfl hsz
   have hf0:=nB (fq) HF.out n0 kP
   have kr:=(fq).trans A0
   obtain ⟨c1,n1,F1,A1⟩:=F0.wq (j:=1) (x:=((K+1:Nat):Int)) (jW hrow) rfl (by omega) (by omega)
   have hf1:=nB (kr) HF.out n1 kP
   have hA1:=(kr).trans A1
   have nj:=Lib.hid hA1
   have qG:=Lib.hid F1
   rw [List.set_set] at qG
   clear F0 F1 A0 A1 kr hA1 n0 n1 G1 fq hb1 hsz
   try simp only [Nat.add_zero,Int.natCast_add,Int.natCast_one] at c0 c1 hf0 hf1 nj
   go_wp2
   refine ⟨⟨nj.out,i+1,K+2,by omega,by have:=HK.out;omega,by go_num,by go_num,?_⟩,by simp [intOf];omega⟩
   have e:=HK.out
   subst e
   rw [aa1]
   exact qG.out
  ·go_wp2
   go_ret
   obtain rfl:i=l.length:=by omega
   subst hK
   exact ⟨rfl,HA.out,lD.out.1⟩
theorem U9(l:List Cell)(k:Nat)(hk:k+2*l.length<=1152921504606846970):aD Tryz.prog 78 none [.sl (iY k l l.length),.int .i64 k] (.int .i64 ((k+2*l.length:Nat):Int)) []:=by
 refine aD.bK ahE ae9 rfl ?_ (fun hfit=> ?_)
 ·refine ⟨?_,rfl,trivial⟩
  show cV _ (ay.tab _) _
  rw [IV]
  refine cV.of fun r hr=> ?_
  obtain ⟨a,ha,rfl⟩:=nV hr
  rw [if_pos ha];exact ⟨trivial,rfl,trivial⟩
 unfold RF
 have gI:(iY k l l.length).length=l.length:=Ir _ _
 refine fp l.length (fun i=>[.int .i64 ((k+2*i:Nat):Int),.int .i64 i]) (fun _=>True) rfl trivial ?_
 intro i hi _ _
 simp only [cA]
 refine aG (fun h2=> ?_) (fun h2=> ?_)
 ·simp only [E.den,aa,ai,aj,jS,gI] at h2
  have h2:i<l.length:=by simpa using h2
  have hrow:(iY k l l.length)[i]? =some [.str (gY (k+2*i)),.int .i64 ((k+2*i+1:Nat):Int)]:=by
   unfold iY
   rw [pN h2,if_pos h2]
  have e1:cv .add .i64 ((k+2*i:Nat):Int) 1=((k+2*i+1:Nat):Int):=db (by omega) (by omega)
  have e2:cv .add .i64 ((k+2*i+1:Nat):Int) 1=((k+2*(i+1):Nat):Int):=by rw [db (by omega) (by omega)];omega
  refine bh (fun _=> ?_) ?_
  ·simp only [E.den,aa,ai,aj,jS,gI];simp;omega
  (refine bu ?_ (Cs (k+2*i) (by omega)) (trivial) ?_;(focus (simp only [VC.den,E.den,aa,aK,and_true];try exact rfl));(simp only [cA]))
  refine aG (fun h3=> ?_) (fun h3=> ?_)
  ·simp only [E.den,aa,ai,aj,hrow,Option.getD_some] at h3
   simp at h3
  refine bh (fun _=> ?_) ?_
  ·simp only [E.den,aa,ai,aj,jS,gI];simp;omega
  refine aG (fun h3=> ?_) (fun h3=> ?_)
  ·simp only [E.den,aa,ai,aj,hrow,Option.getD_some,e1] at h3
   simp at h3
  refine eH h2 ?_ trivial
  simp only [E.den,aa,ai,aj,e1,e2]
  rw [db (by omega) (by omega)];rfl
 ·simp only [E.den,aa,ai,aj,jS,gI] at h2
  obtain rfl:i=l.length:=by simp at h2;omega
  exact aF rfl
noncomputable def pH(k:Nat)(l:List Call)(i:Nat):List (List D):=ik l.length fun a=>if a<i then [.str (gY (k+4*a)),.str (gY (k+4*a+1)),.int .i64 ((k+4*a+1+1:Nat):Int),.str (gY (k+4*a+1+1+1))] else aZ.cells (nth l a)
theorem Ot(k:Nat)(l:List Call)(i:Nat):(∀r∈pH k l i,r.length=4)/\ ∀r∈pH k l i,∀d∈r,pG d=true:=by
 constructor
 ·intro r hr
  obtain ⟨a,_,rfl⟩:=nV hr
  split<;>rfl
 ·intro r hr d hd
  obtain ⟨a,_,rfl⟩:=nV hr
  split at hd
  ·simp at hd;rcases hd with rfl|rfl|rfl|rfl<;>rfl
  ·simp [bY] at hd;rcases hd with rfl|rfl|rfl|rfl<;>rfl
theorem Ou(k:Nat)(l:List Call):pH k l 0=l.map aZ.cells:=by
 rw [D2];exact um fun a _=>by simp
theorem aa3(k:Nat)(l:List Call)(i:Nat):pH k l (i+1)=(pH k l i).set i [.str (gY (k+4*i)),.str (gY (k+4*i+1)),.int .i64 ((k+4*i+1+1:Nat):Int),.str (gY (k+4*i+1+1+1))]:=by
 unfold pH
 rw [D3]
 refine um fun a _=> ?_
 by_cases ha:a=i
 ·subst ha;simp
 ·have:a<i+1↔a<i:=by omega
  simp [ha,this]
theorem aa8(l:List Call)(k:Nat)(w:World)(M:Addr->Prop)(v:Value)(hr:R w M (aN l) v)(hfr: ∀p,w.frozen? p=true->M p)(hG:Rd w)(hM: ∀p,¬M p->NG<=p.block)(hk:k+4*l.length<=1152921504606846970) :
  Calls Tryz.prog 21 #[v,.int .i64 k] w fun e w'=>e= .returned (.int .i64 ((k+4*l.length:Nat):Int))/\Alt (fun p=> ¬M p) w w'/\R w' M (.sl (pH k l l.length)) v:=by
 obtain ⟨a,len,cap,hv,hlen,hlc,hcm,hno, -⟩:=(show R w M (.sl (l.map aZ.cells)) v from hr)
 subst hv
 rw [List.length_map] at hlen
 subst hlen
 have GD:(l.length:Int)<=1152921504606846976:=by omega
 have HR:=Lib.hid (show Flat w M 4 (pH k l 0) (.slice a l.length cap) from ⟨by rw [Ou];exact hr,Ot k l 0⟩)
 have HF:=Lib.hid hfr
 have HG:=Lib.hid hG
 have HM:=Lib.hid hM
 clear hr hfr hG hM
 go_enter Tryz.func21,Tryz.ntmps21
 go_wp2
 go_loopw [1,5] (fun kk ii wr=>Alt (fun p=> ¬M p) w wr/\ ∃i K:Nat,i<=l.length/\K=k+4*i/\kk= .int .i64 (K:Int)/\ii= .int .i64 (i:Int)/\Flat wr M 4 (pH k l i) (.slice a l.length cap)) (fun _ ii _=>l.length-(intOf ii).toNat)
 case atStart=>exact ⟨Alt.refl _ _,0,k,by omega,rfl,rfl,rfl,HR.out⟩
 case round =>
  obtain ⟨hA,i,K,hi,hK,rfl,rfl,pq⟩:=hrel
  have HA:=Lib.hid hA
  have lD:=Lib.hid pq
  have HK:=Lib.hid hK
  clear hA pq
  by_cases hlt:i<l.length
  ·obtain ⟨b,o,s,rfl⟩: ∃b o s,a=some ⟨b,o,s⟩:=by
    rcases a with _|⟨b,o,s⟩
    ·have:=hno rfl;omega
    ·exact ⟨b,o,s,rfl⟩
   have hs:s=none:=by
    obtain ⟨a',len',cap',e,q1,q2,q3,q4,q5⟩:=lD.out.1
    cases e
    exact (q5 b o s rfl).1 (by omega)
   subst hs
   have hi0:(0:Int)<=(i:Int):=by omega
   have hi1:(i:Int)<(l.length:Int):=by omega
   have hKb:K+4<=1152921504606846970:=by omega
   have kP:b<w.heap.size:=by
    obtain ⟨u0,d1,_,_⟩:=oY HR.out.2.1 HR.out.1 (i:=i) (j:=0) (pN hlt) (d:= .str (nth l i).method) (by rw [if_neg (by omega)];rfl)
    exact block_lt_of_cell d1
   have hrow:(pH k l i)[i]? =some (aZ.cells (nth l i)):=by
    unfold pH
    rw [pN hlt,if_neg (by omega)]
   clear hK
   go_wp2_with fail
   refine (zy (K) (by omega) _ (HG.out.alt HA.out HM.out)).mono ?_
   rintro e w1 ⟨rfl,hsz,hb1⟩
   have G1:=lD.out.keep hb1
   have fq:=HA.out.trans (Alt.below hb1)
   obtain ⟨c0,n0,F0,A0⟩:=G1.zb (j:=0) (s:=gY (K)) hrow rfl hsz
   have hf0:=nB (fq) HF.out n0 kP
   have kr:=(fq).trans A0
   have nj:=Lib.hid kr
   have qG:=Lib.hid F0
   clear F0 A0 kr n0 G1 fq hb1 hsz
   try simp only [Nat.add_zero,Int.natCast_add,Int.natCast_one] at c0 hf0 nj
   go_wp2_with fail
   refine (zy (K+1) (by omega) _ (HG.out.alt nj.out HM.out)).mono ?_
   rintro e w2 ⟨rfl,hsz,hb2⟩
   have G2:=qG.out.keep hb2
   have eD:=nj.out.trans (Alt.below hb2)
   obtain ⟨c1,n1,F1,A1⟩:=G2.zb (j:=1) (s:=gY (K+1)) (jW hrow) rfl hsz
   have hf1:=nB (eD) HF.out n1 kP
   have hA1:=(eD).trans A1
   obtain ⟨c2,n2,F2,A2⟩:=F1.wq (j:=2) (x:=((K+1+1:Nat):Int)) (jW (jW hrow)) rfl (by omega) (by omega)
   have hf2:=nB (hA1) HF.out n2 kP
   have xV:=(hA1).trans A2
   have wY:=Lib.hid xV
   have Cd:=Lib.hid F2
   clear F1 F2 A1 A2 hA1 xV n1 n2 G2 eD hb2 hsz
   try simp only [Nat.add_zero,Int.natCast_add,Int.natCast_one] at c1 c2 hf1 hf2 wY
   go_wp2_with fail
   refine (zy (K+1+1+1) (by omega) _ (HG.out.alt wY.out HM.out)).mono ?_
   rintro e w3 ⟨rfl,hsz,hb3⟩
   have G3:=Cd.out.keep hb3
   have fG:=wY.out.trans (Alt.below hb3)
   obtain ⟨c3,n3,F3,A3⟩:=G3.zb (j:=3) (s:=gY (K+1+1+1)) (jW (jW (jW hrow))) rfl hsz
   have hf3:=nB (fG) HF.out n3 kP
   have xW:=(fG).trans A3
   have Js:=Lib.hid xW
   have Jw:=Lib.hid F3
   rw [List.set_set,List.set_set,List.set_set] at Jw
   clear F3 A3 xW n3 G3 fG hb3 hsz
   try simp only [Nat.add_zero,Int.natCast_add,Int.natCast_one] at c3 hf3 Js
   go_wp2
   refine ⟨⟨Js.out,i+1,K+4,by omega,by have:=HK.out;omega,by go_num,by go_num,?_⟩,by simp [intOf];omega⟩
   have e:=HK.out
   subst e
   rw [aa3]
   exact Jw.out
  ·go_wp2
   go_ret
   obtain rfl:i=l.length:=by omega
   subst hK
   exact ⟨rfl,HA.out,lD.out.1⟩
noncomputable def kB(k:Nat)(l:List da)(i:Nat):List (List D):=ik l.length fun a=>if a<i then [.int .i64 ((k+5*a:Nat):Int),.int .i64 ((k+5*a+1:Nat):Int),.str (gY (k+5*a+1+1)),.int .i64 ((k+5*a+1+1+1:Nat):Int),.int .i64 ((k+5*a+1+1+1+1:Nat):Int)] else aZ.cells (nth l a)
theorem Ow(k:Nat)(l:List da)(i:Nat):(∀r∈kB k l i,r.length=5)/\ ∀r∈kB k l i,∀d∈r,pG d=true:=by
 constructor
 ·intro r hr
  obtain ⟨a,_,rfl⟩:=nV hr
  split<;>rfl
 ·intro r hr d hd
  obtain ⟨a,_,rfl⟩:=nV hr
  split at hd
  ·simp at hd;rcases hd with rfl|rfl|rfl|rfl|rfl<;>rfl
  ·simp [lH] at hd;rcases hd with rfl|rfl|rfl|rfl|rfl<;>rfl
theorem Ox(k:Nat)(l:List da):kB k l 0=l.map aZ.cells:=by
 rw [D2];exact um fun a _=>by simp
theorem aa7(k:Nat)(l:List da)(i:Nat):kB k l (i+1)=(kB k l i).set i [.int .i64 ((k+5*i:Nat):Int),.int .i64 ((k+5*i+1:Nat):Int),.str (gY (k+5*i+1+1)),.int .i64 ((k+5*i+1+1+1:Nat):Int),.int .i64 ((k+5*i+1+1+1+1:Nat):Int)]:=by
 unfold kB
 rw [D3]
 refine um fun a _=> ?_
 by_cases ha:a=i
 ·subst ha;simp
 ·have:a<i+1↔a<i:=by omega
  simp [ha,this]
theorem abc(l:List da)(k:Nat)(w:World)(M:Addr->Prop)(v:Value)(hr:R w M (aN l) v)(hfr: ∀p,w.frozen? p=true->M p)(hG:Rd w)(hM: ∀p,¬M p->NG<=p.block)(hk:k+5*l.length<=1152921504606846970) :
  Calls Tryz.prog 22 #[v,.int .i64 k] w fun e w'=>e= .returned (.int .i64 ((k+5*l.length:Nat):Int))/\Alt (fun p=> ¬M p) w w'/\R w' M (.sl (kB k l l.length)) v:=by
 obtain ⟨a,len,cap,hv,hlen,hlc,hcm,hno, -⟩:=(show R w M (.sl (l.map aZ.cells)) v from hr)
 subst hv
 rw [List.length_map] at hlen
 subst hlen
 have GD:(l.length:Int)<=1152921504606846976:=by omega
 have HR:=Lib.hid (show Flat w M 5 (kB k l 0) (.slice a l.length cap) from ⟨by rw [Ox];exact hr,Ow k l 0⟩)
 have HF:=Lib.hid hfr
 have HG:=Lib.hid hG
 have HM:=Lib.hid hM
 clear hr hfr hG hM
 go_enter Tryz.func22,Tryz.ntmps22
 go_wp2
 go_loopw [1,5] (fun kk ii wr=>Alt (fun p=> ¬M p) w wr/\ ∃i K:Nat,i<=l.length/\K=k+5*i/\kk= .int .i64 (K:Int)/\ii= .int .i64 (i:Int)/\Flat wr M 5 (kB k l i) (.slice a l.length cap)) (fun _ ii _=>l.length-(intOf ii).toNat)
 case atStart=>exact ⟨Alt.refl _ _,0,k,by omega,rfl,rfl,rfl,HR.out⟩
 case round =>
  obtain ⟨hA,i,K,hi,hK,rfl,rfl,pq⟩:=hrel
  have HA:=Lib.hid hA
  have lD:=Lib.hid pq
  have HK:=Lib.hid hK
  clear hA pq
  by_cases hlt:i<l.length
  ·obtain ⟨b,o,s,rfl⟩: ∃b o s,a=some ⟨b,o,s⟩:=by
    rcases a with _|⟨b,o,s⟩
    ·have:=hno rfl;omega
    ·exact ⟨b,o,s,rfl⟩
   have hs:s=none:=by
    obtain ⟨a',len',cap',e,q1,q2,q3,q4,q5⟩:=lD.out.1
    cases e
    exact (q5 b o s rfl).1 (by omega)
   subst hs
   have hi0:(0:Int)<=(i:Int):=by omega
   have hi1:(i:Int)<(l.length:Int):=by omega
   have hKb:K+5<=1152921504606846970:=by omega
   have kP:b<w.heap.size:=by
    obtain ⟨u0,d1,_,_⟩:=oY HR.out.2.1 HR.out.1 (i:=i) (j:=0) (pN hlt) (d:= .int .i64 (nth l i).code) (by rw [if_neg (by omega)];rfl)
    exact block_lt_of_cell d1
   have hrow:(kB k l i)[i]? =some (aZ.cells (nth l i)):=by
    unfold kB
    rw [pN hlt,if_neg (by omega)]
   clear hK
   obtain ⟨c0,n0,F0,A0⟩:=lD.out.wq (j:=0) (x:=((K:Nat):Int)) hrow rfl (by omega) (by omega)
   have hf0:=nB (HA.out) HF.out n0 kP
   have kr:=(HA.out).trans A0
   obtain ⟨c1,n1,F1,A1⟩:=F0.wq (j:=1) (x:=((K+1:Nat):Int)) (jW hrow) rfl (by omega) (by omega)
   have hf1:=nB (kr) HF.out n1 kP
   have hA1:=(kr).trans A1
   have nj:=Lib.hid hA1
   have qG:=Lib.hid F1
   clear F0 F1 A0 A1 kr hA1 n0 n1
   try simp only [Nat.add_zero,Int.natCast_add,Int.natCast_one] at c0 c1 hf0 hf1 nj
   go_wp2_with fail
   refine (zy (K+1+1) (by omega) _ (HG.out.alt nj.out HM.out)).mono ?_
   rintro e w2 ⟨rfl,hsz,hb2⟩
   have G2:=qG.out.keep hb2
   have eD:=nj.out.trans (Alt.below hb2)
   obtain ⟨c2,n2,F2,A2⟩:=G2.zb (j:=2) (s:=gY (K+1+1)) (jW (jW hrow)) rfl hsz
   have hf2:=nB (eD) HF.out n2 kP
   have xV:=(eD).trans A2
   obtain ⟨c3,n3,F3,A3⟩:=F2.wq (j:=3) (x:=((K+1+1+1:Nat):Int)) (jW (jW (jW hrow))) rfl (by omega) (by omega)
   have hf3:=nB (xV) HF.out n3 kP
   have xW:=(xV).trans A3
   obtain ⟨c4,n4,F4,A4⟩:=F3.wq (j:=4) (x:=((K+1+1+1+1:Nat):Int)) (jW (jW (jW (jW hrow)))) rfl (by omega) (by omega)
   have Yi:=nB (xW) HF.out n4 kP
   have Me:=(xW).trans A4
   have wY:=Lib.hid Me
   have Cd:=Lib.hid F4
   rw [List.set_set,List.set_set,List.set_set,List.set_set] at Cd
   clear F2 F3 F4 A2 A3 A4 xV xW Me n2 n3 n4 G2 eD hb2 hsz
   try simp only [Nat.add_zero,Int.natCast_add,Int.natCast_one] at c2 c3 c4 hf2 hf3 Yi wY
   go_wp2
   refine ⟨⟨wY.out,i+1,K+5,by omega,by have:=HK.out;omega,by go_num,by go_num,?_⟩,by simp [intOf];omega⟩
   have e:=HK.out
   subst e
   rw [aa7]
   exact Cd.out
  ·go_wp2
   go_ret
   obtain rfl:i=l.length:=by omega
   subst hK
   exact ⟨rfl,HA.out,lD.out.1⟩
theorem Vd(l:List da)(k:Nat)(hk:k+5*l.length<=1152921504606846970):aD Tryz.prog 23 none [.sl (kB k l l.length),.int .i64 k] (.int .i64 ((k+5*l.length:Nat):Int)) []:=by
 refine aD.bK ahI afh rfl ?_ (fun hfit=> ?_)
 ·refine ⟨?_,rfl,trivial⟩
  show cV _ (ay.tab _) _
  rw [Qw]
  refine cV.of fun r hr=> ?_
  obtain ⟨a,ha,rfl⟩:=nV hr
  rw [if_pos ha];exact ⟨rfl,rfl,trivial,rfl,rfl,trivial⟩
 unfold RJ
 have gI:(kB k l l.length).length=l.length:=Ir _ _
 refine fp l.length (fun i=>[.int .i64 ((k+5*i:Nat):Int),.int .i64 i]) (fun _=>True) rfl trivial ?_
 intro i hi _ _
 simp only [cA]
 refine aG (fun h2=> ?_) (fun h2=> ?_)
 ·simp only [E.den,aa,ai,aj,jS,gI] at h2
  have h2:i<l.length:=by simpa using h2
  have hrow:(kB k l l.length)[i]? =some [.int .i64 ((k+5*i:Nat):Int),.int .i64 ((k+5*i+1:Nat):Int),.str (gY (k+5*i+1+1)),.int .i64 ((k+5*i+1+1+1:Nat):Int),.int .i64 ((k+5*i+1+1+1+1:Nat):Int)]:=by
   unfold kB
   rw [pN h2,if_pos h2]
  have e1:cv .add .i64 ((k+5*i:Nat):Int) 1=((k+5*i+1:Nat):Int):=db (by omega) (by omega)
  have e2:cv .add .i64 ((k+5*i+1:Nat):Int) 1=((k+5*i+1+1:Nat):Int):=db (by omega) (by omega)
  have e3:cv .add .i64 ((k+5*i+1+1:Nat):Int) 1=((k+5*i+1+1+1:Nat):Int):=db (by omega) (by omega)
  have e4:cv .add .i64 ((k+5*i+1+1+1:Nat):Int) 1=((k+5*i+1+1+1+1:Nat):Int):=db (by omega) (by omega)
  have e5:cv .add .i64 ((k+5*i+1+1+1+1:Nat):Int) 1=((k+5*(i+1):Nat):Int):=by rw [db (by omega) (by omega)];omega
  refine bh (fun _=> ?_) ?_
  ·simp only [E.den,aa,ai,aj,jS,gI];simp;omega
  refine aG (fun h3=> ?_) (fun h3=> ?_)
  ·simp only [E.den,aa,ai,aj,hrow,Option.getD_some] at h3
   simp at h3
  refine bh (fun _=> ?_) ?_
  ·simp only [E.den,aa,ai,aj,jS,gI];simp;omega
  refine aG (fun h3=> ?_) (fun h3=> ?_)
  ·simp only [E.den,aa,ai,aj,hrow,Option.getD_some,e1] at h3
   simp at h3
  refine bh (fun _=> ?_) ?_
  ·simp only [E.den,aa,ai,aj,jS,gI];simp;omega
  (refine bu ?_ (Cs (k+5*i+1+1) (by omega)) (trivial) ?_;(focus (simp only [VC.den,E.den,aa,aK,and_true,e1,e2];try exact rfl));(simp only [cA]))
  refine aG (fun h3=> ?_) (fun h3=> ?_)
  ·simp only [E.den,aa,ai,aj,hrow,Option.getD_some,e1,e2] at h3
   simp at h3
  refine bh (fun _=> ?_) ?_
  ·simp only [E.den,aa,ai,aj,jS,gI];simp;omega
  refine aG (fun h3=> ?_) (fun h3=> ?_)
  ·simp only [E.den,aa,ai,aj,hrow,Option.getD_some,e1,e2,e3] at h3
   simp at h3
  refine bh (fun _=> ?_) ?_
  ·simp only [E.den,aa,ai,aj,jS,gI];simp;omega
  refine aG (fun h3=> ?_) (fun h3=> ?_)
  ·simp only [E.den,aa,ai,aj,hrow,Option.getD_some,e1,e2,e3,e4] at h3
   simp at h3
  refine eH h2 ?_ trivial
  simp only [E.den,aa,ai,aj,e1,e2,e3,e4,e5]
  rw [db (by omega) (by omega)];rfl
 ·simp only [E.den,aa,ai,aj,jS,gI] at h2
  obtain rfl:i=l.length:=by simp at h2;omega
  exact aF rfl
end
section
open Go.RowKit Go
variable [GC]
end
end Go.Proofs.YtimickglpboilaaGreatDoor
