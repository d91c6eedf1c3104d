/- General lemmas on worlds, cells and results, used by all walks of this seat. Nothing is assumed. -/
import Derived.Test.YtimickglpboilaaGreatDoorProg
import Derived.WalkKit
import Derived.Handy
import Derived.Deep.QuietTactic
import Derived.BigQuiet
import Derived.Lib.Hide
import Derived.Deep.Draws
import Derived.StillTailTactics
import Derived.Deep.RegionHeld3
import Derived.Laws.Rows
import Derived.Laws.ResultCell
import Derived.Laws.BitsLemmas
import Derived.Laws.BitsAllLaws
import Derived.Below
import Derived.Laws.BytesArg
import Derived.Laws.StructEq
set_option linter.unusedSectionVars false
set_option linter.unusedVariables false
set_option linter.unusedSimpArgs false
namespace Go.Proofs.YtimickglpboilaaGreatDoor
section
open Go.RowKit
theorem Fb{B:Nat}{W w1:World}(hb:Below B W w1):(∀b o,b<B->w1.cell? ⟨b,o,none⟩=W.cell? ⟨b,o,none⟩)/\(∀b o,b<B->w1.frozen? ⟨b,o,none⟩=W.frozen? ⟨b,o,none⟩) :=
 ⟨fun b o h=>hb.cell (p:=⟨b,o,none⟩) h,fun b o h=>hb.frozen (p:=⟨b,o,none⟩) h⟩
theorem ay{w w1:World}{p:Addr}{v:Value}(hb:Below w.heap.size w w1)(h:w.cell? p=some v):w1.cell? p=some v:=by
 rw [hb.cell (block_lt_of_cell h)];exact h
theorem bt{w a b:World}(h:Below w.heap.size w a)(k:Below a.heap.size a b):Below w.heap.size w b:=h.trans (k.mono h.size)
def ai(w:World)(g:Nat)(t:TypeId)(cs:Array Value):Prop:=w.heap[g]? =some (.cells cs t (0,0))
section
variable {w w':World}{g:Nat}{t:TypeId}{cs:Array Value}
theorem ai.lt(h:ai w g t cs):g<w.heap.size:=by
 rcases Nat.lt_or_ge g w.heap.size with hlt|hge
 ·exact hlt
 ·unfold ai at h;rw [Array.getElem?_eq_none hge] at h;cases h
theorem ai.cell(h:ai w g t cs)(i:Nat):w.cell? ⟨g,i,none⟩=cs[i]? :=cell_of_row w g i cs t (0,0) h
theorem ai.frozen(h:ai w g t cs)(i:Nat):w.frozen? ⟨g,i,none⟩=false:=by
 unfold ai at h
 simp [World.frozen?,h]
theorem ai.new(w:World)(t:TypeId)(cs:Array Value):ai (w.alloc (.cells cs t)) w.heap.size t cs:=heap_alloc_new w _
theorem ai.alloc(h:ai w g t cs)(o:Obj):ai (w.alloc o) g t cs:=(Below.heap_alloc w o g h.lt).trans h
theorem ai.uj(h:ai w g t cs)(i:Nat)(u:Value):ai (w.setCell ⟨g,i,none⟩ u) g t (cs.setIfInBounds i u):=by
 unfold ai at h ⊢
 simp [World.setCell,Array.getElem?_modify,h]
theorem ai.far(h:ai w g t cs){p:Addr}(hp:g≠p.block)(u:Value):ai (w.setCell p u) g t cs:=(Below.heap_setCell w p u g hp).trans h
theorem ai.below{B:Nat}(h:ai w g t cs)(hb:Below B w w')(hg:g<B):ai w' g t cs:=(hb.block g hg).trans h
end
theorem iJ{P:Program}{fn:Func}{p:Tmp}{ty:TypeId}(h:fn.results= #[.cell p ty])(tmps:Array Value)(w:World){g:Nat}{t:TypeId}{cs:Array Value}(d:TypeDesc)
  (hp:tmps.getD p undef= .pointer (some ⟨g,0,none⟩)) (hg:ai w g t cs) (hu:P.underlying ty=some d) (hd:(match d with| .struct _| .array _ _=>true|_=>false)=true) (hi:(P.info? ty).map (·.size)=some cs.size) :
  (results fn tmps).run P w= .ok (.agg cs) w:=results_cell_row h tmps w g t cs (0,0) d hp hg hu hd hi
theorem OL(a:Nat)(ha:a<9223372036854775808):(BitVec.ofInt 64 (a:Int)).toNat=a:=by
 rw [BitVec.ofInt_natCast,BitVec.toNat_ofNat];exact Nat.mod_eq_of_lt (by omega)
theorem Zc(a b:Nat)(ha:a<9223372036854775808)(hb:b<9223372036854775808):bits .and .i64 (a:Int) (b:Int)=((a &&& b:Nat):Int):=by
 have hx:a &&& b<2^63:=Nat.and_lt_two_pow _ (by omega)
 show IntKind.i64.wrap ((BitVec.ofInt 64 (a:Int) &&& BitVec.ofInt 64 (b:Int)).toNat:Int)=_
 rw [BitVec.toNat_and,OL a ha,OL b hb,IntKind.wrap_i64]
 omega
end
section
open Go.RowKit
class GC where
 inv:World->Prop
 ng:Nat
 keep: ∀{w w':World},(∀k,k<ng->w'.heap[k]? =w.heap[k]?)->inv w->inv w'
section
variable [GC]
def NG:Nat:=GC.ng
def kp(w:World):Prop:=GC.inv w
theorem kp.keep{w w':World}(h: ∀k,k<NG->w'.heap[k]? =w.heap[k]?)(hw:kp w):kp w':=GC.keep h hw
end
def ko(w:World)(g:Nat)(p:Array Value->Prop):Prop:= ∃cs t f,w.heap[g]? =some (.cells cs t f)/\p cs
theorem ko.keep{w w':World}{g n:Nat}{p:Array Value->Prop}(hg:g<n)(h: ∀k,k<n->w'.heap[k]? =w.heap[k]?)(hh:ko w g p):ko w' g p:=by
 obtain ⟨cs,t,f,h1,h2⟩:=hh
 exact ⟨cs,t,f,by rw [h g hg];exact h1,h2⟩
end
section
open Go.RowKit
inductive D where
 | bool (b:Bool)
 | int (k:IntKind) (n:Int)
 | str (s:ByteArray)
 | agg (l:List D)
 | aE (l:List D)
 | sl (rows:List (List D))
 | mem (n:Nat)
 | fn (f:Nat) (gb:List (List D))
 | un
instance :Inhabited D:=⟨.un⟩
mutual
def R(w:World)(M:Addr->Prop):D->Value->Prop
 | .bool b,v=>v= .bool b
 | .int k n,v=>v= .int k n/\k.min<=n/\n<=k.max
 | .str s,v=>v= .string s/\s.size<=maxLen
 | .agg l,v=> ∃cs:Array Value,v= .agg cs/\Rs w M l cs.toList
 | .aE l,v=> ∃cs:Array Value,v= .tuple cs/\Rs w M l cs.toList
 | .sl rows,v=> ∃a len cap,v= .slice a len cap/\len=rows.length/\len<=cap/\cap<=maxLen/\(a=none->cap=0) /\
   ∀b o s,a=some ⟨b,o,s⟩->(0<len->s=none)/\dF w M rows b o
 | .mem n,v=> ∃a cap,v= .slice a n cap/\n<=cap/\cap<=maxLen/\(a=none->cap=0)/\ ∀b o s,a=some ⟨b,o,s⟩->0<n->s=none
 | .fn f gb,v=> ∃ps:Array Value,v= .func (.func f) #[] ps/\nP w M gb ps.toList
 | .un,_=>False
def Rs(w:World)(M:Addr->Prop):List D->List Value->Prop
 | [],vs=>vs=[]
 | d::l,vs=> ∃v r,vs=v::r/\R w M d v/\Rs w M l r
def Rw(w:World)(M:Addr->Prop):List D->Nat->Nat->Prop
 | [],_,_=>True
 | d::l,b,o=>(∃v,w.cell? ⟨b,o,none⟩=some v/\ ¬M ⟨b,o,none⟩/\R w M d v)/\Rw w M l b (o+1)
def dF(w:World)(M:Addr->Prop):List (List D)->Nat->Nat->Prop
 | [],_,_=>True
 | r::l,b,o=>Rw w M r b o/\dF w M l b (o+r.length)
def nP(w:World)(M:Addr->Prop):List (List D)->List Value->Prop
 | [],vs=>vs=[]
 | r::l,vs=> ∃b q,vs= .pointer (some ⟨b,0,none⟩)::q/\Rw w M r b 0/\nP w M l q
end
def bo(w:World)(M:Addr->Prop)(w':World)(M':Addr->Prop):Prop:= ∀p v,w.cell? p=some v-> ¬M p->w'.cell? p=some v/\ ¬M' p
section
variable {w w':World}{M M':Addr->Prop}
mutual
theorem R.keep(h:bo w M w' M'): ∀(d:D) (v:Value),R w M d v->R w' M' d v
 | .bool _,_,hr=>hr
 | .int _ _,_,hr=>hr
 | .str _,_,hr=>hr
 | .agg l,v,⟨cs,e,hr⟩=>⟨cs,e,Rs.keep h l _ hr⟩
 | .aE l,v,⟨cs,e,hr⟩=>⟨cs,e,Rs.keep h l _ hr⟩
 | .sl rows,v,⟨a,len,cap,e,h1,h2,h3,h4,h5⟩=>⟨a,len,cap,e,h1,h2,h3,h4,fun b o s ha=>⟨(h5 b o s ha).1,dF.keep h rows b o (h5 b o s ha).2⟩⟩
 | .mem _,_,hr=>hr
 | .fn _ gb,v,⟨ps,e,hr⟩=>⟨ps,e,nP.keep h gb _ hr⟩
 | .un,_,hr=>hr
theorem Rs.keep(h:bo w M w' M'): ∀(l:List D) (vs:List Value),Rs w M l vs->Rs w' M' l vs
 | [],_,hr=>hr
 | d::l,vs,⟨v,r,e,h1,h2⟩=>⟨v,r,e,R.keep h d v h1,Rs.keep h l r h2⟩
theorem Rw.keep(h:bo w M w' M'): ∀(l:List D) (b o:Nat),Rw w M l b o->Rw w' M' l b o
 | [],_,_,_=>trivial
 | d::l,b,o,⟨⟨v,h1,h2,h3⟩,h4⟩=>⟨⟨v,(h _ _ h1 h2).1,(h _ _ h1 h2).2,R.keep h d v h3⟩,Rw.keep h l b (o+1) h4⟩
theorem dF.keep(h:bo w M w' M'): ∀(l:List (List D)) (b o:Nat),dF w M l b o->dF w' M' l b o
 | [],_,_,_=>trivial
 | r::l,b,o,⟨h1,h2⟩=>⟨Rw.keep h r b o h1,dF.keep h l b (o+r.length) h2⟩
theorem nP.keep(h:bo w M w' M'): ∀(l:List (List D)) (vs:List Value),nP w M l vs->nP w' M' l vs
 | [],_,hr=>hr
 | r::l,vs,⟨b,q,e,h1,h2⟩=>⟨b,q,e,Rw.keep h r b 0 h1,nP.keep h l q h2⟩
end
theorem nP.snoc{r:List D}{b:Nat}(h:Rw w M r b 0): ∀{l:List (List D)} {vs:List Value},nP w M l vs->nP w M (l++[r]) (vs++[.pointer (some ⟨b,0,none⟩)])
 | [],_,hr=>by subst hr;exact ⟨b,[],rfl,h,rfl⟩
 | r'::l,vs,⟨b',q,e,h1,h2⟩=>by subst e;exact ⟨b',q++[_],rfl,h1,nP.snoc h h2⟩
theorem Rs.length: ∀{l:List D} {vs:List Value},Rs w M l vs->vs.length=l.length
 | [],_,h=>by subst h;rfl
 | d::l,vs,⟨v,r,e,h1,h2⟩=>by subst e;simp [Rs.length h2]
theorem Rs.get: ∀{l:List D} {vs:List Value},Rs w M l vs-> ∀{i:Nat} {d:D},l[i]? =some d-> ∃v,vs[i]? =some v/\R w M d v
 | [],_,_,i,d,hd=>by simp at hd
 | d::l,vs,⟨v,r,e,h1,h2⟩,0,d',hd=>by subst e;simp at hd;subst hd;exact ⟨v,rfl,h1⟩
 | d::l,vs,⟨v,r,e,h1,h2⟩,i+1,d',hd=>by subst e;simp at hd;obtain ⟨u,hu,hr⟩:=Rs.get h2 hd;exact ⟨u,by simpa using hu,hr⟩
theorem Rs.append: ∀{l l':List D} {vs vs':List Value},Rs w M l vs->Rs w M l' vs'->Rs w M (l++l') (vs++vs')
 | [],_,_,_,h,h'=>by subst h;simpa using h'
 | d::l,_,vs,vs',⟨v,r,e,h1,h2⟩,h'=>by subst e;exact ⟨v,r++vs',rfl,h1,Rs.append h2 h'⟩
theorem Rs.drop: ∀{l:List D} {vs:List Value},Rs w M l vs-> ∀n,Rs w M (l.drop n) (vs.drop n)
 | _,_,h,0=>by simpa using h
 | [],_,h,n+1=>by subst h;simp [Rs]
 | d::l,vs,⟨v,r,e,h1,h2⟩,n+1=>by subst e;simpa using Rs.drop h2 n
theorem Rs.take: ∀{l:List D} {vs:List Value},Rs w M l vs-> ∀n,Rs w M (l.take n) (vs.take n)
 | _,_,h,0=>by simp [Rs]
 | [],_,h,n+1=>by subst h;simp [Rs]
 | d::l,vs,⟨v,r,e,h1,h2⟩,n+1=>by subst e;exact ⟨v,r.take n,by simp,h1,Rs.take h2 n⟩
theorem Rs.one{d:D}{v:Value}(h:R w M d v):Rs w M [d] [v]:=⟨v,[],rfl,h,rfl⟩
theorem Rw.get: ∀{l:List D} {b o:Nat},Rw w M l b o-> ∀{i:Nat} {d:D},l[i]? =some d-> ∃v,w.cell? ⟨b,o+i,none⟩=some v/\ ¬M ⟨b,o+i,none⟩/\R w M d v
 | [],_,_,_,i,d,hd=>by simp at hd
 | d::l,b,o,⟨h1,h2⟩,0,d',hd=>by simp at hd;subst hd;simpa using h1
 | d::l,b,o,⟨h1,h2⟩,i+1,d',hd=>by
  simp at hd
  have:=Rw.get h2 hd
  rwa [show o+1+i=o+(i+1) by omega] at this
theorem Rw.drop: ∀{l:List D} {b o:Nat},Rw w M l b o-> ∀n,Rw w M (l.drop n) b (o+n)
 | _,_,_,h,0=>by simpa using h
 | [],_,_,h,n+1=>by simp [Rw]
 | d::l,b,o,⟨h1,h2⟩,n+1=>by
  have:=Rw.drop h2 n
  simpa [Nat.add_assoc,Nat.add_comm 1 n] using this
theorem Rw.take: ∀{l:List D} {b o:Nat},Rw w M l b o-> ∀n,Rw w M (l.take n) b o
 | _,_,_,h,0=>by simp [Rw]
 | [],_,_,h,n+1=>by simp [Rw]
 | d::l,b,o,⟨h1,h2⟩,n+1=>⟨h1,Rw.take h2 n⟩
theorem Rw.of: ∀{l:List D} {b o:Nat},(∀i d,l[i]? =some d-> ∃v,w.cell? ⟨b,o+i,none⟩=some v/\ ¬M ⟨b,o+i,none⟩/\R w M d v)->Rw w M l b o
 | [],_,_,_=>trivial
 | d::l,b,o,h=>⟨by simpa using h 0 d rfl,Rw.of fun i d' hd=>by
   have:=h (i+1) d' (by simpa using hd)
   rwa [show o+(i+1)=o+1+i by omega] at this⟩
theorem Rw.cells: ∀{l:List D} {b o:Nat},Rw w M l b o-> ∃vs:List Value,vs.length=l.length/\Rs w M l vs/\ ∀i u,vs[i]? =some u->w.cell? ⟨b,o+i,none⟩=some u
 | [],_,_,_=>⟨[],rfl,rfl,fun i u h=>by simp at h⟩
 | d::l,b,o,⟨⟨v,h1,h2,h3⟩,h4⟩=>by
  obtain ⟨vs,e,hr,hc⟩:=Rw.cells h4
  refine ⟨v::vs,by simp [e],⟨v,vs,rfl,h3,hr⟩,fun i u hu=> ?_⟩
  cases i with
  | zero=>simp at hu;subst hu;simpa using h1
  | succ i=>simp at hu;have:=hc i u hu;rwa [show o+1+i=o+(i+1) by omega] at this
theorem dF.get{n:Nat}: ∀{rows:List (List D)} {b o:Nat},dF w M rows b o->(∀r∈rows,r.length=n)-> ∀{i:Nat} {r:List D},rows[i]? =some r->Rw w M r b (o+i*n)
 | [],_,_,_,_,i,r,hr=>by simp at hr
 | r::l,b,o,⟨h1,h2⟩,hn,0,r',hr=>by simp at hr;subst hr;simpa using h1
 | r::l,b,o,⟨h1,h2⟩,hn,i+1,r',hr=>by
  simp at hr
  have e:=hn r (by simp)
  have:=dF.get h2 (fun x hx=>hn x (by simp [hx])) hr
  rw [e] at this
  rwa [show o+n+i*n=o+(i+1)*n by rw [Nat.add_mul];omega] at this
theorem dF.of{n:Nat}: ∀{rows:List (List D)} {b o:Nat},(∀r∈rows,r.length=n)->(∀i r,rows[i]? =some r->Rw w M r b (o+i*n))->dF w M rows b o
 | [],_,_,_,_=>trivial
 | r::l,b,o,hn,h=>⟨by simpa using h 0 r rfl,dF.of (fun x hx=>hn x (by simp [hx])) fun i r' hr=>by
   have:=h (i+1) r' (by simpa using hr)
   rw [hn r (by simp)]
   rwa [show o+(i+1)*n=o+n+i*n by rw [Nat.add_mul];omega] at this⟩
end
section
variable [GC]
def jU(w:World)(M:Addr->Prop):Prop:=(∀p,M p->p.block<w.heap.size)/\kp w/\NG<=w.heap.size
theorem jU.below{w w':World}{M M':Addr->Prop}(h:jU w M)(hb:Below w.heap.size w w')(hM: ∀p,M' p->p.block<w'.heap.size):jU w' M' :=
 ⟨hM,h.2.1.keep fun k hk=>hb.block k (Nat.lt_of_lt_of_le hk h.2.2),Nat.le_trans h.2.2 hb.size⟩
end
theorem bo.below{w w':World}{M M':Addr->Prop}(hb:Below w.heap.size w w')(hM: ∀p,p.block<w.heap.size->M' p->M p):bo w M w' M' :=
 fun p v hp hm=>⟨by rw [hb.cell (block_lt_of_cell hp)];exact hp,fun h=>hm (hM p (block_lt_of_cell hp) h)⟩
inductive CT where
 | bool|int (k:IntKind)|str|sl (e:Nat)|mem|fn
 deriving DecidableEq
mutual
def bW(tab:Nat->List CT):CT->D->Prop
 | .bool,.bool _=>True
 | .int k,.int k' _=>k=k'
 | .str,.str _=>True
 | .sl e,.sl rows=>dI tab (tab e) rows
 | .mem,.mem _=>True
 | .fn,.fn _ _=>True
 | _,_=>False
def ba(tab:Nat->List CT):List CT->List D->Prop
 | [],[]=>True
 | t::ts,d::ds=>bW tab t d/\ba tab ts ds
 | _,_=>False
def dI(tab:Nat->List CT):List CT->List (List D)->Prop
 | _,[]=>True
 | ts,r::rs=>ba tab ts r/\dI tab ts rs
end
theorem ba.length{tab:Nat->List CT}: ∀{ts:List CT} {l:List D},ba tab ts l->l.length=ts.length
 | [],[],_=>rfl
 | t::ts,d::ds,h=>by simp [ba] at h;simp [ba.length h.2]
 | [],_::_,h=>by simp [ba] at h
 | _::_,[],h=>by simp [ba] at h
theorem dI.mem{tab:Nat->List CT}{ts:List CT}: ∀{rows:List (List D)},dI tab ts rows-> ∀r∈rows,ba tab ts r
 | [],_,r,hr=>by simp at hr
 | r::l,h,r',hr=>by
  simp [dI] at h
  rcases List.mem_cons.1 hr with e|e
  ·subst e;exact h.1
  ·exact dI.mem h.2 r' e
theorem dI.of{tab:Nat->List CT}{ts:List CT}: ∀{rows:List (List D)},(∀r∈rows,ba tab ts r)->dI tab ts rows
 | [],_=>by simp [dI]
 | r::l,h=>by simp only [dI];exact ⟨h r (by simp),dI.of fun x hx=>h x (by simp [hx])⟩
theorem dI.len{tab:Nat->List CT}{ts:List CT}{rows:List (List D)}(h:dI tab ts rows): ∀r∈rows,r.length=ts.length:=fun r hr=>(h.mem r hr).length
theorem ba.get{tab:Nat->List CT}: ∀{ts:List CT} {l:List D},ba tab ts l-> ∀{i:Nat} {t:CT},ts[i]? =some t-> ∃d,l[i]? =some d/\bW tab t d
 | [],_,_,i,t,ht=>by simp at ht
 | t::ts,d::ds,h,0,t',ht=>by simp [ba] at h;simp at ht;subst ht;exact ⟨d,rfl,h.1⟩
 | t::ts,d::ds,h,i+1,t',ht=>by simp [ba] at h;simp at ht;obtain ⟨x,hx,h2⟩:=ba.get h.2 ht;exact ⟨x,by simpa using hx,h2⟩
 | _::_,[],h,_,_,_=>by simp [ba] at h
theorem ba.append{tab:Nat->List CT}: ∀{ts ts':List CT} {l l':List D},ba tab ts l->ba tab ts' l'->ba tab (ts++ts') (l++l')
 | [],_,[],_,_,h'=>by simpa using h'
 | t::ts,_,d::ds,_,h,h'=>by simp [ba] at h;simp only [List.cons_append,ba];exact ⟨h.1,ba.append h.2 h'⟩
 | [],_,_::_,_,h,_=>by simp [ba] at h
 | _::_,_,[],_,h,_=>by simp [ba] at h
theorem ba.drop{tab:Nat->List CT}: ∀{ts:List CT} {l:List D},ba tab ts l-> ∀n,ba tab (ts.drop n) (l.drop n)
 | _,_,h,0=>by simpa using h
 | [],[],h,n+1=>by simp [ba]
 | t::ts,d::ds,h,n+1=>by simp [ba] at h;simpa using ba.drop h.2 n
 | [],_::_,h,_+1=>by simp [ba] at h
 | _::_,[],h,_+1=>by simp [ba] at h
theorem ba.take{tab:Nat->List CT}: ∀{ts:List CT} {l:List D},ba tab ts l-> ∀n,ba tab (ts.take n) (l.take n)
 | _,_,h,0=>by simp [ba]
 | [],[],h,n+1=>by simp [ba]
 | t::ts,d::ds,h,n+1=>by simp [ba] at h;simp only [List.take_succ_cons,ba];exact ⟨h.1,ba.take h.2 n⟩
 | [],_::_,h,_+1=>by simp [ba] at h
 | _::_,[],h,_+1=>by simp [ba] at h
mutual
def Fits:D->Prop
 | .int k n=>k.min<=n/\n<=k.max
 | .str s=>s.size<=maxLen
 | .agg l=>eB l
 | .aE l=>eB l
 | .sl rows=>rows.length<=maxLen/\zt rows
 | _=>True
def eB:List D->Prop
 | []=>True
 | d::l=>Fits d/\eB l
def zt:List (List D)->Prop
 | []=>True
 | r::l=>eB r/\zt l
end
section
variable {w:World}{M:Addr->Prop}
mutual
theorem R.fits: ∀(d:D) (v:Value),R w M d v->Fits d
 | .bool _,_,_=>trivial
 | .int _ _,_,h=>h.2
 | .str _,_,h=>h.2
 | .agg l,v,⟨cs,e,hr⟩=>Rs.fits l _ hr
 | .aE l,v,⟨cs,e,hr⟩=>Rs.fits l _ hr
 | .sl rows,v,⟨a,len,cap,e,h1,h2,h3,h4,h5⟩=>⟨by omega,by
   rcases a with _|⟨b,o,s⟩
   ·have:rows=[]:=List.eq_nil_of_length_eq_zero (by have:=h4 rfl;omega)
    subst this;trivial
   ·exact dF.fits rows b o (h5 b o s rfl).2⟩
 | .mem _,_,_=>trivial
 | .fn _ _,_,_=>trivial
 | .un,_,h=>h.elim
theorem Rs.fits: ∀(l:List D) (vs:List Value),Rs w M l vs->eB l
 | [],_,_=>trivial
 | d::l,vs,⟨v,r,e,h1,h2⟩=>⟨R.fits d v h1,Rs.fits l r h2⟩
theorem Rw.fits: ∀(l:List D) (b o:Nat),Rw w M l b o->eB l
 | [],_,_,_=>trivial
 | d::l,b,o,⟨⟨v,h1,h2,h3⟩,h4⟩=>⟨R.fits d v h3,Rw.fits l b (o+1) h4⟩
theorem dF.fits: ∀(l:List (List D)) (b o:Nat),dF w M l b o->zt l
 | [],_,_,_=>trivial
 | r::l,b,o,⟨h1,h2⟩=>⟨Rw.fits r b o h1,dF.fits l b (o+r.length) h2⟩
end
end
end
section
open Go.RowKit
def D.cC:D->Int| .int _ n=>n|_=>0
def D.jf:D->Bool| .bool b=>b|_=>false
def D.rQ:D->ByteArray| .str s=>s|_=> .empty
def D.il:D->List D| .agg l=>l|_=>[]
def D.Ex:D->List D| .aE l=>l|_=>[]
def D.mc:D->List (List D)| .sl r=>r|_=>[]
@[simp] theorem D.dE (k:IntKind) (n:Int):(D.int k n).cC=n:=rfl
@[simp] theorem D.fL (b:Bool):(D.bool b).jf=b:=rfl
@[simp] theorem D.fM (s:ByteArray):(D.str s).rQ=s:=rfl
@[simp] theorem D.kM (l:List D):(D.agg l).il=l:=rfl
@[simp] theorem D.adu (l:List D):(D.aE l).Ex=l:=rfl
@[simp] theorem D.wN (l:List (List D)):(D.sl l).mc=l:=rfl
def jy:CT->D
 | .bool=> .bool false| .int k=> .int k 0| .str=> .str .empty| .sl _=> .sl []| .mem=> .mem 0| .fn=> .fn 0 []
def jd:D->Int
 | .str s=>s.size
 | .sl r=>r.length
 | .mem n=>n
 | _=>0
def cP(op:BinOp)(k:IntKind)(x y:Int):Int :=
 match op with
 | .add=>k.wrap (x+y)| .sub=>k.wrap (x-y)| .mul=>k.wrap (x*y)
 | .quo=>k.wrap (x.tdiv y)| .rem=>x.tmod y
 | .and=>k.wrap (BitVec.ofInt k.bits x &&& BitVec.ofInt k.bits y).toNat
 | .or=>k.wrap (BitVec.ofInt k.bits x ||| BitVec.ofInt k.bits y).toNat
 | .xor=>k.wrap (BitVec.ofInt k.bits x ^^^ BitVec.ofInt k.bits y).toNat
 | .andNot=>k.wrap (BitVec.ofInt k.bits x &&& ~~~(BitVec.ofInt k.bits y)).toNat
 | .shl=>k.wrap (x*2^(min y.toNat k.bits))
 | .shr=>x.fdiv (2^(min y.toNat k.bits))
 | _=>0
def bb(op:BinOp)(x y:Int):Bool :=
 match op with
 | .eql=>x==y| .neq=>x != y| .lss=>decide (x<y)| .leq=>decide (x<=y)| .gtr=>decide (x>y)| .geq=>decide (x>=y)
 | _=>false
def fQ(op:BinOp)(x y:ByteArray):Bool :=
 match op with
 | .eql=>x.toList==y.toList| .neq=> !(x.toList==y.toList)
 | .lss=>Op.bytesLess x.toList y.toList
 | .leq=>Op.bytesLess x.toList y.toList||x.toList==y.toList
 | .gtr=> !(Op.bytesLess x.toList y.toList||x.toList==y.toList)
 | .geq=> !Op.bytesLess x.toList y.toList
 | _=>false
def qI(d:D)(lo hi:Int):D :=
 match d with
 | .str s=> .str (s.extract lo.toNat hi.toNat)
 | .sl r=> .sl ((r.drop lo.toNat).take (hi.toNat-lo.toNat))
 | _=> .un
def K1:D->D->Bool
 | .bool a,.bool b=>a==b
 | .int _ a,.int _ b=>a==b
 | .str a,.str b=>a.toList==b.toList
 | _,_=>false
def kR:List D->List D->Bool
 | [],[]=>true
 | a::l,b::r=>K1 a b&&kR l r
 | _,_=>false
def s9(d:D):ByteArray:=strOfNums (d.mc.map fun r=>(r.headD .un).cC)
inductive E where
 | var (i:Nat)
 | lb (x:Bool)|li (k:IntKind) (n:Int)|ls (x:ByteArray)|bJ (e:Nat)
 | ar (op:BinOp) (k:IntKind) (x y:E)
 | ic (op:BinOp) (x y:E)
 | sc (op:BinOp) (x y:E)
 | iK (x y:E)|kJ (x y:E)
 | bc (x y:E)
 | ae (x y:E)
 | no (x:E)
 | an (x y:E)|or (x y:E)
 | conv (k:IntKind) (x:E)
 | len (x:E)
 | pS (x:E)
 | ite (c x y:E)
 | row (ts:List CT) (x i:E)
 | at (x i:E)
 | cell (x:E) (j:Nat)
 | sub (x:E) (j n:Nat)
 | proj (x:E) (j:Nat)
 | cT|ah (x:E)|cat (x y:E)
 | bP|aJ (x y:E)
 | cut (x lo hi:E)
 | app (x y:E)
 | put (x r:E)
 | cw (x i:E)
 | inc (x lo hi:E)
 | few (x y:E)
 | zf (t:CT) (x i:E)
 | mem (l:E)
 | rep (e:Nat) (ts:List CT) (n:E)
 | aX (x i r:E) (off:Nat)
 | fn0 (f:Nat)
 | Da (x r:E)
 deriving DecidableEq
def oC{α:Type}:List α->Nat->List α->List α
 | cs,_,[]=>cs
 | cs,off,x::r=>oC (cs.set off x) (off+1) r
def mR(rows:List (List D))(i off:Nat)(l:List D):List (List D):=rows.set i (oC (rows.getD i []) off l)
def JM:D->D->D
 | .fn f gb,r=> .fn f (gb++[r.il])
 | _,_=> .un
def E.den(env:List D):E->D
 | .fn0 f=> .fn f []
 | .Da x r=>JM (x.den env) (r.den env)
 | .mem l=> .mem (l.den env).cC.toNat
 | .rep _ ts n=> .sl (List.replicate (n.den env).cC.toNat (ts.map jy))
 | .aX x i r off=> .sl (mR (x.den env).mc (i.den env).cC.toNat off (r.den env).il)
 | .zf t x i=>((x.den env).il[(i.den env).cC.toNat]?).getD (jy t)
 | .var i=>env.getD i .un
 | .lb x=> .bool x| .li k n=> .int k n| .ls x=> .str x| .bJ _=> .sl []
 | .ar op k x y=> .int k (cP op k (x.den env).cC (y.den env).cC)
 | .ic op x y=> .bool (bb op (x.den env).cC (y.den env).cC)
 | .sc op x y=> .bool (fQ op (x.den env).rQ (y.den env).rQ)
 | .iK x y=> .str ((x.den env).rQ++(y.den env).rQ)
 | .kJ x y=> .bool (decide ((x.den env).rQ.size+(y.den env).rQ.size<=maxLen))
 | .bc x y=> .bool ((x.den env).jf==(y.den env).jf)
 | .ae x y=> .bool (kR (x.den env).il (y.den env).il)
 | .no x=> .bool (!(x.den env).jf)
 | .an x y=> .bool ((x.den env).jf&&(y.den env).jf)
 | .or x y=> .bool ((x.den env).jf||(y.den env).jf)
 | .conv k x=> .int k (k.wrap (x.den env).cC)
 | .len x=> .int .i64 (jd (x.den env))
 | .pS x=> .str (s9 (x.den env))
 | .ite c x y=>bif (c.den env).jf then x.den env else y.den env
 | .row ts x i=> .agg (((x.den env).mc[(i.den env).cC.toNat]?).getD (ts.map jy))
 | .at x i=> .int .u8 ((((x.den env).rQ[(i.den env).cC.toNat]?).map (fun (c:UInt8)=>(c.toNat:Int))).getD 0)
 | .cell x j=>(x.den env).il.getD j .un
 | .sub x j n=> .agg (((x.den env).il.drop j).take n)
 | .proj x j=>(x.den env).Ex.getD j .un
 | .cT=> .agg []
 | .ah x=> .agg [x.den env]
 | .cat x y=> .agg ((x.den env).il++(y.den env).il)
 | .bP=> .aE []
 | .aJ x y=> .aE ((x.den env).Ex++[y.den env])
 | .cut x lo hi=>qI (x.den env) (lo.den env).cC (hi.den env).cC
 | .app x y=> .sl ((x.den env).mc++(y.den env).mc)
 | .put x r=> .sl ((x.den env).mc++[(r.den env).il])
 | .cw x i=> .bool (decide (0<=(i.den env).cC/\(i.den env).cC<jd (x.den env)))
 | .inc x lo hi=> .bool (decide (0<=(lo.den env).cC/\(lo.den env).cC<=(hi.den env).cC/\(hi.den env).cC<=jd (x.den env)))
 | .few x y=> .bool (decide ((x.den env).mc.length+(y.den env).mc.length<=4294967296))
inductive V1 where
 | c (t:CT)|agg (l:List CT)
 deriving DecidableEq
inductive VT where
 | one (v:V1)|aE (l:List V1)
 deriving DecidableEq
def V1.cells:V1->List CT| .c t=>[t]| .agg l=>l
def cE(tab:Nat->List CT):V1->D->Prop
 | .c t,d=>bW tab t d
 | .agg ts,.agg l=>ba tab ts l
 | .agg _,_=>False
def gZ(tab:Nat->List CT):List V1->List D->Prop
 | [],[]=>True
 | v::vs,d::ds=>cE tab v d/\gZ tab vs ds
 | _,_=>False
def bX(tab:Nat->List CT):VT->D->Prop
 | .one v,d=>cE tab v d
 | .aE vs,.aE l=>gZ tab vs l
 | .aE _,_=>False
theorem gZ.get{tab:Nat->List CT}: ∀{vs:List V1} {l:List D},gZ tab vs l-> ∀{i:Nat} {v:V1},vs[i]? =some v-> ∃d,l[i]? =some d/\cE tab v d
 | [],_,_,i,t,ht=>by simp at ht
 | t::ts,d::ds,h,0,t',ht=>by simp [gZ] at h;simp at ht;subst ht;exact ⟨d,rfl,h.1⟩
 | t::ts,d::ds,h,i+1,t',ht=>by simp [gZ] at h;simp at ht;obtain ⟨x,hx,h2⟩:=gZ.get h.2 ht;exact ⟨x,by simpa using hx,h2⟩
 | _::_,[],h,_,_,_=>by simp [gZ] at h
theorem gZ.snoc{tab:Nat->List CT}{v:V1}{d:D}(hd:cE tab v d): ∀{vs:List V1} {l:List D},gZ tab vs l->gZ tab (vs++[v]) (l++[d])
 | [],[],_=>by simp [gZ,hd]
 | t::ts,e::ds,h=>by simp [gZ] at h;simp only [List.cons_append,gZ];exact ⟨h.1,gZ.snoc hd h.2⟩
 | [],_::_,h=>by simp [gZ] at h
 | _::_,[],h=>by simp [gZ] at h
def isInt:Option VT->Option IntKind
 | some (.one (.c (.int k)))=>some k
 | _=>none
def fu(t:CT)(o:Option VT):Bool:=o==some (.one (.c t))
def E.inf(tab:Nat->List CT)(Γ:List VT):E->Option VT
 | .mem l=>if (isInt (l.inf tab Γ)).isSome then some (.one (.c .mem)) else none
 | .fn0 _=>some (.one (.c .fn))
 | .Da x r=>match x.inf tab Γ,r.inf tab Γ with|some (.one (.c .fn)),some (.one (.agg _))=>some (.one (.c .fn))|_,_=>none
 | .rep e ts n=>if tab e=ts/\(isInt (n.inf tab Γ)).isSome then some (.one (.c (.sl e))) else none
 | .aX x i r off=>match x.inf tab Γ,r.inf tab Γ with
  | some (.one (.c (.sl e))),some (.one (.agg us))=>if us=((tab e).drop off).take us.length/\(isInt (i.inf tab Γ)).isSome then some (.one (.c (.sl e))) else none
  | _,_=>none
 | .zf t x i=>match x.inf tab Γ with|some (.one (.agg ts))=>if ts.all (fun u=>decide (u=t))=true/\(isInt (i.inf tab Γ)).isSome=true then some (.one (.c t)) else none|_=>none
 | .var i=>Γ[i]?
 | .lb _=>some (.one (.c .bool))
 | .li k n=>if k.min<=n/\n<=k.max then some (.one (.c (.int k))) else none
 | .ls x=>if x.size<=maxLen then some (.one (.c .str)) else none
 | .bJ e=>some (.one (.c (.sl e)))
 | .ar _ k x y=>if (isInt (x.inf tab Γ)).isSome/\(isInt (y.inf tab Γ)).isSome then some (.one (.c (.int k))) else none
 | .ic _ x y=>if (isInt (x.inf tab Γ)).isSome/\(isInt (y.inf tab Γ)).isSome then some (.one (.c .bool)) else none
 | .sc _ x y=>if fu .str (x.inf tab Γ)/\fu .str (y.inf tab Γ) then some (.one (.c .bool)) else none
 | .iK x y=>if fu .str (x.inf tab Γ)/\fu .str (y.inf tab Γ) then some (.one (.c .str)) else none
 | .kJ _ _=>some (.one (.c .bool))
 | .bc x y=>if fu .bool (x.inf tab Γ)/\fu .bool (y.inf tab Γ) then some (.one (.c .bool)) else none
 | .ae _ _=>some (.one (.c .bool))
 | .no x=>if fu .bool (x.inf tab Γ) then some (.one (.c .bool)) else none
 | .an x y| .or x y=>if fu .bool (x.inf tab Γ)/\fu .bool (y.inf tab Γ) then some (.one (.c .bool)) else none
 | .conv k x=>if (isInt (x.inf tab Γ)).isSome then some (.one (.c (.int k))) else none
 | .len x=>match x.inf tab Γ with|some (.one (.c .str))|some (.one (.c (.sl _)))|some (.one (.c .mem))=>some (.one (.c (.int .i64)))|_=>none
 | .pS x=>match x.inf tab Γ with|some (.one (.c (.sl e)))=>if tab e=[.int .u8] then some (.one (.c .str)) else none|_=>none
 | .ite c x y=>if fu .bool (c.inf tab Γ)/\x.inf tab Γ=y.inf tab Γ then x.inf tab Γ else none
 | .row ts x i=>match x.inf tab Γ with
  | some (.one (.c (.sl e)))=>if tab e=ts/\(isInt (i.inf tab Γ)).isSome then some (.one (.agg ts)) else none
  | _=>none
 | .at x i=>if fu .str (x.inf tab Γ)/\(isInt (i.inf tab Γ)).isSome then some (.one (.c (.int .u8))) else none
 | .cell x j=>match x.inf tab Γ with|some (.one (.agg ts))=>(ts[j]?).map (fun t=> .one (.c t))|_=>none
 | .sub x j n=>match x.inf tab Γ with|some (.one (.agg ts))=>if j+n<=ts.length then some (.one (.agg ((ts.drop j).take n))) else none|_=>none
 | .proj x j=>match x.inf tab Γ with|some (.aE vs)=>(vs[j]?).map .one|_=>none
 | .cT=>some (.one (.agg []))
 | .ah x=>match x.inf tab Γ with|some (.one (.c t))=>some (.one (.agg [t]))|_=>none
 | .cat x y=>match x.inf tab Γ,y.inf tab Γ with|some (.one (.agg a)),some (.one (.agg b))=>some (.one (.agg (a++b)))|_,_=>none
 | .bP=>some (.aE [])
 | .aJ x y=>match x.inf tab Γ,y.inf tab Γ with|some (.aE a),some (.one b)=>some (.aE (a++[b]))|_,_=>none
 | .cut x lo hi=>if (isInt (lo.inf tab Γ)).isSome/\(isInt (hi.inf tab Γ)).isSome then
   match x.inf tab Γ with|some (.one (.c .str))=>some (.one (.c .str))|some (.one (.c (.sl e)))=>some (.one (.c (.sl e)))|_=>none
  else none
 | .app x y=>match x.inf tab Γ,y.inf tab Γ with|some (.one (.c (.sl e))),some (.one (.c (.sl f)))=>if e=f then some (.one (.c (.sl e))) else none|_,_=>none
 | .put x r=>match x.inf tab Γ,r.inf tab Γ with|some (.one (.c (.sl e))),some (.one (.agg ts))=>if tab e=ts then some (.one (.c (.sl e))) else none|_,_=>none
 | .cw _ _| .inc _ _ _| .few _ _=>some (.one (.c .bool))
def bQ(tab:Nat->List CT)(Γ:List VT)(env:List D):Prop:= ∀(i:Nat) (t:VT),Γ[i]? =some t->bX tab t (env.getD i .un)
theorem Jn{tab:Nat->List CT}: ∀ts:List CT,ba tab ts (ts.map jy)
 | []=>by simp [ba]
 | t::ts=>by
  simp only [List.map_cons,ba]
  refine ⟨?_,Jn ts⟩
  cases t<;>simp [jy,bW,dI]
theorem nX{tab:Nat->List CT}{k:IntKind}{d:D}(h:bW tab (.int k) d): ∃n,d= .int k n:=by
 cases d<;>simp [bW] at h
 subst h;exact ⟨_,rfl⟩
theorem nk{tab:Nat->List CT}{d:D}(h:bW tab .bool d): ∃b,d= .bool b:=by
 cases d<;>simp [bW] at h;exact ⟨_,rfl⟩
theorem mB{tab:Nat->List CT}{d:D}(h:bW tab .str d): ∃s,d= .str s:=by
 cases d<;>simp [bW] at h;exact ⟨_,rfl⟩
theorem Dn{tab:Nat->List CT}{d:D}(h:bW tab .fn d): ∃f gb,d= .fn f gb:=by
 cases d<;>simp [bW] at h;exact ⟨_,_,rfl⟩
theorem nY{tab:Nat->List CT}{e:Nat}{d:D}(h:bW tab (.sl e) d): ∃r,d= .sl r/\dI tab (tab e) r:=by
 cases d<;>simp [bW] at h;exact ⟨_,rfl,h⟩
theorem gX{tab:Nat->List CT}{ts:List CT}{d:D}(h:cE tab (.agg ts) d): ∃l,d= .agg l/\ba tab ts l:=by
 cases d<;>simp [cE] at h;exact ⟨_,rfl,h⟩
theorem Gn{tab:Nat->List CT}{vs:List V1}{d:D}(h:bX tab (.aE vs) d): ∃l,d= .aE l/\gZ tab vs l:=by
 cases d<;>simp [bX] at h;exact ⟨_,rfl,h⟩
theorem rE{o:Option VT}(h:(isInt o).isSome=true): ∃k,o=some (.one (.c (.int k))):=by
 unfold isInt at h;split at h
 ·exact ⟨_,rfl⟩
 ·simp at h
theorem nD{t:CT}{o:Option VT}(h:fu t o=true):o=some (.one (.c t)):=by simpa [fu] using h
theorem Jl(tab:Nat->List CT)(t:CT):bW tab t (jy t):=by
 cases t<;>simp [jy,bW,dI]
theorem PE{tab:Nat->List CT}: ∀{ts:List CT} {l:List D},l.length=ts.length->(∀(i:Nat) (t:CT) (d:D),ts[i]? =some t->l[i]? =some d->bW tab t d)->ba tab ts l
 | [],[],_,_=>by simp [ba]
 | t::ts,d::ds,hl,h=>by
  simp only [ba]
  exact ⟨h 0 t d rfl rfl,PE (by simpa using hl) fun i t' d' h1 h2=>h (i+1) t' d' (by simpa using h1) (by simpa using h2)⟩
 | [],_::_,h,_=>by simp at h
 | _::_,[],h,_=>by simp at h
theorem D0{α:Type}: ∀(l:List α) (cs:List α) (off:Nat),(oC cs off l).length=cs.length
 | [],_,_=>rfl
 | x::r,cs,off=>by simp [oC,D0 r]
theorem BG{α:Type}: ∀(l:List α) (cs:List α) (off i:Nat),(oC cs off l)[i]? =if off<=i/\i<off+l.length/\i<cs.length then l[i-off]? else cs[i]?
 | [],cs,off,i=>by simp [oC];omega
 | x::r,cs,off,i=>by
  rw [oC,BG r]
  simp only [List.length_set,List.length_cons,List.getElem?_set]
  by_cases e:off=i
  ·subst e
   by_cases h:off<cs.length
   ·rw [if_neg (by omega),if_pos rfl,if_pos h,if_pos (by omega),Nat.sub_self];rfl
   ·rw [if_neg (by omega),if_pos rfl,if_neg h,if_neg (by omega),List.getElem?_eq_none (by omega)]
  ·rw [if_neg e]
   by_cases h:off+1<=i/\i<off+1+r.length/\i<cs.length
   ·rw [if_pos h,if_pos (by omega),show i-off=(i-(off+1))+1 by omega];rfl
   ·rw [if_neg h,if_neg (by omega)]
theorem ba.get?{tab:Nat->List CT}{ts:List CT}{l:List D}(h:ba tab ts l){i:Nat}{t:CT}{d:D}(h1:ts[i]? =some t)(h2:l[i]? =some d):bW tab t d:=by
 obtain ⟨d',h3,h4⟩:=h.get h1
 rw [h2] at h3;cases h3;exact h4
theorem acX{tab:Nat->List CT}{ts us:List CT}{l r:List D}{off:Nat}(hu:us=(ts.drop off).take us.length)(hl:ba tab ts l)(hr:ba tab us r):ba tab ts (oC l off r):=by
 refine PE (by rw [D0,hl.length]) fun i t d h1 h2=> ?_
 rw [BG] at h2
 split at h2
 ·rename_i h
  have:us[i-off]? =some t:=by
   rw [hu,List.getElem?_take,List.getElem?_drop,if_pos (by rw [<-hr.length];omega),show off+(i-off)=i by omega,h1]
  exact hr.get? this h2
 ·exact hl.get? h1 h2
theorem agc{tab:Nat->List CT}{ts us:List CT}{rows:List (List D)}{r:List D}{i off:Nat}(hu:us=(ts.drop off).take us.length)(hl:dI tab ts rows)(hr:ba tab us r):dI tab ts (mR rows i off r):=by
 refine dI.of fun z hz=> ?_
 unfold mR at hz
 rcases List.mem_or_eq_of_mem_set hz with h|h
 ·exact hl.mem z h
 ·subst h
  by_cases hi:i<rows.length
  ·refine acX hu (hl.mem _ ?_) hr
   simp [List.getD,List.getElem?_eq_getElem hi]
  ·rw [List.set_eq_of_length_le (by omega)] at hz
   exact hl.mem _ hz
theorem E.cZ{tab:Nat->List CT}{Γ:List VT}{env:List D}(h:bQ tab Γ env): ∀(e:E) (t:VT),e.inf tab Γ=some t->bX tab t (e.den env)
 | .zf c x i,t,ht=>by
  simp only [E.inf] at ht
  split at ht
  ·rename_i ts he
   split at ht
   ·rename_i hc
    simp at ht;subst ht
    obtain ⟨l,hl,hlt⟩:=gX (E.cZ h x _ he)
    simp only [E.den,hl,D.kM,bX,cE]
    cases hg:l[(i.den env).cC.toNat]? with
    | none=>exact Jl tab c
    | some d =>
     have hlt2:(i.den env).cC.toNat<ts.length:=by rw [<-hlt.length];exact (List.getElem?_eq_some_iff.1 hg).1
     obtain ⟨d',hd',hty⟩:=hlt.get (List.getElem?_eq_getElem hlt2)
     rw [hg] at hd';cases hd'
     have:=List.all_eq_true.1 hc.1 _ (List.getElem_mem hlt2)
     simp at this
     rw [this] at hty
     exact hty
   ·simp at ht
  ·simp at ht
 | .mem l,t,ht=>by simp [E.inf] at ht;obtain ⟨_,rfl⟩:=ht;simp [E.den,bX,cE,bW]
 | .fn0 f,t,ht=>by simp [E.inf] at ht;subst ht;simp [E.den,bX,cE,bW]
 | .Da x r,t,ht=>by
  simp only [E.inf] at ht
  split at ht
  ·rename_i us hx hr
   simp at ht;subst ht
   obtain ⟨f,gb,hf⟩:=Dn (E.cZ h x _ hx)
   simp only [E.den,hf,JM,bX,cE,bW]
  ·simp at ht
 | .rep e ts n,t,ht=>by
  simp only [E.inf] at ht
  split at ht
  ·rename_i hc
   simp at ht;subst ht
   simp only [E.den,bX,cE,bW]
   refine dI.of fun z hz=> ?_
   rw [List.eq_of_mem_replicate hz,hc.1]
   exact Jn _
  ·simp at ht
 | .aX x i r off,t,ht=>by
  simp only [E.inf] at ht
  split at ht
  ·rename_i e us hx hr
   split at ht
   ·rename_i hc
    simp at ht;subst ht
    obtain ⟨q,hq,AO⟩:=nY (E.cZ h x _ hx)
    obtain ⟨l,hl,hlt⟩:=gX (E.cZ h r _ hr)
    simp only [E.den,hq,hl,D.wN,D.kM,bX,cE,bW]
    exact agc hc.1 AO hlt
   ·simp at ht
  ·simp at ht
 | .var i,t,ht=>h i t ht
 | .lb _,t,ht=>by simp [E.inf] at ht;subst ht;simp [E.den,bX,cE,bW]
 | .li _ _,t,ht=>by simp [E.inf] at ht;obtain ⟨_,rfl⟩:=ht;simp [E.den,bX,cE,bW]
 | .ls _,t,ht=>by simp [E.inf] at ht;obtain ⟨_,rfl⟩:=ht;simp [E.den,bX,cE,bW]
 | .bJ _,t,ht=>by simp [E.inf] at ht;subst ht;simp [E.den,bX,cE,bW,dI]
 | .ar _ _ _ _,t,ht=>by simp [E.inf] at ht;obtain ⟨_,rfl⟩:=ht;simp [E.den,bX,cE,bW]
 | .ic _ _ _,t,ht=>by simp [E.inf] at ht;obtain ⟨_,rfl⟩:=ht;simp [E.den,bX,cE,bW]
 | .sc _ _ _,t,ht=>by simp [E.inf] at ht;obtain ⟨_,rfl⟩:=ht;simp [E.den,bX,cE,bW]
 | .iK _ _,t,ht=>by simp [E.inf] at ht;obtain ⟨_,rfl⟩:=ht;simp [E.den,bX,cE,bW]
 | .kJ _ _,t,ht=>by simp [E.inf] at ht;subst ht;simp [E.den,bX,cE,bW]
 | .bc _ _,t,ht=>by simp [E.inf] at ht;obtain ⟨_,rfl⟩:=ht;simp [E.den,bX,cE,bW]
 | .ae _ _,t,ht=>by simp [E.inf] at ht;subst ht;simp [E.den,bX,cE,bW]
 | .no _,t,ht=>by simp [E.inf] at ht;obtain ⟨_,rfl⟩:=ht;simp [E.den,bX,cE,bW]
 | .an _ _,t,ht=>by simp [E.inf] at ht;obtain ⟨_,rfl⟩:=ht;simp [E.den,bX,cE,bW]
 | .or _ _,t,ht=>by simp [E.inf] at ht;obtain ⟨_,rfl⟩:=ht;simp [E.den,bX,cE,bW]
 | .conv _ _,t,ht=>by simp [E.inf] at ht;obtain ⟨_,rfl⟩:=ht;simp [E.den,bX,cE,bW]
 | .len x,t,ht=>by
  simp only [E.inf] at ht
  split at ht<;>first|(simp at ht;done)|(simp at ht;subst ht;simp [E.den,bX,cE,bW])
 | .pS x,t,ht=>by
  simp only [E.inf] at ht
  split at ht
  ·split at ht
   ·simp at ht;subst ht;simp [E.den,bX,cE,bW]
   ·simp at ht
  ·simp at ht
 | .ite c x y,t,ht=>by
  simp only [E.inf] at ht
  split at ht
  ·rename_i hc
   have h1:=E.cZ h x t ht
   have h2:=E.cZ h y t (hc.2▸ht)
   simp only [E.den]
   cases (c.den env).jf<;>simpa
  ·simp at ht
 | .row ts x i,t,ht=>by
  simp only [E.inf] at ht
  split at ht
  ·rename_i e he
   split at ht
   ·rename_i hc
    simp at ht;subst ht
    have h1:=E.cZ h x _ he
    obtain ⟨r,hr,ef⟩:=nY h1
    simp only [E.den,hr,D.wN,bX,cE]
    rw [<-hc.1]
    cases hg:r[(i.den env).cC.toNat]? with
    | none=>simp;exact Jn _
    | some z=>simp;exact ef.mem z (List.mem_of_getElem? hg)
   ·simp at ht
  ·simp at ht
 | .at _ _,t,ht=>by simp [E.inf] at ht;obtain ⟨_,rfl⟩:=ht;simp [E.den,bX,cE,bW]
 | .cell x j,t,ht=>by
  simp only [E.inf] at ht
  split at ht
  ·rename_i ts he
   simp at ht
   obtain ⟨c,hc,rfl⟩:=ht
   obtain ⟨l,hl,hlt⟩:=gX (E.cZ h x _ he)
   obtain ⟨d,hd,Gu⟩:=hlt.get hc
   simp [E.den,hl,List.getD,hd,bX,cE,Gu]
  ·simp at ht
 | .sub x j n,t,ht=>by
  simp only [E.inf] at ht
  split at ht
  ·rename_i ts he
   split at ht
   ·simp at ht;subst ht
    obtain ⟨l,hl,hlt⟩:=gX (E.cZ h x _ he)
    simp only [E.den,hl,D.kM,bX,cE]
    exact (hlt.drop j).take n
   ·simp at ht
  ·simp at ht
 | .proj x j,t,ht=>by
  simp only [E.inf] at ht
  split at ht
  ·rename_i vs he
   simp at ht
   obtain ⟨c,hc,rfl⟩:=ht
   obtain ⟨l,hl,hlt⟩:=Gn (E.cZ h x _ he)
   obtain ⟨d,hd,Gu⟩:=hlt.get hc
   simp [E.den,hl,List.getD,hd,bX,Gu]
  ·simp at ht
 | .cT,t,ht=>by simp [E.inf] at ht;subst ht;simp [E.den,bX,cE,ba]
 | .ah x,t,ht=>by
  simp only [E.inf] at ht
  split at ht
  ·rename_i c he
   simp at ht;subst ht
   have:=E.cZ h x _ he
   simp only [E.den,bX,cE,ba]
   exact ⟨this,trivial⟩
  ·simp at ht
 | .cat x y,t,ht=>by
  simp only [E.inf] at ht
  split at ht
  ·rename_i a b ha hb
   simp at ht;subst ht
   obtain ⟨l,hl,hlt⟩:=gX (E.cZ h x _ ha)
   obtain ⟨m,hm,GM⟩:=gX (E.cZ h y _ hb)
   simp only [E.den,hl,hm,D.kM,bX,cE]
   exact hlt.append GM
  ·simp at ht
 | .bP,t,ht=>by simp [E.inf] at ht;subst ht;simp [E.den,bX,gZ]
 | .aJ x y,t,ht=>by
  simp only [E.inf] at ht
  split at ht
  ·rename_i a b ha hb
   simp at ht;subst ht
   obtain ⟨l,hl,hlt⟩:=Gn (E.cZ h x _ ha)
   have hy:=E.cZ h y _ hb
   simp only [E.den,hl,D.adu,bX]
   exact hlt.snoc hy
  ·simp at ht
 | .cut x lo hi,t,ht=>by
  simp only [E.inf] at ht
  split at ht
  ·split at ht
   ·rename_i he
    simp at ht;subst ht
    obtain ⟨s,hs⟩:=mB (E.cZ h x _ he)
    simp [E.den,hs,qI,bX,cE,bW]
   ·rename_i e he
    simp at ht;subst ht
    obtain ⟨r,hr,ef⟩:=nY (E.cZ h x _ he)
    simp only [E.den,hr,qI,bX,cE,bW]
    exact dI.of fun z hz=>ef.mem z (List.mem_of_mem_drop (List.mem_of_mem_take hz))
   ·simp at ht
  ·simp at ht
 | .app x y,t,ht=>by
  simp only [E.inf] at ht
  split at ht
  ·rename_i e f he hf
   split at ht
   ·rename_i XZ
    simp at ht;subst ht;subst XZ
    obtain ⟨r,hr,ef⟩:=nY (E.cZ h x _ he)
    obtain ⟨q,hq,AO⟩:=nY (E.cZ h y _ hf)
    simp only [E.den,hr,hq,D.wN,bX,cE,bW]
    exact dI.of fun z hz=>(List.mem_append.1 hz).elim (ef.mem z) (AO.mem z)
   ·simp at ht
  ·simp at ht
 | .put x r,t,ht=>by
  simp only [E.inf] at ht
  split at ht
  ·rename_i e ts he hr
   split at ht
   ·rename_i hts
    simp at ht;subst ht;subst hts
    obtain ⟨q,hq,AO⟩:=nY (E.cZ h x _ he)
    obtain ⟨l,hl,hlt⟩:=gX (E.cZ h r _ hr)
    simp only [E.den,hq,hl,D.wN,D.kM,bX,cE,bW]
    exact dI.of fun z hz=>(List.mem_append.1 hz).elim (AO.mem z) (fun e=>by simp at e;subst e;exact hlt)
   ·simp at ht
  ·simp at ht
 | .cw _ _,t,ht=>by simp [E.inf] at ht;subst ht;simp [E.den,bX,cE,bW]
 | .inc _ _ _,t,ht=>by simp [E.inf] at ht;subst ht;simp [E.den,bX,cE,bW]
 | .few _ _,t,ht=>by simp [E.inf] at ht;subst ht;simp [E.den,bX,cE,bW]
end
section
open Go.RowKit
structure TI where
 vt:VT
 fs:List (Nat×Nat)
 bytes:Nat
 eq:Bool:=false
abbrev TB:=List (Nat×TI)
def TB.get:TB->Nat->Option TI
 | [],_=>none
 | (t,i)::r,T=>bif Nat.beq t T then some i else TB.get r T
def TI.cells(i:TI):List CT:=match i.vt with| .one v=>v.cells| .aE _=>[]
def TB.tab(tb:TB)(e:Nat):List CT:=match tb.get e with|some i=>i.cells|none=>[]
def zeroV:CT->Value->Bool
 | .bool,.bool b=> !b
 | .int k,.int k' n=>k==k'&&n==0
 | .str,.string s=>s.size==0
 | .sl _,.slice none 0 0=>true
 | _,_=>false
def lI:List CT->List Value->Bool
 | [],[]=>true
 | t::ts,v::vs=>zeroV t v&&lI ts vs
 | _,_=>false
def EM:V1->Option Value->Bool
 | .c t,some v=>zeroV t v
 | .agg ts,some (.agg cs)=>lI ts cs.toList
 | _,_=>false
def mw(tb:TB):List (Nat×Nat)->List Field->Bool
 | [],[]=>true
 | (o,t)::r,f::fs=>o==f.offset&&t==f.type&&(match tb.get t with|some i=>(match i.vt with| .one _=>true| .aE _=>false)|none=>false)&&mw tb r fs
 | _,_=>false
def zW(tb:TB)(v:V1)(fs:List (Nat×Nat))(d:Option TypeDesc):Bool :=
 match v,d with
 | .c .bool,some .bool=>true
 | .c (.int k),some (.int k')=>k==k'
 | .c .str,some .string=>true
 | .c (.sl e),some (.slice e')=>e==e'
 | .agg _,some (.struct fields)=>mw tb fs fields.toList
 | _,_=>false
def qF(tb:TB):Nat->List CT->List (Nat×Nat)->Bool
 | _,ts,[]=>ts.isEmpty
 | o,ts,(o',t)::r=>Nat.beq o o'&&match tb.get t with
  | some i=>decide (ts.take i.cells.length=i.cells)&&qF tb (o+i.cells.length) (ts.drop i.cells.length) r
  | none=>false
def uU(P:Program)(tb:TB):Nat->Nat->Bool
 | 0,_=>false
 | d+1,T=>match tb.get T with
  | none=>false
  | some ti=>match ti.vt with
   | .one (.c (.sl _))=>false
   | .one (.c _)=>true
   | .one (.agg ts)=> !P.stoodInHeld T&&(P.fieldsOf T).toList.all (fun f=> !(f.name== "_"))&&ti.fs.all (fun x=>uU P tb d x.2)&&qF tb 0 ts ti.fs
   | .aE _=>false
def zj(P:Program)(tb:TB)(T:Nat)(ti:TI):Bool :=
 match ti.vt with
 | .aE _=>(match ti.fs with
  | []=>true
  | [(n,e)]=>(match P.underlying T with|some (.array n' e')=>Nat.beq n n'&&Nat.beq e e'|_=>false)&&(match P.info? T with|some i=>Nat.beq i.size n|none=>false)
  | _=>false)
 | .one v=>match P.info? T with
  | none=>false
  | some i=>i.size==v.cells.length&&i.bytes==ti.bytes&&EM v i.zero&&zW tb v ti.fs (P.underlying T)&&(!ti.eq||(uU P tb 8 T&& !P.eqGuardType P.depth T))
def cL(P:Program)(tb:TB):TB->Bool
 | []=>true
 | (T,ti)::r=>zj P tb T ti&&cL P tb r
abbrev Gd:=List (E×Bool)
inductive KK where
 | d|own (g:Nat)|full
 deriving DecidableEq
inductive K where
 | d|own (g:Nat)|full|ag (ks:List KK)
 deriving DecidableEq
def KK.k:KK->K
 | .d=> .d| .own g=> .own g| .full=> .full
def K.kk:K->KK
 | .own g=> .own g| .full=> .full|_=> .d
def K.nth:K->Nat->K
 | .ag ks,j=>(ks.getD j .d).k
 | _,_=> .d
def qj(ks:List K):K:=bif ks.all (fun k=>decide (k.kk= .d)) then .d else .ag (ks.map K.kk)
def IW(k:K)(off:Nat):Option V1->K
 | some (.c _)=>k.nth off
 | some (.agg ts)=>qj ((List.range ts.length).map fun j=>k.nth (off+j))
 | none=> .d
def rL:List V1->Nat->Nat
 | v::r,i+1=>v.cells.length+rL r i
 | _,_=>0
structure LV where
 n:Nat
 body:Option (E×Option (Nat×List Nat)):=none
 deriving DecidableEq
inductive ST where
 | un
 | v (gs:Gd) (k:K) (e:E)
 | ptr (gs:Gd) (id off:Nat)
 | ro (gs:Gd) (e:E) (off:Nat)
 | box (cs:List (K×E))
 | live (n:LV)
 | gp (gs:Gd) (g:Nat) (x i:E)
 | mp (gs:Gd) (g n:Nat) (i:E) (off:Nat)
 | iv (gs:Gd) (g gv n:Nat) (i:E) (off:Nat) (l:E)
 | ip (gs:Gd) (g gv n:Nat) (i:E) (off:Nat) (j:E) (m o2:Nat)
 deriving DecidableEq
abbrev Sg:=List (Nat×ST)
def Sg.get:Sg->Nat->ST
 | [],_=> .un
 | (l,s)::r,x=>bif Nat.beq l x then s else Sg.get r x
def mZ(g gs:Gd):Bool:=g.all fun x=>gs.contains x
def under(gs:Gd):ST->Option ST
 | .v g k e=>bif mZ g gs then some (.v gs k e) else none
 | .ptr g id off=>bif mZ g gs then some (.ptr gs id off) else none
 | .ro g e off=>bif mZ g gs then some (.ro gs e off) else none
 | _=>none
def eA(gs:Gd)(s:Option ST):Option (K×E) :=
 match s.bind (under gs) with
 | some (.v _ k e)=>some (k,e)
 | _=>none
inductive Rq where
 | cond (gs:Gd) (c:E)
 | call (gs:Gd) (f:Nat) (bx:Option (List E)) (args:List E) (vt:VT) (nb:List CT)
 | gW (f:Nat) (bx:Option (List E)) (args:List E) (vt:VT) (nb:List CT) (rt:List (Nat×Nat))
 | new (f:Nat) (args:List E) (nb:List CT)
 | cm (gs:Gd) (e:E) (args:List E) (vt:VT)
 | nV (g:Nat) (vt:VT) (ix:Option (Gd×E×Nat))
structure aU where
 wr:List (Nat×ST)
 rq:List Rq
abbrev RB:=List (Nat×List (Nat×Nat))
def RB.get:RB->Nat->List (Nat×Nat)
 | [],_=>[]
 | (f,r)::q,x=>bif Nat.beq f x then r else RB.get q x
structure Cx where
 tb:TB
 nt:Nat
 rb:RB:=[]
def j8:Nat:=8
def mI:Nat->List (Nat×Nat)->Nat->KK
 | _,[],_=> .d
 | g,(q,_)::r,p=>bif Nat.beq q p then .own g else mI (g+1) r p
def V3:VT->Nat
 | .one v=>v.cells.length
 | .aE vs=>(vs.map fun v=>v.cells.length).sum
def wz(g:Nat)(rt:List (Nat×Nat)):VT->K
 | .one (.c _)=>(mI g rt 0).k
 | vt=> .ag ((List.range (V3 vt)).map (mI g rt))
def iS:Nat->List (Nat×Nat)->List (Nat×ST)
 | _,[]=>[]
 | g,(_,m)::r=>(3*g+2,.live ⟨m,none⟩)::iS (g+1) r
def uQ(tb:TB)(T:Nat):Value->Option ST
 | .bool b=>some (.v [] .d (.lb b))
 | .int k n=>if k.min<=n/\n<=k.max then some (.v [] .d (.li k n)) else none
 | .string s=>if s.size<=maxLen then some (.v [] .d (.ls s)) else none
 | .slice none 0 0=>match tb.get T with
  | some ⟨.one (.c (.sl e)),_,_,_⟩=>some (.v [] .full (.bJ e))
  | _=>none
 | _=>none
def aT(tb:TB)(σ:Nat->ST)(T:Nat):Operand->Option ST
 | .tmp t=>some (σ (3*t))
 | .const v=>uQ tb T v
 | _=>none
def pY(tab:Nat->List CT)(Γ:List VT)(ops:Array Oper)(σ:Nat->ST)(o:Oper):Option Gd :=
 match o.guard with
 | none=>some []
 | some (j,b)=>match (ops[j]?).bind (·.dst) with
  | some d=>match σ (3*d) with
   | .v gs _ c=>bif fu .bool (c.inf tab Γ) then some (gs++[(c,b)]) else none
   | _=>none
  | none=>none
def wv(dst:Option Nat)(st:ST):List (Nat×ST):=match dst with|some d=>[(3*d,st)]|none=>[]
def mk:List E->E
 | []=> .cT
 | e::r=> .cat (.ah e) (mk r)
def pack(tab:Nat->List CT)(Γ:List VT)(es:List E):E :=
 match es with
 | .cell x i::r=>match x.inf tab Γ with
  | some (.one (.agg us))=>if es=(List.range' i es.length).map (.cell x)/\i+es.length<=us.length then (if i=0/\es.length=us.length then x else .sub x i es.length) else mk es
  | _=>mk es
 | _=>mk es
def apart(k:K)(n:Nat)(e:E):List (K×E):=(List.range n).map fun j=>(k.nth j,.cell e j)
def iT{α:Type}(cs:List α)(off:Nat):List α->List α
 | []=>cs
 | x::r=>iT (cs.set off x) (off+1) r
def rW:CT->K×E
 | .bool=>(.d,.lb false)| .int k=>(.d,.li k 0)| .str=>(.d,.ls .empty)| .sl e=>(.full,.bJ e)| .mem=>(.d,.mem (.li .i64 0))| .fn=>(.d,.fn0 0)
def FU(gs:Gd)(dst:Option Nat)(s:Option ST):Option aU:=(s.bind (under gs)).map fun s=>⟨wv dst s,[]⟩
def xI(tab:Nat->List CT)(Γ:List VT)(gs:Gd)(dst:Option Nat)(σ:Nat->ST)(ti:TI)(s:Option ST):Option aU :=
 match s.bind (under gs) with
 | some (.ptr _ id off)=>match σ (3*id+1) with
  | .box cs=>match ti.vt with
   | .one (.c _)=>match cs[off]? with
    | some (k,e)=>some ⟨wv dst (.v gs k e),[]⟩
    | none=>none
   | .one (.agg ts)=>if off+ts.length<=cs.length then some ⟨wv dst (.v gs (qj (((cs.drop off).take ts.length).map (·.1))) (pack tab Γ (((cs.drop off).take ts.length).map (·.2)))),[]⟩ else none
   | _=>none
  | _=>none
 | some (.ro _ e off)=>match e.inf tab Γ with
  | some (.one (.agg us))=>match ti.vt with
   | .one (.c _)=>if off<us.length then some ⟨wv dst (.v gs .d (.cell e off)),[]⟩ else none
   | .one (.agg ts)=>if off=0/\ts.length=us.length then some ⟨wv dst (.v gs .d e),[]⟩
     else if off+ts.length<=us.length then some ⟨wv dst (.v gs .d (.sub e off ts.length)),[]⟩ else none
   | _=>none
  | _=>none
 | _=>none
def th(tab:Nat->List CT)(Γ:List VT)(gs:Gd)(dst:Option Nat)(σ:Nat->ST)(ti:TI)(s:Option ST)(x:Option ST):Option aU :=
 match gs,dst,s.bind (under []),eA [] x with
 | [],none,some (.ptr _ id off),some (k,e)=>match σ (3*id+1) with
  | .box cs=>match ti.vt,e.inf tab Γ with
   | .one (.c _),some (.one (.c _))=>if off<cs.length then some ⟨[(3*id+1,.box (cs.set off (k,e)))],[]⟩ else none
   | .one (.agg ts),some (.one (.agg us))=>if ts.length=us.length/\off+ts.length<=cs.length then some ⟨[(3*id+1,.box (iT cs off (apart k ts.length e)))],[]⟩ else none
   | _,_=>none
  | _=>none
 | _,_,_,_=>none
def FM(tb:TB)(Γ:List VT)(gs:Gd)(dst:Option Nat)(ti:TI)(s:Option ST)(f:Nat):Option aU :=
 match ti.vt,ti.fs[f]? with
 | .one (.agg _),some (fo,ft)=>match tb.get ft with
  | some fi=>if fi.cells.length=0 then none else match fi.vt with
   | .aE _=>none
   | .one _=>match s.bind (under gs) with
    | some (.ptr _ id off)=>some ⟨wv dst (.ptr gs id (off+fo)),[]⟩
    | some (.ro _ e off)=>some ⟨wv dst (.ro gs e (off+fo)),[]⟩
    | _=>none
  | none=>none
 | _,_=>none
def CS(tb:TB)(Γ:List VT)(gs:Gd)(dst:Option Nat)(ti:TI)(x i:Option ST):Option aU :=
 match ti.vt,eA gs x,eA gs i with
 | .one (.c (.sl el)),some (_,ex),some (_,ei)=>match tb.get el with
  | some CZ=>match CZ.vt with
   | .aE _=>none
   | .one _=>if fu (.sl el) (ex.inf tb.tab Γ)/\(isInt (ei.inf tb.tab Γ)).isSome then some ⟨wv dst (.ro gs (.row (tb.tab el) ex ei) 0),[.cond gs (.cw ex ei)]⟩ else none
  | none=>none
 | _,_,_=>none
def FJ(tab:Nat->List CT)(Γ:List VT)(gs:Gd)(dst:Option Nat)(g:Nat)(x:Option ST):Option aU :=
 match gs,eA [] x with
 | [],some (k,e)=>match e.inf tab Γ with
  | some (.one (.c _))=>some ⟨wv dst (.ptr [] g 0)++[(3*g+1,.box [(k,e)])],[]⟩
  | some (.one (.agg ts))=>some ⟨wv dst (.ptr [] g 0)++[(3*g+1,.box (apart k ts.length e))],[]⟩
  | _=>none
 | _,_=>none
def FG(gs:Gd)(dst:Option Nat)(g:Nat)(ti:TI):Option aU :=
 match gs,ti.vt with
 | [],.one v=>some ⟨wv dst (.ptr [] g 0)++[(3*g+1,.box (v.cells.map rW))],[]⟩
 | _,_=>none
def mr(tb:TB)(Γ:List VT)(gs:Gd)(σ:Nat->ST)(fs:List (Nat×Nat)):List (Nat×Operand)->List (K×E)->Option (List (K×E))
 | [],cs=>some cs
 | (f,x)::r,cs=>match fs[f]? with
  | some (fo,ft)=>match tb.get ft,eA gs (aT tb σ ft x) with
   | some fi,some (k,e)=>match fi.vt,e.inf tb.tab Γ with
    | .one (.c _),some (.one (.c _))=>if fo<cs.length then mr tb Γ gs σ fs r (cs.set fo (k,e)) else none
    | .one (.agg us),some (.one (.agg ts))=>if us.length=ts.length/\fo+ts.length<=cs.length then mr tb Γ gs σ fs r (iT cs fo (apart k ts.length e)) else none
    | _,_=>none
   | _,_=>none
  | none=>none
def CP(tb:TB)(Γ:List VT)(gs:Gd)(dst:Option Nat)(σ:Nat->ST)(ti:TI)(parts:List (Nat×Operand)):Option aU :=
 match ti.vt with
 | .one (.agg ts)=>(mr tb Γ gs σ ti.fs parts (ts.map rW)).map fun cs=>⟨wv dst (.v gs (qj (cs.map (·.1))) (pack tb.tab Γ (cs.map (·.2)))),[]⟩
 | _=>none
def kQ(tb:TB)(Γ:List VT)(gs:Gd)(σ:Nat->ST)(el:Nat):Nat->List (Nat×Operand)->E->Option E
 | _,[],acc=>some acc
 | n,(i,x)::r,acc=>if i=n then
   match eA gs (aT tb σ el x) with
   | some (_,e)=>match e.inf tb.tab Γ with
    | some (.one (.c t))=>if tb.tab el=[t] then kQ tb Γ gs σ el (n+1) r (.put acc (.ah e)) else none
    | some (.one (.agg ts))=>if tb.tab el=ts then kQ tb Γ gs σ el (n+1) r (.put acc e) else none
    | _=>none
   | none=>none
  else none
def CX(tb:TB)(el len:Nat):Bool :=
 match tb.get el with
 | some i=>match i.vt with| .one _=>decide (len*i.cells.length<=65536)&&decide (0<i.cells.length)|_=>false
 | none=>false
def CR(tb:TB)(Γ:List VT)(gs:Gd)(dst:Option Nat)(σ:Nat->ST)(ti:TI)(len:Nat)(parts:List (Nat×Operand)):Option aU :=
 match ti.vt with
 | .one (.c (.sl el))=>if parts.length=len/\CX tb el len=true then (kQ tb Γ gs σ el 0 parts (.bJ el)).map fun e=>⟨wv dst (.v gs (bif Nat.beq len 0 then .full else .d) e),[]⟩ else none
 | _=>none
def CQ(tb:TB)(Γ:List VT)(gs:Gd)(dst:Option Nat)(σ:Nat->ST)(g:Nat)(ti:TI)(len:Nat)(parts:List (Nat×Operand)):Option aU :=
 match gs,ti.vt with
 | [],.one (.c (.sl el))=>if parts.length=len/\CX tb el len=true then (kQ tb Γ [] σ el 0 parts (.bJ el)).map fun e=>⟨wv dst (.v [] (.own g) e)++[(3*g+2,.live ⟨(tb.tab el).length,none⟩)],[]⟩ else none
 | _,_=>none
def DR:VT->Bool
 | .one (.c .str)| .one (.c (.sl _))=>true
 | _=>false
def NH:VT->Bool
 | .one (.c (.sl _))=>true
 | _=>false
def qf:CT->Bool
 | .sl _| .mem| .fn=>false
 | _=>true
def rH(ts:List CT):Bool:=ts.all qf
def Qi(tb:TB):VT->Bool
 | .one (.c (.sl e))=>(match tb.get e with|some i=>(match i.vt with| .one _=>true| .aE _=>false)|none=>false)
 | _=>true
def CY(tb:TB)(Γ:List VT)(gs:Gd)(dst:Option Nat)(ti:TI)(x:Option ST)(lo hi:Option (Option ST)):Option aU :=
 match eA gs x,(match lo with|none=>some (K.d,E.li .i64 0)|some s=>eA gs s) with
 | some (_,ex),some (_,el)=>match (match hi with|none=>some (K.d,E.len ex)|some s=>eA gs s) with
  | some (_,eh)=>if ex.inf tb.tab Γ=some ti.vt/\(isInt (el.inf tb.tab Γ)).isSome/\(isInt (eh.inf tb.tab Γ)).isSome/\DR ti.vt=true/\Qi tb ti.vt=true then
    some ⟨wv dst (.v gs .d (.cut ex el eh)),[.cond gs (.inc ex el eh)]⟩ else none
  | none=>none
 | _,_=>none
def I8(tb:TB)(src:TI):Bool:=match src.vt with
 | .one (.c (.sl el))=>(match tb.get el with|some i=>(match i.vt with| .one (.c (.int .u8))=>true|_=>false)|none=>false)
 | _=>false
def FK(tab:Nat->List CT)(Γ:List VT)(gs:Gd)(dst:Option Nat)(u8:Bool)(src ti:TI)(x:Option ST):Option aU :=
 match src.vt,ti.vt,eA gs x with
 | .one (.c (.int _)),.one (.c (.int k)),some (_,e)=>if (isInt (e.inf tab Γ)).isSome then some ⟨wv dst (.v gs .d (.conv k e)),[]⟩ else none
 | .one (.c (.sl el)),.one (.c .str),some (_,e)=>if fu (.sl el) (e.inf tab Γ)/\u8=true/\tab el=[.int .u8] then some ⟨wv dst (.v gs .d (.pS e)),[]⟩ else none
 | _,_,_=>none
def FL(tab:Nat->List CT)(Γ:List VT)(gs:Gd)(dst:Option Nat)(x:Option ST)(i:Nat):Option aU :=
 match eA gs x with
 | some (k,e)=>match e.inf tab Γ with
  | some (.aE vs)=>if i<vs.length then some ⟨wv dst (.v gs (IW k (rL vs i) vs[i]?) (.proj e i)),[]⟩ else none
  | _=>none
 | none=>none
def FX(tab:Nat->List CT)(Γ:List VT)(gs:Gd)(dst:Option Nat)(x:Option ST):Option aU :=
 match eA gs x with
 | some (_,e)=>if fu .bool (e.inf tab Γ) then some ⟨wv dst (.v gs .d (.no e)),[]⟩ else none
 | none=>none
def FV(tab:Nat->List CT)(Γ:List VT)(gs:Gd)(dst:Option Nat)(x:Option ST):Option aU :=
 match eA gs x with
 | some (_,e)=>match e.inf tab Γ with
  | some (.one (.c (.int k)))=>some ⟨wv dst (.v gs .d (.ar .sub k (.li k 0) e)),[]⟩
  | _=>none
 | none=>none
def Ip(tab:Nat->List CT)(Γ:List VT)(ec ea eb:E):E :=
 if ea= .lb true/\fu .bool (eb.inf tab Γ)=true then .or ec eb else if eb= .lb false/\fu .bool (ea.inf tab Γ)=true then .an ec ea else .ite ec ea eb
def FY(tab:Nat->List CT)(Γ:List VT)(gs:Gd)(dst:Option Nat)(c a b:Option ST):Option aU :=
 match eA gs c with
 | some (_,ec)=>if fu .bool (ec.inf tab Γ) then
   match eA (gs++[(ec,true)]) a,eA (gs++[(ec,false)]) b with
   | some (_,ea),some (_,eb)=>some ⟨wv dst (.v gs .d (Ip tab Γ ec ea eb)),[]⟩
   | _,_=>none
  else none
 | none=>none
def FQ(tab:Nat->List CT)(Γ:List VT)(gs:Gd)(dst:Option Nat)(ti:TI)(x:Option ST):Option aU :=
 match eA gs x with
 | some (_,e)=>if (e.inf tab Γ=some ti.vt/\DR ti.vt=true)\/(e.inf tab Γ=some (.one (.c .mem))/\NH ti.vt=true) then some ⟨wv dst (.v gs .d (.len e)),[]⟩ else none
 | none=>none
def xD(tb:TB)(Γ:List VT)(gs:Gd)(dst:Option Nat)(σ:Nat->ST)(g:Nat)(ti ti':TI)(x y:Option ST):Option aU :=
 match gs,ti.vt,ti'.vt with
 | [],.one (.c (.sl el)),.one (.c (.sl _))=>match eA [] x,eA [] y,tb.get el with
  | some (k,ex),some (_,ey),some ei=>if fu (.sl el) (ex.inf tb.tab Γ)/\fu (.sl el) (ey.inf tb.tab Γ)/\ei.bytes<=1024/\0<ei.bytes/\0<ei.cells.length then
    match ei.vt with
    | .aE _=>none
    | .one _=>match k with
     | .full=>some ⟨wv dst (.v [] (.own g) (.app ex ey))++[(3*g+2,.live ⟨ei.cells.length,none⟩)],[.cond [] (.few ex ey)]⟩
     | .own h=>match σ (3*h+2) with
      | .live n=>if n=⟨ei.cells.length,none⟩ then some ⟨wv dst (.v [] (.own g) (.app ex ey))++[(3*h+2,.un),(3*g+2,.live ⟨ei.cells.length,none⟩)],[.cond [] (.few ex ey)]⟩ else none
      | _=>none
     | _=>none
   else none
  | _,_,_=>none
 | _,_,_=>none
def FH(tab:Nat->List CT)(Γ:List VT)(gs:Gd)(dst:Option Nat)(ti:TI)(x i:Option ST):Option aU :=
 match ti.vt,eA gs x,eA gs i with
 | .one (.c .str),some (_,ex),some (_,ei)=>if fu .str (ex.inf tab Γ)/\(isInt (ei.inf tab Γ)).isSome then some ⟨wv dst (.v gs .d (.at ex ei)),[.cond gs (.cw ex ei)]⟩ else none
 | _,_,_=>none
def FW(gs:Gd)(dst:Option Nat)(s:Option ST):Option aU :=
 match s.bind (under gs) with
 | some (.ptr _ id off)=>some ⟨wv dst (.ptr gs id off),[]⟩
 | some (.ro _ e off)=>some ⟨wv dst (.ro gs e off),[]⟩
 | _=>none
def yL:BinOp->Bool
 | .add| .sub| .mul| .and| .or| .xor| .andNot=>true
 | _=>false
def vN:BinOp->Bool
 | .eql| .neq| .lss| .leq| .gtr| .geq=>true
 | _=>false
def FI(tab:Nat->List CT)(Γ:List VT)(gs:Gd)(dst:Option Nat)(op:BinOp)(ti:Option TI)(x y:Option ST):Option aU :=
 match eA gs x,eA gs y with
 | some (_,a),some (_,b)=>match a.inf tab Γ,b.inf tab Γ with
  | some (.one (.c (.int k))),some (.one (.c (.int k'))) =>
   if op= .shl\/op= .shr then some ⟨wv dst (.v gs .d (.ar op k a b)),[.cond gs (.ic .geq b (.li k' 0))]⟩
   else if k≠k' then none
   else if yL op then some ⟨wv dst (.v gs .d (.ar op k a b)),[]⟩
   else if vN op then some ⟨wv dst (.v gs .d (.ic op a b)),[]⟩
   else if op= .quo\/op= .rem then some ⟨wv dst (.v gs .d (.ar op k a b)),[.cond gs (.ic .neq b (.li k 0))]⟩
   else none
  | some (.one (.c .str)),some (.one (.c .str)) =>
   if vN op then some ⟨wv dst (.v gs .d (.sc op a b)),[]⟩
   else if op= .add then some ⟨wv dst (.v gs .d (.iK a b)),[.cond gs (.kJ a b)]⟩
   else none
  | some (.one (.agg ts)),some (.one (.agg us))=>match ti with
   | some i=>if i.eq=true/\i.vt= .one (.agg ts)/\i.vt= .one (.agg us) then
     if op= .eql then some ⟨wv dst (.v gs .d (.ae a b)),[]⟩ else if op= .neq then some ⟨wv dst (.v gs .d (.no (.ae a b))),[]⟩ else none
    else none
   | none=>none
  | some (.one (.c .bool)),some (.one (.c .bool))=>match ti with
   | some i=>if i.vt= .one (.c .bool) then
     if op= .eql then some ⟨wv dst (.v gs .d (.bc a b)),[]⟩ else if op= .neq then some ⟨wv dst (.v gs .d (.no (.bc a b))),[]⟩ else none
    else none
   | none=>none
  | _,_=>none
 | _,_=>none
def ji(tb:TB)(Γ:List VT)(gs:Gd)(σ:Nat->ST):List Operand->List Nat->Option (List E)
 | [],[]=>some []
 | x::xs,T::Ts=>match eA gs (aT tb σ T x),ji tb Γ gs σ xs Ts with
  | some (_,e),some es=>some (e::es)
  | _,_=>none
 | _,_=>none
def yM:Option ST->Option (Gd×Nat)
 | some (.ptr g id 0)=>some (g,id)
 | _=>none
def vars(n:Nat):List CT->List (K×E)
 | []=>[]
 | _::r=>(.d,.var n)::vars (n+1) r
def yK(tab:Nat->List CT)(Γ:List VT):List (K×E)->Option (List CT)
 | []=>some []
 | (_,e)::r=>match e.inf tab Γ,yK tab Γ r with
  | some (.one (.c t)),some ts=>some (t::ts)
  | _,_=>none
def qM:Gd->E
 | []=> .lb true
 | (c,b)::r=> .an (bif b then c else .no c) (qM r)
def qh(g:E):List (K×E)->List (K×E)->List (K×E)
 | x::r,y::q=>(.d,.ite g x.2 y.2)::qh g r q
 | _,_=>[]
def xF(tb:TB)(Γ:List VT)(gs:Gd)(dst:Option Nat)(σ:Nat->ST)(rt:List (Nat×Nat))(ti:TI)(f:Nat)(xs:List Operand)(Ts:List Nat)(g':Gd)(id:Nat):Option aU :=
 match σ (3*id+1),ji tb Γ gs σ xs Ts with
 | .box cs,some es=>match yK tb.tab Γ cs with
  | some nb=>if rt=[]/\mZ g' gs=true/\gs.all (fun x=>fu .bool (x.1.inf tb.tab Γ))=true then some ⟨wv dst (.v gs .d (.var Γ.length))++[(3*id+1,.box (qh (qM gs) (vars (Γ.length+1) nb) cs))],[.call gs f (some (cs.map (·.2))) es ti.vt nb]⟩ else none
  | none=>none
 | _,_=>none
def xE(tb:TB)(Γ:List VT)(gs:Gd)(dst:Option Nat)(σ:Nat->ST)(g:Nat)(rt:List (Nat×Nat))(ti:TI)(f:Nat)(args:List Operand)(dh:List Nat):Option aU :=
 match args,dh with
 | x::xs,T::Ts=>match yM (aT tb σ T x) with
  | some (g',id)=>match gs,g',σ (3*id+1),ji tb Γ [] σ xs Ts with
   | [],[],.box cs,some es=>match yK tb.tab Γ cs with
    | some nb=>if rt=[] then some ⟨wv dst (.v [] .d (.var Γ.length))++[(3*id+1,.box (vars (Γ.length+1) nb))],[.call [] f (some (cs.map (·.2))) es ti.vt nb]⟩
      else if rt.length<=j8 then some ⟨wv dst (.v [] (wz g rt ti.vt) (.var Γ.length))++((3*id+1,.box (vars (Γ.length+1) nb))::iS g rt),[.gW f (some (cs.map (·.2))) es ti.vt nb rt]⟩ else none
    | none=>none
   | _,_,_,_=>xF tb Γ gs dst σ rt ti f xs Ts g' id
  | none=>match ji tb Γ gs σ args dh with
   | some es=>if gs=[]/\rt≠[]/\rt.length<=j8 then some ⟨wv dst (.v [] (wz g rt ti.vt) (.var Γ.length))++iS g rt,[.gW f none es ti.vt [] rt]⟩
     else some ⟨wv dst (.v gs .d (.var Γ.length)),[.call gs f none es ti.vt []]⟩
   | none=>none
 | [],[]=>some ⟨wv dst (.v gs .d (.var Γ.length)),[.call gs f none [] ti.vt []]⟩
 | _,_=>none
def NF(ti:TI):Option (List CT) :=
 match ti.vt with
 | .aE [.agg nb]=>bif ti.eq then some nb else none
 | _=>none
def eNew(tb:TB)(Γ:List VT)(gs:Gd)(dst:Option Nat)(σ:Nat->ST)(g:Nat)(nb:List CT)(f:Nat)(args:List Operand)(dh:List Nat):Option aU :=
 match gs,ji tb Γ [] σ args dh with
 | [],some es=>some ⟨wv dst (.ptr [] g 0)++[(3*g+1,.box (vars Γ.length nb))],[.new f es nb]⟩
 | _,_=>none
def zI(tb:TB)(ti:TI):Option (Nat×CT) :=
 match ti.vt,ti.fs with
 | .aE _,[(n,e)]=>match tb.get e with
  | some ei=>match ei.vt with
   | .one (.c t)=>some (n,t)
   | _=>none
  | none=>none
 | _,_=>none
def FP(tb:TB)(Γ:List VT)(gs:Gd)(dst:Option Nat)(ti:TI)(g:Nat):Option aU :=
 match zI tb ti with
 | some (n,t)=>some ⟨wv dst (.v gs .d (.var Γ.length)),[.nV g (.one (.agg (List.replicate n t))) none]⟩
 | none=>none
def FO(tb:TB)(Γ:List VT)(gs:Gd)(dst:Option Nat)(ti:TI)(g:Nat)(i:Option ST):Option aU :=
 match zI tb ti,eA gs i with
 | some (n,t),some (_,ei)=>if (isInt (ei.inf tb.tab Γ)).isSome then some ⟨wv dst (.gp gs g (.var Γ.length) ei),[.nV g (.one (.agg (List.replicate n t))) (some (gs,ei,n))]⟩ else none
 | _,_=>none
def xz(tb:TB):List CT->Option (List Nat)
 | []=>some []
 | t::r=>match xz tb r with
  | none=>none
  | some ms=>match t with
   | .sl e=>bif rH (tb.tab e)&&Nat.blt 0 (tb.tab e).length then some ((tb.tab e).length::ms) else none
   | .mem=>none
   | .fn=>none
   | _=>some (0::ms)
def C9(dp:Option (Nat×List Nat))(off k:Nat):Bool :=
 match dp with
 | none=>true
 | some (_,ms)=>(List.range k).all fun j=>Nat.beq (ms.getD (off+j) 0) 0
def KW(tb:TB)(Γ:List VT)(gs:Gd)(dst:Option Nat)(σ:Nat->ST)(ti:TI)(g0:Gd)(g n:Nat)(i:E)(off:Nat):Option aU:=none
def CU(tb:TB)(Γ:List VT)(σ:Nat->ST)(g0:Nat)(ti:TI)(g n:Nat)(i:E)(off:Nat)(x:Option ST):Option aU :=
 match σ (3*g+2),eA [] x with
 | .live ⟨n',some (e,dp)⟩,some (k,ex)=>match e.inf tb.tab Γ with
  | some (.one (.c (.sl el)))=>if n=n'/\(tb.tab el).length=n then
    match ti.vt,ex.inf tb.tab Γ with
    | .one (.c _),some (.one (.c .mem))=>match k,dp with
     | .own h,some (_,ms)=>match σ (3*h+2) with
      | .live ⟨m,some (e',none)⟩=>match e'.inf tb.tab Γ with
       | some (.one (.c (.sl xM)))=>if (tb.tab el)[off]? =some (.sl xM)/\ms.getD off 0=m/\m≠0/\h≠g then
         some ⟨[(3*h+2,.un),(3*g+2,.live ⟨n,some (.aX e i (.ah e') off,some (g0,ms))⟩)],[]⟩ else none
       | _=>none
      | _=>none
     | _,_=>none
    | .one (.c _),some (.one (.c t))=>if (tb.tab el)[off]? =some t/\qf t=true/\C9 dp off 1=true then some ⟨[(3*g+2,.live ⟨n,some (.aX e i (.ah ex) off,dp)⟩)],[]⟩ else none
    | .one (.agg ts),some (.one (.agg us))=>if us=((tb.tab el).drop off).take us.length/\ts.length=us.length/\off+us.length<=n/\rH us=true/\C9 dp off us.length=true then some ⟨[(3*g+2,.live ⟨n,some (.aX e i ex off,dp)⟩)],[]⟩ else none
    | _,_=>none
   else none
  | _=>none
 | _,_=>none
def KS(tb:TB)(Γ:List VT)(gs:Gd)(dst:Option Nat)(ti:TI)(gd:Gd)(g gv n:Nat)(i:E)(off:Nat)(l:E)(x:Option ST):Option aU:=none
def KT(tb:TB)(Γ:List VT)(gs:Gd)(dst:Option Nat)(σ:Nat->ST)(ti:TI)(gd:Gd)(g gv n:Nat)(i:E)(off:Nat)(j:E)(m o2:Nat):Option aU:=none
def KU(tb:TB)(Γ:List VT)(σ:Nat->ST)(ti:TI)(g gv n:Nat)(i:E)(off:Nat)(j:E)(m o2:Nat)(x:Option ST):Option aU:=none
def KV(tb:TB)(gs:Gd)(dst:Option Nat)(ti:TI)(g0:Gd)(g n:Nat)(i:E)(off f:Nat):Option aU:=none
def FR(tb:TB)(Γ:List VT)(gs:Gd)(dst:Option Nat)(ti:TI)(g0:Gd)(g:Nat)(l:E)(i:Option ST):Option aU :=
 match ti.vt,eA gs i with
 | .one (.c (.sl el)),some (_,ei)=>match tb.get el with
  | some e'=>match e'.vt with
   | .aE _=>none
   | .one _=>if mZ g0 gs=true/\fu .mem (l.inf tb.tab Γ)=true/\(isInt (ei.inf tb.tab Γ)).isSome then some ⟨wv dst (.mp gs g (tb.tab el).length ei 0),[.cond gs (.cw l ei)]⟩ else none
  | none=>none
 | _,_=>none
def FT(tb:TB)(Γ:List VT)(gs:Gd)(dst:Option Nat)(g:Nat)(ti:TI)(l c:Option ST):Option aU :=
 match gs,ti.vt,eA [] l,eA [] c with
 | [],.one (.c (.sl el)),some (_,en),some (_,ec)=>match tb.get el with
  | some ei=>match ei.vt with
   | .aE _=>none
   | .one _=>if en=ec/\isInt (en.inf tb.tab Γ)=some .i64/\ei.bytes<=1024/\0<ei.cells.length/\(rH (tb.tab el)=true\/(xz tb (tb.tab el)).isSome=true) then
     some ⟨wv dst (.v [] (.own g) (.mem en))++[(3*g+2,.live ⟨(tb.tab el).length,some (.rep el (tb.tab el) en,if rH (tb.tab el)=true then none else (xz tb (tb.tab el)).map fun ms=>(g+1,ms))⟩)],[.cond [] (.an (.ic .leq (.li .i64 0) en) (.ic .leq en (.li .i64 4294967296)))]⟩
    else none
  | none=>none
 | _,_,_,_=>none
def KR(tb:TB)(Γ:List VT)(dst:Option Nat)(σ:Nat->ST)(g:Nat)(ti:TI)(h:Nat)(ex:E)(lo:Option ST):Option aU:=none
def xJ(tb:TB)(Γ:List VT)(gs:Gd)(dst:Option Nat)(σ:Nat->ST)(g:Nat)(ti:TI)(x:Option ST)(lo hi:Option (Option ST)):Option aU :=
 match gs,x,lo,hi with
 | [],some (.v [] (.own h) ex),some l,none=>match KR tb Γ dst σ g ti h ex l with
  | some e=>some e
  | none=>CY tb Γ gs dst ti x lo hi
 | _,_,_,_=>CY tb Γ gs dst ti x lo hi
def KP(tb:TB)(Γ:List VT)(dst:Option Nat)(σ:Nat->ST)(g:Nat)(ti ui:TI)(x:Option ST)(h gv n:Nat)(i:E)(off:Nat)(l:E):Option aU:=none
def xC(tb:TB)(Γ:List VT)(gs:Gd)(dst:Option Nat)(σ:Nat->ST)(g:Nat)(ti ui:TI)(x y:Option ST):Option aU :=
 match gs,y with
 | [],some (.iv [] h gv n i off l)=>KP tb Γ dst σ g ti ui x h gv n i off l
 | _,_=>xD tb Γ gs dst σ g ti ui x y
def xH(tb:TB)(Γ:List VT)(gs:Gd)(dst:Option Nat)(σ:Nat->ST)(ti:TI)(a:Operand):Option aU :=
 match a with
 | .global g=>FP tb Γ gs dst ti g
 | a=>match aT tb σ 0 a with
  | some (.gp g0 g x ei)=>match ti.vt,x.inf tb.tab Γ with
   | .one (.c t),some (.one (.agg ts))=>if mZ g0 gs=true/\ts.all (fun u=>decide (u=t))=true then some ⟨wv dst (.v gs .d (.zf t x ei)),[]⟩ else none
   | _,_=>none
  | some (.mp g0 g n i off)=>KW tb Γ gs dst σ ti g0 g n i off
  | some (.ip gd g gv n i off j m o2)=>KT tb Γ gs dst σ ti gd g gv n i off j m o2
  | s=>xI tb.tab Γ gs dst σ ti s
def xK(tb:TB)(Γ:List VT)(gs:Gd)(dst:Option Nat)(σ:Nat->ST)(g0:Nat)(ti:TI)(s x:Option ST):Option aU :=
 match gs,dst,s with
 | [],none,some (.mp [] g n i off)=>CU tb Γ σ g0 ti g n i off x
 | [],none,some (.ip [] g gv n i off j m o2)=>KU tb Γ σ ti g gv n i off j m o2 x
 | _,_,_=>th tb.tab Γ gs dst σ ti s x
def FN(tb:TB)(Γ:List VT)(gs:Gd)(dst:Option Nat)(ti:TI)(s:Option ST)(f:Nat):Option aU :=
 match s with
 | some (.mp g0 g n i off)=>KV tb gs dst ti g0 g n i off f
 | _=>FM tb Γ gs dst ti s f
def xG(tb:TB)(Γ:List VT)(gs:Gd)(dst:Option Nat)(σ:Nat->ST)(ti:TI)(T:Nat)(x i:Operand):Option aU :=
 match x with
 | .global g=>FO tb Γ gs dst ti g (aT tb σ 0 i)
 | x=>match aT tb σ T x with
  | some (.v g0 (.own g) l)=>bif fu .mem (l.inf tb.tab Γ) then FR tb Γ gs dst ti g0 g l (aT tb σ 0 i) else CS tb Γ gs dst ti (aT tb σ T x) (aT tb σ 0 i)
  | some (.iv gd g gv n k off l)=>KS tb Γ gs dst ti gd g gv n k off l (aT tb σ 0 i)
  | s=>CS tb Γ gs dst ti s (aT tb σ 0 i)
def FZ(tb:TB)(Γ:List VT)(gs:Gd)(dst:Option Nat)(ti:TI)(x i:Option ST):Option aU :=
 match zI tb ti with
 | some (n,t)=>match eA gs x,eA gs i with
  | some (_,ex),some (_,ei)=>if ex.inf tb.tab Γ=some (.one (.agg (List.replicate n t)))/\(isInt (ei.inf tb.tab Γ)).isSome=true then some ⟨wv dst (.v gs .d (.zf t ex ei)),[.cond gs (.an (.ic .leq (.li .i64 0) ei) (.ic .lss ei (.li .i64 n)))]⟩ else none
  | _,_=>none
 | none=>FH tb.tab Γ gs dst ti x i
def KQ(tb:TB)(Γ:List VT)(gs:Gd)(dst:Option Nat)(σ:Nat->ST)(ti:TI)(x:Option ST)(args:List Operand)(dh:List Nat):Option aU:=none
def CV(tab:Nat->List CT)(Γ:List VT)(gs:Gd)(dst:Option Nat)(σ:Nat->ST)(f:Nat)(first gb:List Operand):Option aU:=none
def xB(nt:Nat):Option Nat->Bool
 | some d=>Nat.blt d nt
 | none=>true
def oZ(cx:Cx)(ops:Array Oper)(Γ:List VT)(g:Nat)(o:Oper)(σ:Nat->ST):Option aU :=
 match pY cx.tb.tab Γ ops σ o with
 | none=>none
 | some gs =>
  bif xB cx.nt o.dst then
   match o.op with
   | .move x| .assign x=>FU gs o.dst (aT cx.tb σ o.type x)
   | .load T a=>match cx.tb.get T with|some ti=>xH cx.tb Γ gs o.dst σ ti a|none=>none
   | .store T a x=>match cx.tb.get T with|some ti=>xK cx.tb Γ gs o.dst σ g ti (aT cx.tb σ 0 a) (aT cx.tb σ T x)|none=>none
   | .fieldAddr T a f=>match cx.tb.get T with|some ti=>FN cx.tb Γ gs o.dst ti (aT cx.tb σ 0 a) f|none=>none
   | .indexAddr T x i=>match cx.tb.get T with|some ti=>xG cx.tb Γ gs o.dst σ ti T x i|none=>none
   | .index T x i=>match cx.tb.get T with|some ti=>FZ cx.tb Γ gs o.dst ti (aT cx.tb σ T x) (aT cx.tb σ 0 i)|none=>none
   | .box T x=>FJ cx.tb.tab Γ gs o.dst g (aT cx.tb σ T x)
   | .alloc T=>match cx.tb.get T with|some ti=>FG gs o.dst g ti|none=>none
   | .build T parts=>match cx.tb.get T with|some ti=>CP cx.tb Γ gs o.dst σ ti parts.toList|none=>none
   | .makeSlice T l c=>match cx.tb.get T with|some ti=>FT cx.tb Γ gs o.dst g ti (aT cx.tb σ 0 l) (aT cx.tb σ 0 c)|none=>none
   | .buildSlice T len parts=>match cx.tb.get T with|some ti=>bif Nat.blt 0 len&&gs.isEmpty then CQ cx.tb Γ gs o.dst σ g ti len parts.toList else CR cx.tb Γ gs o.dst σ ti len parts.toList|none=>none
   | .slice T x lo hi none=>match cx.tb.get T with|some ti=>xJ cx.tb Γ gs o.dst σ g ti (aT cx.tb σ T x) (lo.map (aT cx.tb σ 0)) (hi.map (aT cx.tb σ 0))|none=>none
   | .convert S T x=>match cx.tb.get S,cx.tb.get T with|some si,some ti=>FK cx.tb.tab Γ gs o.dst (I8 cx.tb si) si ti (aT cx.tb σ S x)|_,_=>none
   | .extract t i=>FL cx.tb.tab Γ gs o.dst (aT cx.tb σ 0 t) i
   | .unOp .not _ x=>FX cx.tb.tab Γ gs o.dst (aT cx.tb σ 0 x)
   | .unOp .neg _ x=>FV cx.tb.tab Γ gs o.dst (aT cx.tb σ 0 x)
   | .pick c a b=>FY cx.tb.tab Γ gs o.dst (aT cx.tb σ 0 c) (aT cx.tb σ o.type a) (aT cx.tb σ o.type b)
   | .makeFunc (.func f) first gb=>CV cx.tb.tab Γ gs o.dst σ f first.toList gb.toList
   | .nilCheck x=>FW gs o.dst (aT cx.tb σ 0 x)
   | .binOp op T x y _=>FI cx.tb.tab Γ gs o.dst op (cx.tb.get T) (aT cx.tb σ T x) (aT cx.tb σ T y)
   | .call c=>match c.callee with
    | .value (.func f)=>match cx.tb.get o.type with
     | some ti=>match NF ti with
      | some nb=>eNew cx.tb Γ gs o.dst σ g nb f c.args.toList c.argTypes.toList
      | none=>xE cx.tb Γ gs o.dst σ g (cx.rb.get f) ti f c.args.toList c.argTypes.toList
     | none=>none
    | .value (.tmp t)=>match cx.tb.get o.type with
     | some ti=>KQ cx.tb Γ gs o.dst σ ti (aT cx.tb σ 0 (.tmp t)) c.args.toList c.argTypes.toList
     | none=>none
    | .builtin .len=>match c.args.toList,c.argTypes.toList with
     | [x],[T]=>match cx.tb.get T with|some ti=>FQ cx.tb.tab Γ gs o.dst ti (aT cx.tb σ T x)|none=>none
     | _,_=>none
    | .builtin .append=>match c.args.toList,c.argTypes.toList with
     | [x,y],[T,U]=>match cx.tb.get T,cx.tb.get U with|some ti,some ui=>xC cx.tb Γ gs o.dst σ g ti ui (aT cx.tb σ T x) (aT cx.tb σ U y)|_,_=>none
     | _,_=>none
    | _=>none
   | _=>none
  else none
def tmpsOf(ops:Array Oper)(o:Oper):List Nat :=
 (o.op.operands.toList.filterMap fun| .tmp t=>some t|_=>none)++(match o.guard with|none=>[]|some (j,_)=>((ops[j]?).bind (·.dst)).toList)
def kE(σ:Nat->ST):List Nat->List Nat
 | []=>[]
 | t::r=>match σ (3*t) with
  | .ptr _ id _=>(3*id+1)::kE σ r
  | .v _ (.own g) _=>(3*g+2)::kE σ r
  | .mp _ g _ _ _=>(3*g+2)::kE σ r
  | .ip _ g _ _ _ _ _ _ _=>(3*g+2)::kE σ r
  | .iv _ g _ _ _ _ _=>(3*g+2)::kE σ r
  | _=>kE σ r
def looks:Op->Bool
 | .load _ _| .store _ _ _| .call _| .slice .. | .makeFunc .. =>true
 | _=>false
def readsOf(ops:Array Oper)(σ:Nat->ST)(o:Oper):List Nat:=(tmpsOf ops o).map (3* ·)++bif looks o.op then kE σ (tmpsOf ops o) else []
structure SS where
 Γ:List VT
 nt:Nat
 lv:Nat
 σ:Sg
def ia:List Rq->List VT
 | []=>[]
 | .cond _ _::r=>ia r
 | .call _ _ _ _ vt nb::r=>vt::nb.map (fun t=> .one (.c t))++ia r
 | .gW _ _ _ vt nb _::r=>vt::nb.map (fun t=> .one (.c t))++ia r
 | .new _ _ nb::r=>nb.map (fun t=> .one (.c t))++ia r
 | .cm _ _ _ vt::r=>vt::ia r
 | .nV _ vt _::r=>vt::ia r
def SS.step(ss:SS)(e:aU):SS:={ss with Γ:=ss.Γ++ia e.rq,nt:=ss.nt+j8,σ:=e.wr.reverse++ss.σ}
def jw(cx:Cx)(ops:Array Oper):List Oper->SS->Option (List aU×SS)
 | [],ss=>some ([],ss)
 | o::r,ss=>match oZ cx ops ss.Γ ss.nt o ss.σ.get with
  | none=>none
  | some e=>match jw cx ops r (ss.step e) with
   | none=>none
   | some (es,s)=>some (e::es,s)
inductive VC where
 | fail (why:Nat)
 | ret (e:E) (bs:List E)
 | rq (r:Rq) (k:VC)
 | ite (c:E) (a b:VC)
 | loop (dh:List VT) (inits:List E) (body:VC)
 | again (d:Nat) (es:List E)
def ue:List aU->VC->VC
 | [],k=>k
 | e::r,k=>e.rq.foldr .rq (ue r k)
end
end Go.Proofs.YtimickglpboilaaGreatDoor
