/- Contract: a call of a part (CallPart), walked by hand over the box that it is done in. -/
import Derived.Test.YtimickglpboilaaGreatDoorF14
import Derived.Test.YtimickglpboilaaGreatDoorF0
import Derived.Test.YtimickglpboilaaGreatDoorF10
import Derived.Test.YtimickglpboilaaGreatDoorF11
import Derived.Test.YtimickglpboilaaGreatDoorF13
import Derived.Test.YtimickglpboilaaGreatDoorF12
set_option linter.unusedVariables false
set_option linter.unusedSimpArgs false
set_option linter.unusedSectionVars false
set_option maxRecDepth 100000
namespace Go.Proofs.YtimickglpboilaaGreatDoor
section
open Go.RowKit Go
variable [GC]
theorem PB.give{K:Nat->Prop}{w:World}{g B:Nat}{S1 S2:Value}{p:Part}{M:Addr->Prop}(h1:cB K w g S1 (dc p.core.cells))(h2:cB K w g S2 (fX p.af))(ha: ∀b,bM S1 b-> ¬bM S2 b)(hks:p.core.kind.size<=maxLen)(hct:IntKind.i64.min<=p.core.count/\p.core.count<=IntKind.i64.max)
  (hK: ∀b,K b->B<=b) (hM: ∀q,M q->q.block<B) {r:D} {rv:Value} (hr:R w (fun _=>True) r rv) {v:Value} (hv:v= .tuple #[.agg #[.string p.core.kind,.bool p.core.on,.bool p.core.broken,S1,.int .i64 p.core.count,S2],rv]) :
  R w (fun q=>M q\/iM v [(3,2),(5,2)] q) (.aE [enc p,r]) v/\uF B w v [(3,2),(5,2)]:=by
 subst hv
 have e3:lE (.tuple #[.agg #[.string p.core.kind,.bool p.core.on,.bool p.core.broken,S1,.int .i64 p.core.count,S2],rv]) (3,2)=S1:=rfl
 have e5:lE (.tuple #[.agg #[.string p.core.kind,.bool p.core.on,.bool p.core.broken,S1,.int .i64 p.core.count,S2],rv]) (5,2)=S2:=rfl
 have live: ∀(S:Value) (l:List (ByteArray×Int)),cB K w g S l->r9 B w S 2:=by
  rintro S l ⟨a,cap,rfl,q1,q2,q3,q4,q5⟩ b o s len cap' e hc
  simp only [Value.slice.injEq] at e
  obtain ⟨rfl,rfl,rfl⟩:=e
  obtain ⟨z1,z2,z3,cells,T,z4,z5,_⟩:=q5 b o s rfl hc
  exact ⟨z1,hK _ z2,cells,T,z4,z5⟩
 have apart:Cc S1 S2:=fun b o s len cap b' o' s' len' cap' u1 c1 u2 c2 e=>by
  subst e
  exact ha b ⟨o,s,len,cap,u1,c1⟩ ⟨o',s',len',cap',u2,c2⟩
 have rd: ∀(S:Value) (l:List (ByteArray×Int)),cB K w g S l->(S=S1\/S=S2)->R w (fun q=>M q\/iM (.tuple #[.agg #[.string p.core.kind,.bool p.core.on,.bool p.core.broken,S1,.int .i64 p.core.count,S2],rv]) [(3,2),(5,2)] q) (.sl (l.map j7)) S:=by
  intro S l hR hS
  refine hR.rd fun b o cap i e hk hi hq=> ?_
  have eS:bM S b:=by
   obtain ⟨a',cap',e',z1,_⟩:=hR
   rw [e] at e'
   simp only [Value.slice.injEq] at e'
   exact ⟨o,none,_,cap,e,by have:=e'.2.2;omega⟩
  rcases hq with hq|⟨y,hy,b',o',s',len',cap',u1,u2,u3,u4⟩
  ·have:=hM _ hq;have:=hK _ hk;simp only at *;omega
  ·have hy:y=(3,2)\/y=(5,2):=by simpa using hy
   simp only at u2 u3 u4
   have hc':0<cap':=by
    rcases hy with rfl|rfl<;>(simp only at u3 u4;omega)
   have same:lE (.tuple #[.agg #[.string p.core.kind,.bool p.core.on,.bool p.core.broken,S1,.int .i64 p.core.count,S2],rv]) y=S->False:=fun es=>by
    rw [es,e] at u1
    simp only [Value.slice.injEq,Option.some.injEq,Addr.mk.injEq] at u1
    obtain ⟨⟨_,ho,_⟩,hl,_⟩:=u1
    rcases hy with rfl|rfl<;>(simp only at u3 u4;omega)
   have hb2:bM (lE (.tuple #[.agg #[.string p.core.kind,.bool p.core.on,.bool p.core.broken,S1,.int .i64 p.core.count,S2],rv]) y) b:=⟨o',s',len',cap',by rw [u1,u2],hc'⟩
   rcases hy with rfl|rfl
   ·rcases hS with rfl|rfl
    ·exact same e3
    ·rw [e3] at hb2;exact ha b hb2 eS
   ·rcases hS with rfl|rfl
    ·rw [e5] at hb2;exact ha b eS hb2
    ·exact same e5
 refine ⟨⟨_,rfl,?_⟩,fun x hx=> ?_,fun i j x y hi hj hne=> ?_⟩
 ·have c1:=rd S1 _ h1 (.inl rfl)
  have c2:=rd S2 _ h2 (.inr rfl)
  rw [vZ] at c1
  rw [BA] at c2
  exact ⟨_,_,rfl,⟨_,rfl,⟨_,_,rfl,⟨rfl,hks⟩,_,_,rfl,rfl,_,_,rfl,rfl,_,_,rfl,c1,_,_,rfl,⟨rfl,hct⟩,_,_,rfl,c2,rfl⟩⟩,_,_,rfl,R.less hr (fun _ _=>trivial),rfl⟩
 ·have hx:x=(3,2)\/x=(5,2):=by simpa using hx
  rcases hx with rfl|rfl
  ·rw [e3];exact live _ _ h1
  ·rw [e5];exact live _ _ h2
 ·match i,j,hi,hj,hne with
  | 0,0,_,_,h=>exact absurd rfl h
  | 1,1,_,_,h=>exact absurd rfl h
  | 0,1,hi,hj,_=>cases hi;cases hj;rw [e3,e5];exact apart
  | 1,0,hi,hj,_ =>
   cases hi;cases hj;rw [e3,e5]
   exact fun b o s len cap b' o' s' len' cap' u1 c1 u2 c2 e=>apart b' o' s' len' cap' b o s len cap u2 c2 u1 c1 e.symm
  | 0,n+2,_,hj,_=>simp at hj
  | 1,n+2,_,hj,_=>simp at hj
  | n+2,_,hi,_,_=>simp at hi
theorem ub{w:World}{M:Addr->Prop}{r:dW}(h1:IntKind.i64.min<=r.code/\r.code<=IntKind.i64.max)(h2:IntKind.i64.min<=r.val/\r.val<=IntKind.i64.max)(h3:r.text.size<=maxLen)(h4:IntKind.i64.min<=r.want/\r.want<=IntKind.i64.max)(h5:IntKind.i64.min<=r.had/\r.had<=IntKind.i64.max):R w M (enc r) (rO r) :=
 ⟨_,rfl,⟨_,_,rfl,⟨rfl,h1⟩,_,_,rfl,⟨rfl,h2⟩,_,_,rfl,⟨rfl,h3⟩,_,_,rfl,⟨rfl,h4⟩,_,_,rfl,⟨rfl,h5⟩,rfl⟩⟩
theorem abQ{P:Program}{fn:Func}{p u:Tmp}{ty jQ:TypeId}(h:fn.results= #[.cell p ty,.cell u jQ])(tmps:Array Value)(w:World){g g2:Nat}{t t2:TypeId}{cs jD:Array Value}(d d2:TypeDesc)
  (hp:tmps.getD p undef= .pointer (some ⟨g,0,none⟩)) (hg:ai w g t cs) (hu:P.underlying ty=some d) (hd:(match d with| .struct _| .array _ _=>true|_=>false)=true) (hi:(P.info? ty).map (·.size)=some cs.size)
  (oq:tmps.getD u undef= .pointer (some ⟨g2,0,none⟩)) (rn:ai w g2 t2 jD) (jX:P.underlying jQ=some d2) (jn:(match d2 with| .struct _| .array _ _=>true|_=>false)=true) (hi2:(P.info? jQ).map (·.size)=some jD.size) :
  (results fn tmps).run P w= .ok (.tuple #[.agg cs,.agg jD]) w:=by
 have hp':tmps[p]?.getD undef= .pointer (some ⟨g,0,none⟩):=by simpa using hp
 have GR:tmps[u]?.getD undef= .pointer (some ⟨g2,0,none⟩):=by simpa using oq
 simp [results,h,hp',GR,asAddr,run_loadVar_row w g t ty cs (0,0) d hg hu hd hi,run_loadVar_row w g2 t2 jQ jD (0,0) d2 rn jX jn hi2,Sem.run_bind,Result.andThen]
theorem qk{w:World}{M:Addr->Prop}{p:Part}{v:Value}(h:R w M (enc p) v): ∃S1 S2,v= .agg #[.string p.core.kind,.bool p.core.on,.bool p.core.broken,S1,.int .i64 p.core.count,S2]/\R w M (bg p.core.cells) S1/\R w M (bg p.af) S2/\p.core.kind.size<=maxLen/\(IntKind.i64.min<=p.core.count/\p.core.count<=IntKind.i64.max):=by
 obtain ⟨cs,rfl,v0,r0,e0,⟨rfl,h0⟩,v1,r1,rfl,rfl,v2,r2,rfl,rfl,v3,r3,rfl,h3,v4,r4,rfl,⟨rfl,h4⟩,v5,r5,rfl,h5,rfl⟩:=h
 have:cs= #[.string p.core.kind,.bool p.core.on,.bool p.core.broken,v3,.int .i64 p.core.count,v5]:=by rw [<-Array.toList_inj,e0]
 exact ⟨v3,v5,by rw [this],h3,h5,h0,h4⟩
theorem Cy{w:World}{M:Addr->Prop}{x:Call}{v:Value}(h:R w M (enc x) v):v=cm x/\x.method.size<=maxLen/\x.key.size<=maxLen/\(IntKind.i64.min<=x.val/\x.val<=IntKind.i64.max):=by
 obtain ⟨cs,rfl,v0,r0,e0,⟨rfl,h0⟩,v1,r1,rfl,⟨rfl,h1⟩,v2,r2,rfl,⟨rfl,h2⟩,v3,r3,rfl,⟨rfl,h3⟩,rfl⟩:=h
 have:cs= #[.string x.method,.string x.key,.int .i64 x.val,.string x.text]:=by rw [<-Array.toList_inj,e0]
 exact ⟨by rw [this];rfl,h0,h1,h2⟩
def aH:Array Value:= #[.string ⟨#[]⟩,.bool false,.bool false,.slice none 0 0,.int .i64 0,.slice none 0 0]
def aF(p:Part)(S1 S2:Value):Array Value:= #[.string p.core.kind,.bool p.core.on,.bool p.core.broken,S1,.int .i64 p.core.count,S2]
def IP(r:dW):Prop:=(0<=r.code/\r.code<=7)/\r.text.size<=100/\r.want=0/\r.had=0
theorem Ef{c v:Int}(h:0<=c/\c<=7):IP (rep c v 0 0):=⟨h,by show (⟨#[]⟩:ByteArray).size<=100;decide,rfl,rfl⟩
theorem WB(p:Core)(x:Call):IP (bL p x).2:=by
 unfold bL keepD
 (repeat' split)<;>first
  | exact Ef (by decide)
  | exact ⟨show (0:Int)<=0/\(0:Int)<=7 by decide,by have:=W8 p.cells;simp only;omega,rfl,rfl⟩
theorem I0: ∀(k:Nat) (p:Part) (x:Call),IP (aA k p x).2
 | 0,p,x=>WB p.core x
 | k+1,p,x=>by
  have ih:=I0 k
  rw [aA]
  split
  ·exact Ef (by decide)
  split
  ·exact ih _ _
  split
  ·split
   ·exact ih _ _
   ·exact ih _ _
  split
  ·exact Ef (by decide)
  split
  ·split
   ·exact ih _ _
   split
   ·exact ih _ _
   ·exact Ef (by decide)
  split
  ·exact ih _ _
  split
  ·have:=ih p x
   unfold wO
   simp only
   split
   ·exact this
   ·exact this
  ·exact ih _ _
theorem NX.oK{n:Nat}{P:Program}{E:List (Nat×Value)}{w:World}{fn:Func}{R:Ending->World->Prop}{p u:Tmp}{ty jQ:TypeId}{g g2:Nat}{t t2:TypeId}{cs jD:Array Value}{d d2:TypeDesc}(h:fn.results= #[.cell p ty,.cell u jQ])(hp:lk E p=some (.pointer (some ⟨g,0,none⟩)))(oq:lk E u=some (.pointer (some ⟨g2,0,none⟩)))
  (hg:ai w g t cs) (rn:ai w g2 t2 jD) (hu:P.underlying ty=some d) (jX:P.underlying jQ=some d2) (hd:(match d with| .struct _| .array _ _=>true|_=>false)=true) (jn:(match d2 with| .struct _| .array _ _=>true|_=>false)=true)
  (hi:(P.info? ty).map (·.size)=some cs.size) (hi2:(P.info? jQ).map (·.size)=some jD.size) (hR:R (.returned (.tuple #[.agg cs,.agg jD])) w):NX n (bodyPost P fn R .ret) E w :=
 fun a hE=>⟨hE.df,_,abQ h a.tmps w d d2 (hE.at' p _ hp) hg hu hd hi (hE.at' u _ oq) rn jX jn hi2,hR⟩
theorem vW(p:Part){a1 a2:Option Addr}{n1 c1 n2 c2:Nat}: ∀u∈(aF p (.slice a1 n1 c1) (.slice a2 n2 c2)).toList,u.oneCell'=true:=by
 intro u hu
 simp [aF] at hu
 rcases hu with rfl|rfl|rfl|rfl|rfl|rfl<;>rfl
theorem LK(p:Part):fF p<64:=qK p _
theorem dH:(Tryz.prog.info? 37).bind (·.zero)=some (.agg aH):=by kernel_rfl
theorem aY:(Tryz.prog.info? 37).map (·.size)=some 6:=by kernel_rfl
theorem J0(a b c:Int):uO Tryz.prog 39 [(0,.int .i64 a),(3,.int .i64 b),(4,.int .i64 c)]=some (cK (rep a 0 b c)):=by kernel_rfl
theorem VM:iy Tryz.prog 35=true:=by kernel_rfl
theorem VQ:iy Tryz.prog 36=true:=by kernel_rfl
theorem VP:iy Tryz.prog 37=true:=by kernel_rfl
theorem VO:iy Tryz.prog 38=true:=by kernel_rfl
theorem VS:iy Tryz.prog 39=true:=by kernel_rfl
theorem VR:iy Tryz.prog 40=true:=by kernel_rfl
theorem PB.made{wa v5 w6:World}{M:Addr->Prop}{p:Part}{S1 S2:Value}(hG:jU wa M)(hb:Below wa.heap.size wa v5)(hr1:R v5 (fun _=>False) (bg p.core.cells) S1)(hr2:R v5 (fun _=>False) (bg p.af) S2)(hl1:r9 wa.heap.size v5 S1 2)(fG:r9 wa.heap.size v5 S2 2)(hap:Cc S1 S2)
  (hks:p.core.kind.size<=maxLen) (hct:IntKind.i64.min<=p.core.count/\p.core.count<=IntKind.i64.max) (hR:ai w6 v5.heap.size 37 (aF p S1 S2)) (hB:Below v5.heap.size v5 w6) (hz:v5.heap.size<w6.heap.size) :
  PB (fun b=>wa.heap.size<=b/\b<w6.heap.size) w6 v5.heap.size S2 p/\cB (fun b=>wa.heap.size<=b/\b<w6.heap.size) w6 v5.heap.size S1 (dc p.core.cells)/\(∀b,bM S1 b-> ¬bM S2 b):=by
 have Yy:R v5 (fun _=>False) (.sl ((dc p.core.cells).map j7)) S1:=by rw [vZ];exact hr1
 have Yz:R v5 (fun _=>False) (.sl ((fX p.af).map j7)) S2:=by rw [BA];exact hr2
 have q1:=cB.of (K:=fun b=>wa.heap.size<=b/\b<v5.heap.size) (g:=v5.heap.size) Yy hl1 (fun b h1 h2=>⟨h1,h2⟩) (fun b h1 h2=>by omega)
 have q2:=cB.of (K:=fun b=>wa.heap.size<=b/\b<v5.heap.size) (g:=v5.heap.size) Yz fG (fun b h1 h2=>⟨h1,h2⟩) (fun b h1 h2=>by omega)
 have k1:cB (fun b=>wa.heap.size<=b/\b<w6.heap.size) w6 v5.heap.size S1 (dc p.core.cells):=q1.keep (fun b ho=>hB.block b (q1.out ho).2.2) fun b h=>⟨h.1,by have:=h.2;omega⟩
 have k2:cB (fun b=>wa.heap.size<=b/\b<w6.heap.size) w6 v5.heap.size S2 (fX p.af):=q2.keep (fun b ho=>hB.block b (q2.out ho).2.2) fun b h=>⟨h.1,by have:=h.2;omega⟩
 have ha: ∀b,bM S1 b-> ¬bM S2 b:=fun b ⟨o,s,len,cap,e,hc⟩ ⟨o',s',len',cap',e',hc'⟩=>hap b o s len cap b o' s' len' cap' e hc e' hc' rfl
 have dZ:Below wa.heap.size wa w6:=bt hb hB
 exact ⟨⟨⟨hG.2.1.keep fun k hk=>dZ.block k (Nat.lt_of_lt_of_le hk hG.2.2),Nat.le_trans hG.2.2 dZ.size⟩,fun b h=>⟨Nat.le_trans hG.2.2 h.1,h.2⟩,⟨hb.size,hz⟩,⟨S1,hR,k1,ha⟩,k2,hks,hct⟩,k1,ha⟩
theorem Cv{g0:Nat}{w wi wj wk:World}{M:Addr->Prop}{K:Nat->Prop}{g:Nat}{S1 S2:Value}{p:Part}{r:dW}{b2 b3:Nat}(hM: ∀q,M q->q.block<w.heap.size)(hB:Below w.heap.size w wi)(h1:cB K wi g S1 (dc p.core.cells))(h2:cB K wi g S2 (fX p.af))(ha: ∀b,bM S1 b-> ¬bM S2 b)
  (hks:p.core.kind.size<=maxLen) (hct:IntKind.i64.min<=p.core.count/\p.core.count<=IntKind.i64.max) (hK: ∀b,K b->w.heap.size<=b) (o2:fD wi wj b2) (o3:fD wj wk b3) (n2: ¬K b2) (n3: ¬K b3) (hb2:w.heap.size<=b2) (hb3:w.heap.size<=b3) (hr:R wk (fun _=>True) (enc r) (rO r)) :
  ∃v,Ending.returned (.tuple #[.agg (aF p S1 S2),.agg (cK r)])= .returned v/\R wk (fun q=>M q\/iM v [(3,2),(5,2)] q) (.aE [enc p,enc r]) v/\Fr w.heap.size (Option.map (fun _=>g0) (none:Option (List D))) w wk/\uF w.heap.size wk v [(3,2),(5,2)] /\
   ((none:Option (List D)).isSome=true-> ∃us T,wk.heap[g0]? =some (.cells us.toArray T (0,0))/\Rs wk (fun q=>M q\/iM v [(3,2),(5,2)] q) [] us):=by
 have keep: ∀{S:Value} {l:List (ByteArray×Int)},cB K wi g S l->cB K wk g S l:=fun {S l} h=>h.keep (fun b ho=>by
  have hk:=(h.out ho).1
  exact (o3.block b (fun e=>n3 (e▸hk))).trans (o2.block b (fun e=>n2 (e▸hk)))) fun _ h=>h
 obtain ⟨q1,q2⟩:=PB.give (B:=w.heap.size) (M:=M) (keep h1) (keep h2) ha hks hct hK hM hr rfl
 have hbk:Below w.heap.size w wk:=⟨o3.os.trans (o2.os.trans hB.os),o3.tape.trans (o2.tape.trans hB.tape),o3.output.trans (o2.output.trans hB.output),by rw [o3.size,o2.size];exact hB.size,fun i hi=>(o3.block i (by omega)).trans ((o2.block i (by omega)).trans (hB.block i hi))⟩
 exact ⟨_,rfl,q1,Fr.oY hbk (Nat.le_refl _),q2,fun h=>by cases h⟩
set_option maxHeartbeats 4000000 in
theorem adk(XH: ∀k,xa k)(p:Part)(x:Call)(hc:p.core.cells.length<=4294967296)(hl:p.af.length<=4294967296)(hx:x.text.size<4294967281):dw Tryz.prog 10 none [enc p,enc x] (.aE [enc (bq p x).1,enc (bq p x).2]) [] [(3,2),(5,2)]:=by
 refine ⟨by kernel_rfl,fun w M g0 vs hM hr _=> ?_⟩
 obtain ⟨vp,q,rfl,hp,vx,q',rfl,yJ,rfl⟩:=hr
 obtain ⟨G8,hxm,hxk,mF⟩:=Cy yJ
 subst G8
 have hfits:mS x:=⟨hxm,hxk,mF,hx⟩
 obtain ⟨S1,S2,G7, -, -,hks,hct⟩:=qk hp
 have HW:=show Below w.heap.size w ((((w.alloc (.cells (aF p S1 S2) 37)).alloc (.cells #[.string x.method,.string x.key,.int .i64 x.val,.string x.text] 43)).alloc (.cells aH 37)).alloc (.cells aC 39)) by go_grown
 have hsz:((((w.alloc (.cells (aF p S1 S2) 37)).alloc (.cells #[.string x.method,.string x.key,.int .i64 x.val,.string x.text] 43)).alloc (.cells aH 37)).alloc (.cells aC 39)).heap.size=w.heap.size+1+1+1+1:=by simp only [World.size_alloc]
 have p0:=show ai ((((w.alloc (.cells (aF p S1 S2) 37)).alloc (.cells #[.string x.method,.string x.key,.int .i64 x.val,.string x.text] 43)).alloc (.cells aH 37)).alloc (.cells aC 39)) w.heap.size 37 (aF p S1 S2) from (((ai.new w _ _).alloc _).alloc _).alloc _
 have p1:=show ai ((((w.alloc (.cells (aF p S1 S2) 37)).alloc (.cells #[.string x.method,.string x.key,.int .i64 x.val,.string x.text] 43)).alloc (.cells aH 37)).alloc (.cells aC 39)) (w.heap.size+1) 43 #[.string x.method,.string x.key,.int .i64 x.val,.string x.text] by
  have:=(ai.new (w.alloc (.cells (aF p S1 S2) 37)) 43 #[.string x.method,.string x.key,.int .i64 x.val,.string x.text]);simp only [World.size_alloc] at this;exact (this.alloc _).alloc _
 have p2:=show ai ((((w.alloc (.cells (aF p S1 S2) 37)).alloc (.cells #[.string x.method,.string x.key,.int .i64 x.val,.string x.text] 43)).alloc (.cells aH 37)).alloc (.cells aC 39)) (w.heap.size+1+1) 37 aH by
  have:=(ai.new ((w.alloc (.cells (aF p S1 S2) 37)).alloc (.cells #[.string x.method,.string x.key,.int .i64 x.val,.string x.text] 43)) 37 aH);simp only [World.size_alloc] at this;exact this.alloc _
 have p3:=show ai ((((w.alloc (.cells (aF p S1 S2) 37)).alloc (.cells #[.string x.method,.string x.key,.int .i64 x.val,.string x.text] 43)).alloc (.cells aH 37)).alloc (.cells aC 39)) (w.heap.size+1+1+1) 39 aC by
  have:=(ai.new (((w.alloc (.cells (aF p S1 S2) 37)).alloc (.cells #[.string x.method,.string x.key,.int .i64 x.val,.string x.text] 43)).alloc (.cells aH 37)) 39 aC);simp only [World.size_alloc] at this;exact this
 have tW:=R.keep (bo.below (M':=M) HW fun _ _ h=>h) _ _ hp
 have hxa:=R.keep (bo.below (M':=M) HW fun _ _ h=>h) _ _ yJ
 have oP:=hM.below HW (M':=M) fun q hq=>Nat.lt_of_lt_of_le (hM.1 q hq) HW.size
 subst G7
 refine pT (E:=[(0,.agg (aF p S1 S2)),(1,cm x)]) Tryz.func10 rfl Tryz.ntmps10 (by simp) (by simp [aF]) ?_
 refine CW.seq (CW.region ?_)
 refine WL.vv rfl rfl (ju rfl rfl) (by decide) ?_
 refine WL.vv rfl rfl (ju rfl rfl) (by decide) ?_
 refine WL.vv rfl rfl (bp rfl dH) (by decide) ?_
 refine WL.vv rfl rfl (bp rfl dr) (by decide) ?_
 refine WL.nil (NX.next ?_)
 show CW _ Tryz.prog _ _ _ ((((w.alloc (.cells (aF p S1 S2) 37)).alloc (.cells #[.string x.method,.string x.key,.int .i64 x.val,.string x.text] 43)).alloc (.cells aH 37)).alloc (.cells aC 39))
 refine CW.sub (E':=[(2,.pointer (some ⟨w.heap.size,0,none⟩)),(3,.pointer (some ⟨w.heap.size+1,0,none⟩)),(4,.pointer (some ⟨w.heap.size+1+1,0,none⟩)),(5,.pointer (some ⟨w.heap.size+1+1+1,0,none⟩))]) ⟨rfl,by simp only [World.size_alloc];rfl,by simp only [World.size_alloc];rfl,by simp only [World.size_alloc];rfl,trivial⟩ ?_
 generalize ((((w.alloc (.cells (aF p S1 S2) 37)).alloc (.cells #[.string x.method,.string x.key,.int .i64 x.val,.string x.text] 43)).alloc (.cells aH 37)).alloc (.cells aC 39))=wa at HW hsz p0 p1 p2 p3 tW hxa oP ⊢
 refine CW.seq (CW.region ?_)
 refine WL.vv rfl rfl (bh rfl rfl Tryz.underlying37 rfl p0 aY) (by decide) ?_
 refine WL.c rfl rfl (bu (args:= #[.agg (aF p S1 S2)]) VM rfl rfl rfl) (by decide) ((Va p hc hl).2 wa M 0 [.agg (aF p S1 S2)] oP ⟨_,[],rfl,tW,rfl⟩ (fun cs h=>by cases h)) ?_
 rintro _ v5 ⟨v,rfl,hv,eI,ef, -⟩
 obtain ⟨T1,T2,rfl,yj,tH, -, -⟩:=qk hv
 refine ⟨_,rfl,?_⟩
 have hb5:=eI.lF
 obtain ⟨⟨a1,n1,c1,e1⟩,⟨a2,m2,c2,e2⟩⟩:(∃a n c,T1= .slice a n c)/\(∃a c m,T2= .slice a c m):=by
  obtain ⟨a,n,c,e,_⟩:=yj
  obtain ⟨a',n',c',e',_⟩:=tH
  exact ⟨⟨a,n,c,e⟩,⟨a',n',c',e'⟩⟩
 have hn2:m2=p.af.length:=by
  obtain ⟨a',n',c',e',h,_⟩:=tH
  rw [e2] at e'
  simp only [Value.slice.injEq] at e'
  rw [e'.2.1,h];simp [bg]
 have hone:=vW p (a1:=a1) (n1:=n1) (c1:=c1) (a2:=a2) (n2:=m2) (c2:=c2)
 rw [<-e1, <-e2] at hone
 subst hn2
 refine WL.vv rfl rfl (bp rfl dH) (by decide) ?_
 refine WL.st rfl rfl rfl rfl (cs:=aF p T1 T2) rfl (show ai (v5.alloc (.cells aH 37)) v5.heap.size 37 aH from ai.new v5 _ _) rfl hone aY fun w6 R6 O6=> ?_
 have xS:Below v5.heap.size v5 w6:=uM O6
 have DQ:v5.heap.size<w6.heap.size:=R6.lt
 have hf: ∀(S:Value) (d:D),R v5 (fun q=>M q\/iM (.agg (aF p T1 T2)) [(3,2),(5,2)] q) d S->R v5 (fun _=>False) d S:=fun S d h=>R.less h fun _ h=>h.elim
 obtain ⟨H6,k1,ha⟩:=PB.made oP hb5 (hf _ _ yj) (hf _ _ tH) (ef.1 (3,2) (by simp)) (ef.1 (5,2) (by simp)) (ef.2 0 1 (3,2) (5,2) rfl rfl (by simp)) hks hct R6 xS DQ
 have dZ:Below wa.heap.size wa w6:=bt hb5 xS
 replace p0:=p0.below dZ p0.lt
 replace p1:=p1.below dZ p1.lt
 replace p2:=p2.below dZ p2.lt
 replace p3:=p3.below dZ p3.lt
 have dY:=R.keep (bo.below (M':=M) dZ fun _ _ h=>h) _ _ tW
 have hxb:=R.keep (bo.below (M':=M) dZ fun _ _ h=>h) _ _ hxa
 have cR:=oP.below dZ (M':=M) fun q hq=>Nat.lt_of_lt_of_le (oP.1 q hq) dZ.size
 have hBw:Below w.heap.size w w6:=bt HW dZ
 refine WL.nil (NX.next ?_)
 generalize v5.heap.size=g at *
 refine CW.sub (E':=[(2,.pointer (some ⟨w.heap.size,0,none⟩)),(3,.pointer (some ⟨w.heap.size+1,0,none⟩)),(4,.pointer (some ⟨w.heap.size+1+1,0,none⟩)),(5,.pointer (some ⟨w.heap.size+1+1+1,0,none⟩)),(6,.pointer (some ⟨g,0,none⟩))]) ⟨rfl,rfl,rfl,rfl,rfl,trivial⟩ ?_
 have hK: ∀b,(wa.heap.size<=b/\b<w6.heap.size)->w.heap.size<=b:=fun b h=>by have:=HW.size;omega
 have n2: ¬(wa.heap.size<=w.heap.size+1+1/\w.heap.size+1+1<w6.heap.size):=by omega
 have n3: ¬(wa.heap.size<=w.heap.size+1+1+1/\w.heap.size+1+1+1<w6.heap.size):=by omega
 clear xS DQ hf yj tH hv ef eI hb5 O6 tW hxa hp yJ
 refine CW.seq (CW.seq (CW.region ?_))
 refine WL.vv rfl rfl (bh rfl rfl Tryz.underlying37 rfl p0 aY) (by decide) ?_
 refine WL.c rfl rfl (bu (args:= #[.agg (aF p S1 S2)]) VQ rfl rfl rfl) (by decide) ((U4 p).calls (M:=M) cR ⟨_,[],rfl,dY,rfl⟩) ?_
 rintro _ w7 ⟨v,rfl,hv,nZ⟩
 obtain ⟨rfl,rD⟩:v= .bool (fj p)/\True:=⟨hv,trivial⟩
 refine ⟨_,rfl,?_⟩
 replace p0:=p0.below nZ p0.lt
 replace p1:=p1.below nZ p1.lt
 replace p2:=p2.below nZ p2.lt
 replace p3:=p3.below nZ p3.lt
 replace R6:=R6.below nZ R6.lt
 replace dY:=R.keep (bo.below (M':=M) nZ fun _ _ h=>h) _ _ dY
 replace hxb:=R.keep (bo.below (M':=M) nZ fun _ _ h=>h) _ _ hxb
 replace cR:=cR.below nZ (M':=M) fun q hq=>Nat.lt_of_lt_of_le (cR.1 q hq) nZ.size
 replace hBw:=bt hBw nZ
 replace k1:=k1.keep (fun b ho=>nZ.block b (k1.out ho).2.2) fun _ h=>h
 replace H6:=H6.below nZ
 clear hv rD
 refine WL.vv rfl rfl (v8 rfl rfl) (by decide) ?_
 refine WL.vv rfl rfl (bf rfl rfl) (by decide) ?_
 cases p9:fj p with
 | false =>
  refine WL.no (b:=true) rfl rfl rfl rfl (by decide) ?_
  refine WL.no (b:=true) rfl rfl rfl rfl (by decide) ?_
  refine WL.no (b:=true) rfl rfl rfl rfl (by decide) ?_
  refine WL.vv rfl rfl (wh rfl rfl rfl) (by decide) ?_
  refine WL.nil (NX.next (CW.yes rfl ?_))
  refine CW.seq (CW.region ?_)
  refine WL.vv rfl rfl (bh rfl rfl Tryz.underlying37 rfl R6 aY) (by decide) ?_
  refine WL.vv rfl rfl (jv (vs:=[(0,.int .i64 7)]) rfl rfl (xu 7)) (by decide) ?_
  refine WL.st rfl rfl rfl rfl rfl p2 rfl hone aY fun wj Rj Oj=> ?_
  refine WL.st rfl rfl rfl rfl rfl (show ai wj (w.heap.size+1+1+1) 39 aC from (Oj.block _ (by omega)).trans p3) rfl (da _) aZ fun wk Rk Ok=> ?_
  refine WL.nil (NX.next (CW.ret ?_))
  have e:bq p x=(p,rep 7 0 0 0):=by unfold bq;rw [if_pos (.inl p9)]
  rw [e]
  exact NX.ret (NX.oK rfl rfl rfl (show ai wk (w.heap.size+1+1) 37 (aF p T1 T2) from (Ok.block _ (by omega)).trans Rj) Rk Tryz.underlying37 Tryz.underlying39 rfl rfl aY aZ (Cv (fun q hq=>hM.1 q hq) hBw k1 H6.ly ha hks hct hK Oj Ok n2 n3 (by omega) (by omega) (ub (r:=rep 7 0 0 0) (show IntKind.i64.min<=(7:Int)/\(7:Int)<=IntKind.i64.max by decide) (show IntKind.i64.min<=(0:Int)/\(0:Int)<=IntKind.i64.max by decide) (show (⟨#[]⟩:ByteArray).size<=maxLen by unfold maxLen;decide) (show IntKind.i64.min<=(0:Int)/\(0:Int)<=IntKind.i64.max by decide) (show IntKind.i64.min<=(0:Int)/\(0:Int)<=IntKind.i64.max by decide))))
 | true =>
  refine WL.vg (b:=false) rfl rfl rfl rfl (bh rfl rfl Tryz.underlying43 rfl p1 kG) (by decide) ?_
  refine WL.cg (b:=false) rfl rfl rfl rfl (bu (args:= #[cm x]) VP rfl rfl rfl) (by decide) ((U0 x).calls (M:=M) cR ⟨_,[],rfl,hxb,rfl⟩) ?_
  rintro _ w8 ⟨v,rfl,hv,og⟩
  obtain ⟨rfl,rD⟩:v= .bool (eH x)/\True:=⟨hv,trivial⟩
  refine ⟨_,rfl,?_⟩
  replace p0:=p0.below og p0.lt
  replace p1:=p1.below og p1.lt
  replace p2:=p2.below og p2.lt
  replace p3:=p3.below og p3.lt
  replace R6:=R6.below og R6.lt
  replace dY:=R.keep (bo.below (M':=M) og fun _ _ h=>h) _ _ dY
  replace hxb:=R.keep (bo.below (M':=M) og fun _ _ h=>h) _ _ hxb
  replace cR:=cR.below og (M':=M) fun q hq=>Nat.lt_of_lt_of_le (cR.1 q hq) og.size
  replace hBw:=bt hBw og
  replace k1:=k1.keep (fun b ho=>og.block b (k1.out ho).2.2) fun _ h=>h
  replace H6:=H6.below og
  clear hv rD
  refine WL.vg (b:=false) rfl rfl rfl rfl (v8 rfl rfl) (by decide) ?_
  refine WL.vv rfl rfl (pg rfl rfl rfl) (by decide) ?_
  cases hcc:eH x with
  | false =>
   refine WL.nil (NX.next (CW.yes rfl ?_))
   refine CW.seq (CW.region ?_)
   refine WL.vv rfl rfl (bh rfl rfl Tryz.underlying37 rfl R6 aY) (by decide) ?_
   refine WL.vv rfl rfl (jv (vs:=[(0,.int .i64 7)]) rfl rfl (xu 7)) (by decide) ?_
   refine WL.st rfl rfl rfl rfl rfl p2 rfl hone aY fun wj Rj Oj=> ?_
   refine WL.st rfl rfl rfl rfl rfl (show ai wj (w.heap.size+1+1+1) 39 aC from (Oj.block _ (by omega)).trans p3) rfl (da _) aZ fun wk Rk Ok=> ?_
   refine WL.nil (NX.next (CW.ret ?_))
   have e:bq p x=(p,rep 7 0 0 0):=by unfold bq;rw [if_pos (.inr hcc)]
   rw [e]
   exact NX.ret (NX.oK rfl rfl rfl (show ai wk (w.heap.size+1+1) 37 (aF p T1 T2) from (Ok.block _ (by omega)).trans Rj) Rk Tryz.underlying37 Tryz.underlying39 rfl rfl aY aZ (Cv (fun q hq=>hM.1 q hq) hBw k1 H6.ly ha hks hct hK Oj Ok n2 n3 (by omega) (by omega) (ub (r:=rep 7 0 0 0) (show IntKind.i64.min<=(7:Int)/\(7:Int)<=IntKind.i64.max by decide) (show IntKind.i64.min<=(0:Int)/\(0:Int)<=IntKind.i64.max by decide) (show (⟨#[]⟩:ByteArray).size<=maxLen by unfold maxLen;decide) (show IntKind.i64.min<=(0:Int)/\(0:Int)<=IntKind.i64.max by decide) (show IntKind.i64.min<=(0:Int)/\(0:Int)<=IntKind.i64.max by decide))))
  | true =>
   refine WL.nil (NX.next (CW.no rfl (CW.skip (NX.next ?_))))
   refine CW.seq (CW.region ?_)
   refine WL.vv rfl rfl (bh rfl rfl Tryz.underlying37 rfl p0 aY) (by decide) ?_
   refine WL.c rfl rfl (bu (args:= #[.agg (aF p S1 S2)]) VO rfl rfl rfl) (by decide) ((UY p).calls (M:=M) cR ⟨_,[],rfl,dY,rfl⟩) ?_
   rintro _ w9 ⟨v,rfl,hv,gO⟩
   obtain ⟨rfl,rD⟩:v= .int .i64 (fF p)/\True:=⟨hv.1,trivial⟩
   refine ⟨_,rfl,?_⟩
   replace p0:=p0.below gO p0.lt
   replace p1:=p1.below gO p1.lt
   replace p2:=p2.below gO p2.lt
   replace p3:=p3.below gO p3.lt
   replace R6:=R6.below gO R6.lt
   replace dY:=R.keep (bo.below (M':=M) gO fun _ _ h=>h) _ _ dY
   replace hxb:=R.keep (bo.below (M':=M) gO fun _ _ h=>h) _ _ hxb
   replace cR:=cR.below gO (M':=M) fun q hq=>Nat.lt_of_lt_of_le (cR.1 q hq) gO.size
   replace hBw:=bt hBw gO
   replace k1:=k1.keep (fun b ho=>gO.block b (k1.out ho).2.2) fun _ h=>h
   replace H6:=H6.below gO
   clear hv rD
   refine WL.vv rfl rfl (cO rfl rfl) (by decide) ?_
   refine WL.nil (NX.next ?_)
   refine CW.seq (CW.seq (CW.region ?_))
   refine WL.vv rfl rfl (cY rfl rfl mz) (by decide) ?_
   refine WL.vv rfl rfl (cz rfl rfl Tryz.underlying9 rfl (p1.cell 0)) (by decide) ?_
   have A9:IntKind.i64.min<=bK x.method/\bK x.method<=IntKind.i64.max:=by
    obtain ⟨j,ew,_⟩:=Bq (xx hcc)
    rw [ew]
    have: ∀j:Fin 6,IntKind.i64.min<=((2^j.val:Nat):Int)/\((2^j.val:Nat):Int)<=IntKind.i64.max:=by decide
    exact this j
   refine WL.c rfl rfl (bu (args:= #[.string x.method]) VS rfl rfl rfl) (by decide) ((U8 x.method).calls (M:=M) cR ⟨_,[],rfl,⟨rfl,hxm⟩,rfl⟩) ?_
   rintro _ Ca ⟨v,rfl,hv,gM⟩
   obtain ⟨rfl,rD⟩:v= .int .i64 (bK x.method)/\True:=⟨hv.1,trivial⟩
   refine ⟨_,rfl,?_⟩
   replace p0:=p0.below gM p0.lt
   replace p1:=p1.below gM p1.lt
   replace p2:=p2.below gM p2.lt
   replace p3:=p3.below gM p3.lt
   replace R6:=R6.below gM R6.lt
   replace dY:=R.keep (bo.below (M':=M) gM fun _ _ h=>h) _ _ dY
   replace hxb:=R.keep (bo.below (M':=M) gM fun _ _ h=>h) _ _ hxb
   replace cR:=cR.below gM (M':=M) fun q hq=>Nat.lt_of_lt_of_le (cR.1 q hq) gM.size
   replace hBw:=bt hBw gM
   replace k1:=k1.keep (fun b ho=>gM.block b (k1.out ho).2.2) fun _ h=>h
   replace H6:=H6.below gM
   clear hv rD
   refine WL.vv rfl rfl (cO rfl rfl) (by decide) ?_
   refine WL.nil (NX.next ?_)
   refine CW.seq (CW.region ?_)
   refine WL.vv rfl rfl (bf rfl rfl) (by decide) ?_
   refine WL.vv rfl rfl (bf rfl rfl) (by decide) ?_
   have hfl:IntKind.i64.min<=((fF p:Nat):Int)/\((fF p:Nat):Int)<=IntKind.i64.max:=by
    have:=LK p
    have e1:IntKind.i64.min= -9223372036854775808/\IntKind.i64.max=9223372036854775807:=by decide
    rw [e1.1,e1.2];omega
   refine WL.c rfl rfl (bu (args:= #[.int .i64 (fF p),.int .i64 (bK x.method)]) VR rfl rfl rfl) (by decide) ((Kf (fF p) (bK x.method)).calls (M:=M) cR ⟨_,_,rfl,⟨rfl,hfl⟩,_,[],rfl,⟨rfl,A9⟩,rfl⟩) ?_
   rintro _ rT ⟨v,rfl,hv,gN⟩
   obtain ⟨rfl,rD⟩:v= .bool (cV (fF p) (bK x.method))/\True:=⟨hv,trivial⟩
   refine ⟨_,rfl,?_⟩
   replace p0:=p0.below gN p0.lt
   replace p1:=p1.below gN p1.lt
   replace p2:=p2.below gN p2.lt
   replace p3:=p3.below gN p3.lt
   replace R6:=R6.below gN R6.lt
   replace dY:=R.keep (bo.below (M':=M) gN fun _ _ h=>h) _ _ dY
   replace hxb:=R.keep (bo.below (M':=M) gN fun _ _ h=>h) _ _ hxb
   replace cR:=cR.below gN (M':=M) fun q hq=>Nat.lt_of_lt_of_le (cR.1 q hq) gN.size
   replace hBw:=bt hBw gN
   replace k1:=k1.keep (fun b ho=>gN.block b (k1.out ho).2.2) fun _ h=>h
   replace H6:=H6.below gN
   clear hv rD
   refine WL.vv rfl rfl (v8 rfl rfl) (by decide) ?_
   cases tV:cV (fF p) (bK x.method) with
   | false =>
    refine WL.nil (NX.next (CW.yes rfl ?_))
    refine CW.seq (CW.region ?_)
    refine WL.vv rfl rfl (bh rfl rfl Tryz.underlying37 rfl R6 aY) (by decide) ?_
    refine WL.vv rfl rfl (bf rfl rfl) (by decide) ?_
    refine WL.vv rfl rfl (bf rfl rfl) (by decide) ?_
    refine WL.vv rfl rfl (jv (vs:=[(0,.int .i64 1),(3,.int .i64 (bK x.method)),(4,.int .i64 (fF p))]) rfl rfl (J0 1 _ _)) (by decide) ?_
    refine WL.st rfl rfl rfl rfl rfl p2 rfl hone aY fun wj Rj Oj=> ?_
    refine WL.st rfl rfl rfl rfl rfl (show ai wj (w.heap.size+1+1+1) 39 aC from (Oj.block _ (by omega)).trans p3) rfl (da _) aZ fun wk Rk Ok=> ?_
    refine WL.nil (NX.next (CW.ret ?_))
    have e:bq p x=(p,rep 1 0 (bK x.method) (fF p)):=by unfold bq;rw [if_neg (by simp [p9,hcc]),if_pos tV]
    rw [e]
    exact NX.ret (NX.oK rfl rfl rfl (show ai wk (w.heap.size+1+1) 37 (aF p T1 T2) from (Ok.block _ (by omega)).trans Rj) Rk Tryz.underlying37 Tryz.underlying39 rfl rfl aY aZ (Cv (fun q hq=>hM.1 q hq) hBw k1 H6.ly ha hks hct hK Oj Ok n2 n3 (by omega) (by omega) (ub (r:=rep 1 0 (bK x.method) (fF p)) (show IntKind.i64.min<=(1:Int)/\(1:Int)<=IntKind.i64.max by decide) (show IntKind.i64.min<=(0:Int)/\(0:Int)<=IntKind.i64.max by decide) (show (⟨#[]⟩:ByteArray).size<=maxLen by unfold maxLen;decide) A9 hfl)))
   | true =>
    refine WL.nil (NX.next (CW.no rfl (CW.skip (NX.next ?_))))
    refine CW.seq (CW.region ?_)
    refine WL.vv rfl rfl (cY rfl rfl oO) (by decide) ?_
    refine WL.vv rfl rfl (cz rfl rfl Tryz.underlying35 rfl (v:= .slice a2 p.af.length c2) (by rw [<-e2];exact R6.cell 5)) (by decide) ?_
    refine WL.vv rfl rfl (Pn rfl rfl rfl rfl Tryz.underlying35 rfl) (by decide) ?_
    refine WL.vv rfl rfl (bh rfl rfl Tryz.underlying43 rfl p1 kG) (by decide) ?_
    refine WL.c rfl rfl (bu (args:= #[.pointer (some ⟨g,0,none⟩),.int .i64 ((p.af.length:Nat):Int),cm x]) xw rfl rfl rfl) (by decide) (XH p.af.length _ _ _ _ p x H6 hfits (Nat.le_refl _)) ?_
    rintro _ v7 ⟨rfl,DE,nB⟩
    refine ⟨_,rfl,?_⟩
    have q2:=p2.bY nB n2
    have q3:=p3.bY nB n3
    have Xy:Below w.heap.size w v7:=⟨nB.os.trans hBw.os,nB.tape.trans hBw.tape,nB.output.trans hBw.output,Nat.le_trans hBw.size nB.size,fun i hi=>(nB.block i (Nat.lt_of_lt_of_le hi hBw.size) (fun hk=>by have:=hK i hk;omega)).trans (hBw.block i hi)⟩
    refine WL.vv rfl rfl (bp rfl dr) (by decide) ?_
    refine WL.st rfl rfl rfl rfl rfl (show ai (v7.alloc (.cells aC 39)) v7.heap.size 39 aC from ai.new v7 _ _) rfl (da _) aZ fun w8 R8 O8=> ?_
    have B8:Below v7.heap.size v7 w8:=uM O8
    have H8:=DE.below B8
    replace q2:=q2.below B8 q2.lt
    replace q3:=q3.below B8 q3.lt
    have Gg:=bt Xy B8
    refine WL.nil (NX.next ?_)
    obtain ⟨U1,hU,Au,XJ⟩:=H8.bx
    have Yu: ∀u∈(aF (aA p.af.length p x).1 U1 T2).toList,u.oneCell'=true:=by
     obtain ⟨a',c',e',_⟩:=Au.ou
     rw [e',e2];exact vW _
    have hgk:=H8.kg
    have hz7:w.heap.size+1+1+1<v7.heap.size:=by have:=p3.lt;have:=nB.size;omega
    have rn:g≠w.heap.size+1+1:=fun e=>n2 (e▸H6.kg)
    refine CW.seq (CW.any (fun W=>ai W g 37 (aF (aA p.af.length p x).1 U1 T2)/\ai W v7.heap.size 39 (cK (aA p.af.length p x).2)) 3 mo fun wd hwd cD=>⟨⟨hU.below cD hU.lt,R8.below cD R8.lt⟩,?_⟩)
    replace H8:=H8.below cD
    replace Au:=Au.keep (fun b ho=>cD.block b (Au.out ho).2.2) fun _ h=>h
    replace q2:=q2.below cD q2.lt
    replace q3:=q3.below cD q3.lt
    replace R8:=R8.below cD R8.lt
    replace hU:=hU.below cD hU.lt
    replace Gg:=bt Gg cD
    refine AU.tk 0 rfl (by kernel_rfl) (fun _ _ _ h=>h) rfl rfl (fun W hW=>bh rfl rfl Tryz.underlying37 rfl hW.1 aY) (by decide) ⟨hU,R8⟩ ?_
    refine AU.tk 1 rfl (by kernel_rfl) (fun _ _ _ h=>h) rfl rfl (fun W hW=>bh rfl rfl Tryz.underlying39 rfl hW.2 aZ) (by decide) ⟨hU,R8⟩ ?_
    refine AU.st 2 rfl (by kernel_rfl) rfl rfl rfl rfl rfl q2 rfl Yu aY (fun w' ho _=>⟨(ho.block _ rn).trans hU,(ho.block _ (by omega)).trans R8⟩) fun wj Rj Oj=> ?_
    refine AU.st 3 rfl (by kernel_rfl) rfl rfl rfl rfl rfl (show ai wj (w.heap.size+1+1+1) 39 aC from (Oj.block _ (by omega)).trans q3) rfl (da _) aZ (fun _ _ h=>absurd rfl h) fun wk Rk Ok=> ?_
    refine AU.done (by kernel_rfl) (NX.next (CW.ret ?_))
    have e:bq p x=aA p.af.length p x:=by unfold bq;rw [if_neg (by simp [p9,hcc]),if_neg (by simp [tV])]
    rw [e]
    obtain ⟨_,_,_,_,v0,v9⟩:=pI p.af.length p x p9 (Nat.le_refl _) hcc tV
    obtain ⟨⟨s0,s7⟩,s1,s2,s3⟩:=I0 p.af.length p x
    have e1:IntKind.i64.min= -9223372036854775808/\IntKind.i64.max=9223372036854775807:=by decide
    exact NX.oK rfl rfl rfl (show ai wk (w.heap.size+1+1) 37 (aF (aA p.af.length p x).1 U1 T2) from (Ok.block _ (by omega)).trans Rj) Rk Tryz.underlying37 Tryz.underlying39 rfl rfl aY aZ (Cv (K:=Gr (fun b=>wa.heap.size<=b/\b<w6.heap.size) rT v7) (fun q hq=>hM.1 q hq) Gg Au H8.ly XJ H8.ks H8.ct (fun b hb=>by rcases hb with hb|hb;exact hK b hb;have:=hBw.size;omega) Oj Ok (fun q=>by rcases q with q|q;exact n2 q;have:=p2.lt;omega) (fun q=>by rcases q with q|q;exact n3 q;have:=p3.lt;omega) (by omega) (by omega) (ub (by rw [e1.1,e1.2];omega) (by rw [e1.1,e1.2];omega) (by unfold maxLen;omega) (by rw [s2];decide) (by rw [s3];decide)))
end
section
open Go.RowKit
variable [GC]
end
section
open Go.RowKit Go
variable [GC]
end
section
open Go.RowKit Go
variable [GC]
def Hj(r:D):Prop:= ∃s:ByteArray,r= .str s
end
section
open Go.RowKit Go
variable [GC]
theorem JZ: ∀{a b c:List UInt8},Op.bytesLess a b=true->Op.bytesLess b c=true->Op.bytesLess a c=true
 | _,[],_,h,_=>by simp [Op.bytesLess] at h
 | _,_::_,[],_,h=>by simp [Op.bytesLess] at h
 | [],_::_,_::_,_,_=>by simp [Op.bytesLess]
 | x::a,y::b,z::c,h1,h2=>by
  have ih:= @JZ a b c
  simp only [Op.bytesLess,Bool.or_eq_true,Bool.and_eq_true,decide_eq_true_eq,beq_iff_eq] at h1 h2 ⊢
  grind
theorem LM{p:Nat->Bool}: ∀{n:Nat},jV p n=none-> ∀i,i<n->p i=false
 | 0,_,i,hi=>by omega
 | n+1,h,i,hi=>by
  simp only [jV] at h
  split at h
  ·cases h
  ·rename_i h1
   split at h
   ·cases h
   ·rename_i h2
    rcases Nat.lt_or_ge i n with h3|h3
    ·exact LM h1 i h3
    ·obtain rfl:i=n:=by omega
     simpa using h2
theorem Oi{a b c:ByteArray}(h1:gx a b=true)(h2:gx b c=true):gx a c=true:=JZ h1 h2
theorem Bo(a:ByteArray):gx a a=false:=by
 cases h:gx a a with
 | false=>rfl
 | true=>have:=ltA h;rw [h] at this;cases this
def Cl(l:List Cell):Prop:= ∀i,i+1<l.length->gx (nth l i).key (nth l (i+1)).key=true
theorem Kv{l:List Cell}(h:fE l=true):Cl l:=fun i hi=>by
 unfold fE at h
 simp only [Bool.and_eq_true] at h
 have:=uJ.1 h.2 (i+1) hi
 unfold iY at this
 simp only [Bool.and_eq_true,Bool.or_eq_true,beq_iff_eq] at this
 rcases this.2 with h|h
 ·omega
 ·exact h
theorem JT{l:List Cell}(h:Cl l){k:ByteArray}: ∀i,bZ l k<i->i<l.length->gx k (nth l i).key=true:=by
 intro i
 induction i with
 | zero=>intro h;omega
 | succ i ih =>
  intro h1 h2
  have hs:=h i h2
  rcases Nat.lt_or_ge (bZ l k) i with h3|h3
  ·exact Oi (ih h3 (by omega)) hs
  ·have e:i=bZ l k:=by omega
   have h4:=Cm (l:=l) (k:=k) (by omega)
   rw [<-e] at h4
   by_cases e2:(nth l i).key=k
   ·rw [<-e2];exact hs
   ·exact Oi (Oh e2 h4) hs
def jj(l:List Cell)(k:ByteArray)(v:Int)(i:Nat):List Cell :=
 if bZ l k<i then (l.take (bZ l k)++[⟨k,v⟩])++(l.take i).drop (bZ l k+if eZ l k=true then 1 else 0) else l.take i
theorem Xm(l:List Cell)(k:ByteArray)(v:Int):jj l k v 0=[]:=by unfold jj;simp
theorem IZ{α:Type}[Inhabited α]{l:List α}{i:Nat}(h:i<l.length):l.take (i+1)=l.take i++[nth l i]:=by
 rw [List.take_add_one];simp [nth,h]
theorem Xl{l:List Cell}{k:ByteArray}{v:Int}{i:Nat}(h:i<bZ l k)(hl:i<l.length):jj l k v (i+1)=jj l k v i++[nth l i]:=by
 unfold jj
 rw [if_neg (show ¬bZ l k<i+1 by omega),if_neg (show ¬bZ l k<i by omega),IZ hl]
theorem Xi{l:List Cell}{k:ByteArray}{v:Int}{i:Nat}(h:i=bZ l k)(hl:i<l.length):jj l k v (i+1)=if (nth l i).key=k then jj l k v i++[⟨k,v⟩] else (jj l k v i++[⟨k,v⟩])++[nth l i]:=by
 unfold jj
 rw [if_pos (show bZ l k<i+1 by omega),if_neg (show ¬bZ l k<i by omega),IZ hl]
 by_cases e:(nth l i).key=k
 ·have hk:eZ l k=true:=nE.2 ⟨by omega,by rw [<-h];exact e⟩
  rw [if_pos e,if_pos hk,List.drop_eq_nil_of_le (by rw [List.length_append,List.length_take,List.length_singleton];omega)]
  rw [List.append_nil,h]
 ·have hk:eZ l k=false:=by
   cases hq:eZ l k with
   | false=>rfl
   | true=>have:=(nE.1 hq).2;rw [<-h] at this;exact absurd this e
  simp only [if_neg e,hk,Bool.false_eq_true,if_false,Nat.add_zero]
  rw [List.drop_append_of_le_length (by rw [List.length_take];omega),List.drop_eq_nil_of_le (by rw [List.length_take];omega),List.nil_append,h]
theorem Xk{l:List Cell}{k:ByteArray}{v:Int}{i:Nat}(h:bZ l k<i)(hl:i<l.length):jj l k v (i+1)=jj l k v i++[nth l i]:=by
 unfold jj
 rw [if_pos (show bZ l k<i+1 by omega),if_pos h,IZ hl,List.drop_append_of_le_length (by rw [List.length_take];split<;>omega)]
 simp only [List.append_assoc]
theorem Xj{l:List Cell}{k:ByteArray}{v:Int}:iH l k v=if bZ l k<l.length then jj l k v l.length else jj l k v l.length++[⟨k,v⟩]:=by
 unfold jj iH
 have hle:=uL l k
 by_cases h:bZ l k<l.length
 ·simp only [if_pos h,List.take_length]
  by_cases hk:eZ l k=true
  ·rw [if_pos hk,if_pos hk,List.set_eq_take_append_cons_drop,if_pos h]
   simp
  ·rw [if_neg hk,if_neg hk,Nat.add_zero]
 ·have e:bZ l k=l.length:=by omega
  have hk:eZ l k=false:=by
   cases hq:eZ l k with
   | false=>rfl
   | true=>have:=(nE.1 hq).1;omega
  simp only [if_neg h,hk,Bool.false_eq_true,if_false,e]
  simp
def vX(l:List Cell)(k:ByteArray):Int:=match jV (fun i=>decide ((nth l i).key=k)) l.length with
 | some i=>(i:Int)
 | none=> -1
theorem abt{l:List Cell}(h:Cl l)(k:ByteArray):vX l k=if eZ l k=true then ((bZ l k:Nat):Int) else -1:=by
 unfold vX
 cases hf:jV (fun i=>decide ((nth l i).key=k)) l.length with
 | none =>
  have hn:=LM hf
  rw [if_neg]
  intro hk
  obtain ⟨h1,h2⟩:=nE.1 hk
  have:=hn _ h1
  simp at this
  exact this h2
 | some i =>
  obtain ⟨h1,h2,h3⟩:=C5 hf
  have h2:(nth l i).key=k:=by simpa using h2
  have e:bZ l k=i:=by
   rcases Nat.lt_trichotomy i (bZ l k) with h4|h4|h4
   ·have:=zJ h4;rw [h2,Bo] at this;cases this
   ·exact h4.symm
   ·have:=JT h i h4 h1;rw [h2,Bo] at this;cases this
  rw [if_pos (nE.2 ⟨by omega,by rw [e];exact h2⟩),e]
end
section
open Go.RowKit Go
variable [GC]
theorem VG(l:List Cell)(k:ByteArray):aG Tryz.prog 107 none [bg l,.str k] (.int .i64 (vX l k)) []:=by
 refine aG.bV aht afM rfl ?_ (fun hfit=> ?_)
 ·exact ⟨nK l,trivial,trivial⟩
 have hl:l.length<=9223372036854775807:=qL hfit.1
 unfold Sr
 refine gJ l.length (fun k=>[.int .i64 k]) (fun i=> ∀j,j<i->decide ((nth l j).key=k)=false) rfl (fun j h=>by omega) ?_
 intro i hi hI _
 simp only [cA]
 refine aL (fun h2=> ?_) (fun h2=> ?_)
 ·simp only [E.den,aa,aj,ak] at h2
  have h2:i<l.length:=by simp at h2;exact h2
  (refine bH (fun hg=> ?_) ?_;(focus (simp only [bE,gE,E.den,aa,aj,ak] at hg ⊢;(try simp only [D.bool.injEq] at hg);(try simp only [D.bool.injEq]);grind)))
  refine aL (fun h3=>aK ?_) (fun h3=> ?_)
  ·simp only [E.den,aa,aj,ak,gC,dR,Int.toNat_natCast] at h3 ⊢
   have h3:(nth l i).key=k:=by simpa using h3
   have e:jV (fun i=>decide ((nth l i).key=k)) l.length=some i:=C6 (by simpa using h3) hI h2
   unfold vX
   rw [e]
  ·simp only [E.den,aa,aj,ak,gC,dR,Int.toNat_natCast] at h3
   have h3:(nth l i).key≠k:=by simpa using h3
   refine fT h2 ?_ fun j hj=> ?_
   ·simp only [E.den,aa,aj,ak];rw [eM (by omega) (by omega)];rfl
   ·rcases Nat.lt_or_ge j i with h|h
    ·exact hI j h
    ·obtain rfl:j=i:=by omega
     simpa using h3
 ·simp only [E.den,aa,aj,ak] at h2
  have h2:i=l.length:=by simp at h2;omega
  subst h2
  refine aK ?_
  simp only [E.den,aa,aj,ak]
  unfold vX
  rw [Ab hI]
theorem VJ(l:List Cell)(k:ByteArray)(v:Int)(hs:Cl l)(h4:l.length<=1048576):dw Tryz.prog 108 none [bg l,.str k,.int .i64 v] (bg (iH l k v)) [] [(0,2)]:=by
 refine dw.bV ahx afU aca rfl ?_ (fun hfit=> ?_)
 ·exact ⟨nK l,trivial,rfl,trivial⟩
 have hle:=uL l k
 unfold Sw
 refine gJ l.length (fun i=>[.bool (decide (bZ l k<i)),bg (jj l k v i),.int .i64 i]) (fun _=>True) (by simp [E.den,Xm,bg]) trivial ?_
 intro i hi _ _
 have hgl:(jj l k v i).length<=i+1:=by
  unfold jj
  split
  ·simp;omega
  ·simp;omega
 simp only [cA]
 refine aL (fun h2=> ?_) (fun h2=> ?_)
 ·simp only [E.den,aa,aj,ak] at h2
  have h2:i<l.length:=by simp at h2;exact h2
  (refine bH (fun hg=> ?_) ?_;(focus (simp only [bE,gE,E.den,aa,aj,ak] at hg ⊢;(try simp only [D.bool.injEq] at hg);(try simp only [D.bool.injEq]);grind)))
  refine aL (fun h3=> ?_) (fun h3=> ?_)
  ·simp only [E.den,aa,aj,ak,gC,dR,Int.toNat_natCast] at h3
   have hge:fQ .geq (nth l i).key k= !gx (nth l i).key k:=by rfl
   simp at h3
   have ea:i=bZ l k:=by
    rcases Nat.lt_or_ge i (bZ l k) with h|h
    ·have:=zJ h;rw [h3.2] at this;cases this
    ·omega
   refine bH (fun _=> ?_) ?_
   ·simp only [E.den,aa,aj,ak];simp;omega
   have hgo:=Xi (v:=v) ea h2
   refine aL (fun h5=> ?_) (fun h5=> ?_)
   ·simp only [E.den,aa,aj,ak,gC,dR,Int.toNat_natCast] at h5
    have h5:(nth l i).key≠k:=by simpa using h5
    rw [if_neg h5] at hgo
    refine bH (fun _=> ?_) ?_
    ·simp only [E.den,aa,aj,ak];simp;omega
    refine fT h2 ?_ trivial
    rw [hgo,decide_eq_true (show bZ l k<i+1 by omega)]
    simp only [E.den,aa,aj,ak,gC,dR,Int.toNat_natCast]
    rw [eM (by omega) (by omega)]
    simp [bg,dR]
   ·simp only [E.den,aa,aj,ak,gC,dR,Int.toNat_natCast] at h5
    have h5:(nth l i).key=k:=by simpa using h5
    rw [if_pos h5] at hgo
    refine fT h2 ?_ trivial
    rw [hgo,decide_eq_true (show bZ l k<i+1 by omega)]
    simp only [E.den,aa,aj,ak,gC,dR,Int.toNat_natCast]
    rw [eM (by omega) (by omega)]
    simp [bg,dR]
  ·simp only [E.den,aa,aj,ak,gC,dR,Int.toNat_natCast] at h3
   have hge:fQ .geq (nth l i).key k= !gx (nth l i).key k:=by rfl
   have hnk:(nth l i).key≠k:=by
    intro e
    rcases Nat.lt_trichotomy i (bZ l k) with h|h|h
    ·have:=zJ h;rw [e,Bo] at this;cases this
    ·rw [e,Bo] at h3;simp at h3;omega
    ·have:=JT hs i h h2;rw [e,Bo] at this;cases this
   have hni:i≠bZ l k:=by
    intro e
    have:=Cm (l:=l) (k:=k) (by omega)
    rw [<-e] at this
    rw [this] at h3;simp at h3;omega
   have hgo:jj l k v (i+1)=jj l k v i++[nth l i]:=by
    rcases Nat.lt_or_ge i (bZ l k) with h|h
    ·exact Xl h h2
    ·exact Xk (by omega) h2
   have jo:decide (bZ l k<i+1)=decide (bZ l k<i):=decide_eq_decide.2 (by omega)
   refine aL (fun h5=> ?_) (fun h5=> ?_)
   ·refine bH (fun _=> ?_) ?_
    ·simp only [E.den,aa,aj,ak];simp;omega
    refine fT h2 ?_ trivial
    rw [hgo,jo]
    simp only [E.den,aa,aj,ak,gC,dR,Int.toNat_natCast]
    rw [eM (by omega) (by omega)]
    simp [bg,dR]
   ·exfalso
    simp only [E.den,aa,aj,ak,gC,dR,Int.toNat_natCast] at h5
    exact hnk (by simpa using h5)
 ·simp only [E.den,aa,aj,ak] at h2
  have h2:i=l.length:=by simp at h2;omega
  subst h2
  have hend:=Xj (l:=l) (k:=k) (v:=v)
  refine aL (fun h3=> ?_) (fun h3=> ?_)
  ·simp only [E.den,aa,aj,ak] at h3
   have h3: ¬bZ l k<l.length:=by simpa using h3
   refine bH (fun _=> ?_) (aK ?_)
   ·simp only [E.den,aa,aj,ak];simp;omega
   ·rw [hend,if_neg h3]
    simp only [E.den,aa,aj,ak]
    simp [bg,dR]
  ·simp only [E.den,aa,aj,ak] at h3
   have h3:bZ l k<l.length:=by simpa using h3
   refine aK ?_
   rw [hend,if_pos h3]
   simp only [E.den,aa,aj,ak]
end
section
open Go.RowKit Go
variable [GC]
def Ey(x:List UInt8):List D:=[.str (bs x)]
def rR(l:List (List UInt8)):D:= .sl (l.map Ey)
@[simp] theorem alU (l:List (List UInt8)):(rR l).mc=l.map Ey:=rfl
@[simp] theorem alT (l:List (List UInt8)):jd (rR l)=l.length:=by simp [rR,jd]
theorem FE(s:ByteArray)(a b:Nat):s.extract a b=bs ((s.data.toList.drop a).take (b-a)):=by
 apply ByteArray.ext
 simp only [bs,ByteArray.data_extract]
 apply Array.ext'
 simp
theorem OK{s:ByteArray}{sep:List UInt8}{i:Nat}(h:i+sep.length<=s.size):decide (s.extract i (i+sep.length)=bs sep)=Lib.occAt s.data.toList sep i:=by
 rw [FE,Lib.occAt_iff_take _ _ _ (by rw [size_data];exact h),Nat.add_sub_cancel_left]
 simp [Bool.beq_eq_decide_eq]
theorem Ig(s sep:List UInt8)(a j:Nat):Lib.occAt (s.drop a) sep j=Lib.occAt s sep (a+j):=by
 unfold Lib.occAt
 rw [List.drop_drop]
theorem VA(s:ByteArray)(sep:List UInt8)(h0:sep≠[])(h1:sep.length<=100)(hs:s.size<4294967281):dw Tryz.prog 111 none [.str s,.str (bs sep)] (rR (Lib.split s.data.toList sep)) [] [(0,1)]:=by
 have hpos:0<sep.length:=List.length_pos_iff.2 h0
 refine dw.bV ahm afy ab7 rfl ?_ (fun hfit=> ?_)
 ·simp [QO,fH,bX,cE,bW]
 unfold Si
 refine CM (List (List UInt8)×Nat×Nat) (fun x=>[rR x.1,.int .i64 x.2.1,.int .i64 x.2.2])
  (fun x=>x.1++Lib.split (s.data.toList.drop x.2.1) sep=Lib.split s.data.toList sep/\x.2.1<=x.2.2/\x.2.2<=s.size/\x.1.length<=x.2.1/\ ∀j,x.2.1<=j->j<x.2.2->Lib.occAt s.data.toList sep j=false)
  (fun x=>s.size-x.2.2) ([],0,0) ?_ rfl ⟨by simp,Nat.le_refl _,Nat.zero_le _,Nat.zero_le _,fun j a b=>by simp only at b;omega⟩ ?_
 ·intro x y h
  simp at h
  have:x.2.2=y.2.2:=by omega
  simp only [this]
 rintro ⟨out,fr,i⟩ ⟨q1,q2,q3,q4,q5⟩ _
 simp only at q1 q2 q3 q4 q5
 have hadd:cP .add .i64 (i:Int) (((bs sep).size:Nat):Int)=((i+sep.length:Nat):Int):=by rw [eM (by rw [mV];omega) (by rw [mV];omega),mV];omega
 have hne:fQ .neq (bs sep) ⟨#[]⟩=true:=by
  simp only [gG]
  rw [show (⟨#[]⟩:ByteArray)=bs [] from rfl]
  simp [h0]
 refine aL (fun h=> ?_) (fun h=> ?_)
 ·simp only [E.den,List.cons_append,List.nil_append,List.getD_cons_zero,List.getD_cons_succ,D.fL,D.fM,D.dE,fJ,hne,hadd,Fv,Bool.true_and,decide_eq_true_eq] at h
  have hle:i+sep.length<=s.size:=by omega
  refine bH (fun _=> ?_) ?_
  ·simp only [E.den,List.cons_append,List.nil_append,List.getD_cons_zero,List.getD_cons_succ,D.dE,fJ,hadd]
   simp;omega
  refine aL (fun h2=> ?_) (fun h2=> ?_)
  ·simp only [E.den,List.cons_append,List.nil_append,List.getD_cons_zero,List.getD_cons_succ,D.fL,D.fM,D.dE,fJ,hadd,qI,Int.toNat_natCast,fR,OK hle] at h2
   have hix:Lib.index (s.data.toList.drop fr) sep=((i-fr:Nat):Int):=by
    refine Lib.index_first (by rw [List.length_drop,size_data];omega) ?_ (fun j hj=> ?_)
    ·rw [Ig,show fr+(i-fr)=i by omega];exact h2
    ·rw [Ig];exact q5 _ (by omega) (by omega)
   refine bH (fun _=> ?_) ?_
   ·simp only [E.den,aa,aj,ak];simp;omega
   refine bH (fun _=> ?_) ?_
   ·simp only [E.den,aa,aj,ak];simp;omega
   refine Fz (out++[(s.data.toList.drop fr).take (i-fr)],i+sep.length,i+sep.length) ?_ ⟨?_,Nat.le_refl _,hle,?_,fun j a b=>by simp only at a b;omega⟩ ?_
   ·simp only [E.den,List.cons_append,List.nil_append,List.getD_cons_zero,List.getD_cons_succ,D.fM,D.dE,fJ,hadd,qI,Int.toNat_natCast,List.map_cons,List.map_nil,FE]
    simp [rR,Ey]
   ·simp only
    rw [<-q1,IU h0 hix,List.drop_drop,show fr+(i-fr+sep.length)=i+sep.length by omega]
    simp
   ·simp;omega
   ·simp only;omega
  ·simp only [E.den,List.cons_append,List.nil_append,List.getD_cons_zero,List.getD_cons_succ,D.fL,D.fM,D.dE,fJ,hadd,qI,Int.toNat_natCast,fR,OK hle] at h2
   refine Fz (out,fr,i+1) ?_ ⟨q1,by simp only;omega,by simp only;omega,q4,fun j a b=> ?_⟩ ?_
   ·simp only [E.den,aa,aj,ak]
    rw [eM (by omega) (by omega)];rfl
   ·simp only at a b
    by_cases e:j=i
    ·rw [e];exact h2
    ·exact q5 j a (by omega)
   ·simp only;omega
 ·simp only [E.den,List.cons_append,List.nil_append,List.getD_cons_zero,List.getD_cons_succ,D.fL,D.fM,D.dE,fJ,hne,hadd,Fv,Bool.true_and,decide_eq_false_iff_not] at h
  have hix:Lib.index (s.data.toList.drop fr) sep= -1:=by
   refine Lib.index_none fun j hj=> ?_
   rw [Ig]
   rcases Nat.lt_or_ge (fr+j) i with hlt|hge
   ·exact q5 _ (by omega) hlt
   ·cases ho:Lib.occAt s.data.toList sep (fr+j) with
    | false=>rfl
    | true =>
     rcases Lib.occAt_room ho with h3|h3
     ·rw [size_data] at h3;omega
     ·exact absurd h3 h0
  refine bH (fun _=> ?_) ?_
  ·simp only [E.den,aa,aj,ak];simp;omega
  refine bH (fun _=> ?_) (aK ?_)
  ·simp only [E.den,aa,aj,ak];simp;omega
  ·simp only [E.den,List.cons_append,List.nil_append,List.getD_cons_zero,List.getD_cons_succ,D.fM,D.dE,fJ,qI,Int.toNat_natCast,FE]
   rw [<-q1,Es hix,show s.size-fr=(s.data.toList.drop fr).length by rw [List.length_drop,size_data],List.take_length]
   simp [rR,Ey]
theorem abg:(1:Int).toNat=1:=rfl
end
section
open Go.RowKit Go
variable [GC]
theorem adw(l:List (List UInt8)):rR l=bg (l.map bs):=by
 simp only [rR,bg,List.map_map]
 congr 1
theorem Ka(s sep:ByteArray)(h0:sep.data.toList≠[])(h1:sep.data.toList.length<=100)(hs:s.size<4294967281):dw Tryz.prog 111 none [.str s,.str sep] (bg (pieces s sep)) [] [(0,1)]:=by
 have h:=VA s sep.data.toList h0 h1 hs
 rw [adw,J6] at h
 exact h
theorem aa6{n:Nat}(h:n<1000):(61:UInt8)∉eO n:=by
 intro hm
 have:=List.all_eq_true.1 (Ws h) _ hm
 simp [Hg] at this
theorem IQ{c:UInt8}(s:List UInt8):(Lib.cut s [c]=(s,[],false)/\Lib.split s [c]=[s])\/((Lib.cut s [c]).2.2=true/\Lib.split s [c]=(Lib.cut s [c]).1::Lib.split (Lib.cut s [c]).2.1 [c]):=by
 by_cases h:c∈s
 ·right
  obtain ⟨a,b,rfl,hn⟩:=List.eq_append_cons_of_mem h
  have e:a++c::b=a++((c::[])++b):=rfl
  rw [e,Wf hn]
  refine ⟨rfl,?_⟩
  rw [IU (by simp) (Hf hn)]
  simp
 ·left
  exact ⟨Wh h,Es (index_none' h)⟩
theorem ac6{c:UInt8}{s:List UInt8}(h:c∉s):Lib.split s [c]=[s]:=Es (index_none' h)
theorem abr{x:ByteArray}(h:(pieces x pH).length=2):pieces x pH=[Io x,ql x]/\(Lib.cut x.data.toList [61]).2.2=true:=by
 have e:pieces x pH=(Lib.split x.data.toList [61]).map bs:=rfl
 rw [e] at h ⊢
 rw [List.length_map] at h
 rcases IQ (c:=61) x.data.toList with ⟨h1,h2⟩|⟨h1,h2⟩
 ·rw [h2] at h;simp at h
 ·rw [h2] at h ⊢
  simp only [List.length_cons] at h
  rcases IQ (c:=61) (Lib.cut x.data.toList [61]).2.1 with ⟨k1,k2⟩|⟨k1,k2⟩
  ·rw [k2];exact ⟨rfl,h1⟩
  ·exfalso
   rw [k2] at h
   have:=(Hl (sep:=[61]) (by simp) _ (Lib.cut (Lib.cut x.data.toList [61]).2.1 [61]).2.1 (Nat.le_refl _)).2
   simp only [List.length_cons] at h
   exact this (List.eq_nil_of_length_eq_zero (by omega))
theorem abq{x:ByteArray}(h:nI x=true):(pieces x pH).length=2:=by
 have e:pieces x pH=(Lib.split x.data.toList [61]).map bs:=rfl
 unfold nI at h
 simp only [Bool.and_eq_true] at h
 obtain ⟨n,hn,hz, -⟩:=aa8 h.2
 rw [e,List.length_map]
 rcases IQ (c:=61) x.data.toList with ⟨h1,h2⟩|⟨h1,h2⟩
 ·rw [h1] at h;simp at h
 ·rw [h2]
  have hz':(Lib.cut x.data.toList [61]).2.1=eO n:=by
   have:=congrArg (fun b:ByteArray=>b.data.toList) hz
   simpa [ql,Ff] using this
  rw [hz',ac6 (aa6 hn)];rfl
theorem Vy(s:ByteArray)(hs:s.size<4294967281):dw Tryz.prog 100 none [.str s] (.aE [bg (eT s).1,.bool (eT s).2]) [] [(0,2)]:=by
 refine dw.bV ahk afw ab6 rfl ?_ (fun hfit=> ?_)
 ·exact ⟨trivial,trivial⟩
 unfold Sd
 refine aL (fun h=>aK ?_) (fun h=> ?_)
 ·simp only [E.den,aa,aj,ak,Ev] at h
  have h:s=wK:=by simpa using h
  rw [eT,if_pos h];rfl
 simp only [E.den,aa,aj,ak,Ev] at h
 have h0:s≠wK:=by simpa using h
 (refine nS ?_ (Ka s dD (by decide) (by decide) hs) (rS _) ?_;(focus (simp only [VC.den,E.den,aa,aP,and_true,Eu];try exact rfl));(simp only [cA]))
 have hz:=(D9 (s:=s) (sep:=dD) (by decide)).1
 have hp: ∀k,k<(pieces s dD).length->(nth (pieces s dD) k).size<4294967281:=fun k hk=>by
  have:=Pa (s:=s) (sep:=dD) (by decide) hk
  omega
 have hno: ∀k,k<(pieces s dD).length->nI (nth (pieces s dD) k)=false->(.aE [bg (eT s).1,.bool (eT s).2]:D)= .aE [bg ([]:List Cell),.bool false]:=fun k hk hb=>by
  have hn:oy s=false:=by
   cases h:oy s with
   | false=>rfl
   | true =>
    unfold oy at h
    simp only [Bool.and_eq_true] at h
    have:=List.all_eq_true.1 h.1.1 _ (yY hk)
    rw [hb] at this;cases this
  rw [eT,if_neg h0,if_neg (by simp [hn])]
 refine gJ (pieces s dD).length (fun k=>[bg (((pieces s dD).take k).map Bv),.int .i64 k]) (fun k=> ∀i,i<k->nI (nth (pieces s dD) i)=true) rfl (by omega) ?_
 intro k hk hI _
 simp only [cA]
 refine aL (fun h2=> ?_) (fun h2=> ?_)
 ·simp only [E.den,aa,aj,ak] at h2
  have h2:k<(pieces s dD).length:=by simp at h2;exact h2
  (refine bH (fun hg=> ?_) ?_;(focus (simp only [bE,gE,E.den,aa,aj,ak] at hg ⊢;(try simp only [D.bool.injEq] at hg);(try simp only [D.bool.injEq]);grind)))
  (refine nS ?_ (Ka (nth (pieces s dD) k) pH (by decide) (by decide) (hp k h2)) (rS _) ?_;(focus (simp only [VC.den,E.den,aa,aP,and_true,lD,jg,Int.toNat_natCast,wL];try exact rfl));(simp only [cA]))
  refine aL (fun h3=>aK ?_) (fun h3=> ?_)
  ·simp only [E.den,aa,aj,ak] at h3
   have h3:(pieces (nth (pieces s dD) k) pH).length≠2:=by simp at h3;omega
   rw [hno k h2 (by cases hb:nI (nth (pieces s dD) k) with|false=>rfl|true=>exact absurd (abq hb) h3)];rfl
  simp only [E.den,aa,aj,ak] at h3
  have h3:(pieces (nth (pieces s dD) k) pH).length=2:=by simp at h3;omega
  obtain ⟨oq,hc⟩:=abr h3
  (refine bH (fun hg=> ?_) ?_;(focus (simp only [bE,gE,E.den,aa,aj,ak,oq] at hg ⊢;(try simp only [D.bool.injEq] at hg);(try simp only [D.bool.injEq]);grind)))
  refine bD ?_ (Vz (ql (nth (pieces s dD) k))) (QK _) ?_
  ·simp only [List.map,E.den,oq,lD,jg,abg,aa,aj,ak];rfl
  simp only [cA]
  refine aL (fun h4=>aK ?_) (fun h4=> ?_)
  ·simp only [E.den,aa,aj,ak,lW] at h4
   have h4:qi (ql (nth (pieces s dD) k))=false:=by simpa using h4
   rw [hno k h2 (by unfold nI;rw [h4,Bool.and_false])];rfl
  ·simp only [E.den,aa,aj,ak,lW] at h4
   have h4:qi (ql (nth (pieces s dD) k))=true:=by simpa using h4
   (refine bH (fun hg=> ?_) ?_;(focus (simp only [bE,gE,E.den,aa,aj,ak,oq] at hg ⊢;(try simp only [D.bool.injEq] at hg);(try simp only [D.bool.injEq]);grind)))
   refine bH (fun _=> ?_) ?_
   ·simp only [E.den,aa,aj,ak];simp [maxLen];omega
   refine fT h2 ?_ fun i hi=> ?_
   ·simp only [E.den,aa,aj,ak,lW,lD,jg]
    rw [eM (by omega) (by omega),D2 _ h2,oq,vS]
    simp [bg,dR,Bv]
   ·rcases Nat.lt_or_ge i k with h|h
    ·exact hI i h
    ·obtain rfl:i=k:=by omega
     unfold nI
     simp [hc,h4]
 ·simp only [E.den,aa,aj,ak] at h2
  obtain rfl:k=(pieces s dD).length:=by simp at h2;omega
  have hE:(pieces s dD).take (pieces s dD).length=pieces s dD:=List.take_length
  have hp:oy s=fE (mH s):=by
   unfold oy
   have:(pieces s dD).all nI=true:=List.all_eq_true.2 fun x hx=>by
    obtain ⟨i,hi,rfl⟩:=List.getElem_of_mem hx
    have:=hI i hi
    simpa [nth,hi] using this
   rw [this,Bool.true_and]
   cases hb:fE (mH s) with
   | false=>simp
   | true =>
    have:=oM hb
    unfold mH at this
    rw [List.length_map] at this
    simp [this]
  (refine bD ?_ (Fm (mH s)) (trivial) ?_;(focus (simp only [VC.den,E.den,aa,aP,and_true,hE,mH];try exact rfl));(simp only [cA]))
  refine aL (fun h6=>aK ?_) (fun h6=>aK ?_)
  ·simp only [E.den,aa,aj,ak] at h6
   have h6:fE (mH s)=false:=by simpa using h6
   rw [eT,if_neg h0,if_neg (by rw [hp,h6];simp)];rfl
  ·simp only [E.den,aa,aj,ak] at h6
   have h6:fE (mH s)=true:=by simpa using h6
   rw [eT,if_neg h0,if_pos (by rw [hp,h6])]
   simp only [E.den,aa,aj,ak,hE]
   rfl
theorem Cu(n:Int)(h:fg n=true):aG Tryz.prog 87 none [.int .i64 n] (.int .i64 (bU n)) []:=by
 refine aG.bV ahz afY rfl ?_ (fun hfit=> ?_)
 ·exact ⟨rfl,trivial⟩
 unfold Sy
 obtain ⟨h1,h2⟩:=rJ.1 h
 have e:bU n=min (n+1) 999:=by unfold bU;rw [wrap_i64 (by omega) (by omega)]
 refine aL (fun g=>aK ?_) (fun g=>aK ?_)
 ·simp only [E.den,aa,aj,ak] at g ⊢
  have g:999<=n:=by simpa using g
  rw [e];congr 1;omega
 ·simp only [E.den,aa,aj,ak] at g ⊢
  have g:n<999:=by simpa using g
  rw [eM (by omega) (by omega),e];congr 1;omega
theorem VI(p:Core)(x:Call)(hp:jh p=true)(hm:dz x=true):aG Tryz.prog 98 none [enc p,enc x,.bool ((ek p.kind).testBit 0)] (.aE [enc (keepD p x).1,enc (keepD p x).2]) []:=by
 refine aG.bV ahw afS rfl ?_ (fun hfit=> ?_)
 ·exact ⟨j9 p,BS x,trivial,trivial⟩
 unfold Sv
 obtain ⟨p1,p2,p3,p4,p5,p6⟩:=mW.1 hp
 have Du:=oM p2
 have hpl:=abt (Kv p2) x.key
 have hil:eZ p.cells x.key=true->bZ p.cells x.key<p.cells.length:=fun h=>(nE.1 h).1
 have hg:(⟨#[71,101,116]⟩:ByteArray)=gy:=rfl
 (refine bD ?_ (VG p.cells x.key) (rfl) ?_;(focus (simp only [VC.den,E.den,aa,aP,and_true,bR,cF];try exact rfl));(simp only [cA]))
 refine aL (fun h=>aK ?_) (fun h1=> ?_)
 ·simp only [E.den,aa,aj,ak,bR,cF] at h ⊢
  have hE:keepD p x=(p,rep 2 0 0 0):=by unfold keepD;rw [if_pos (by simpa using h)]
  rw [hE];rfl
 simp only [E.den,aa,aj,ak,bR,cF] at h1
 have h1: ¬((ek p.kind).testBit 0=true/\p.on=false):=by simpa using h1
 refine aL (fun h=>aK ?_) (fun h2=> ?_)
 ·simp only [E.den,aa,aj,ak,bR,cF,hg] at h ⊢
  simp only [Bool.and_eq_true,decide_eq_true_eq] at h
  have hk:eZ p.cells x.key=false:=by
   cases hk:eZ p.cells x.key with
   | false=>rfl
   | true=>rw [hk] at hpl;simp at hpl;omega
  have hE:keepD p x=(p,rep 4 0 0 0):=by unfold keepD;rw [if_neg h1,if_pos h.1,hk];rfl
  rw [hE];rfl
 simp only [E.den,aa,aj,ak,bR,cF,hg] at h2
 refine aL (fun h=> ?_) (fun h3=> ?_)
 ·simp only [E.den,aa,aj,ak,bR,cF,hg] at h
  have h:x.method=gy:=by simpa using h
  have hk:eZ p.cells x.key=true:=by
   cases hk:eZ p.cells x.key with
   | true=>rfl
   | false=>rw [hk] at hpl;simp [h] at h2;simp at hpl;omega
  have hi:=hil hk
  rw [hk] at hpl
  have hpl:vX p.cells x.key=((bZ p.cells x.key:Nat):Int):=by simpa using hpl
  rw [hpl]
  (refine bH (fun hg=> ?_) ?_;(focus (simp only [bE,gE,E.den,aa,aj,ak,bR] at hg ⊢;(try simp only [D.bool.injEq] at hg);(try simp only [D.bool.injEq]);grind)))
  refine aK ?_
  simp only [E.den,aa,aj,ak,bR,gC,dR,Int.toNat_natCast]
  have hE:keepD p x=(p,rep 0 (nth p.cells (bZ p.cells x.key)).val 0 0):=by unfold keepD;rw [if_neg h1,if_pos h,if_pos hk]
  rw [hE];rfl
 simp only [E.den,aa,aj,ak,bR,cF,hg] at h3
 have h3:x.method≠gy:=by simpa using h3
 refine aL (fun h=>aK ?_) (fun h4=> ?_)
 ·simp only [E.den,aa,aj,ak,bR,cF] at h ⊢
  simp only [Bool.and_eq_true,decide_eq_true_eq] at h
  have hk:eZ p.cells x.key=false:=by
   cases hk:eZ p.cells x.key with
   | false=>rfl
   | true=>rw [hk] at hpl;simp at hpl;omega
  have hE:keepD p x=(p,rep 5 0 0 0):=by unfold keepD;rw [if_neg h1,if_neg h3,if_pos ⟨hk,by have:=h.2;simp at this;omega⟩]
  rw [hE];rfl
 simp only [E.den,aa,aj,ak,bR,cF] at h4
 have h4: ¬(eZ p.cells x.key=false/\4<=p.cells.length):=by
  rintro ⟨k1,k2⟩
  rw [k1] at hpl
  have hpl:vX p.cells x.key= -1:=by simpa using hpl
  rw [hpl] at h4
  simp at h4
  omega
 (refine nS ?_ (VJ p.cells x.key x.val (Kv p2) (by omega)) (nK _) ?_;(focus (simp only [VC.den,E.den,aa,aP,and_true,bR,cF];try exact rfl));(simp only [cA]))
 (refine bD ?_ (Cu p.count p4) (rfl) ?_;(focus (simp only [VC.den,E.den,aa,aP,and_true,bR];try exact rfl));(simp only [cA]))
 refine aK ?_
 simp only [E.den,aa,aj,ak,bR,cF]
 have hE:keepD p x=(⟨p.kind,p.on,p.broken,iH p.cells x.key x.val,bU p.count⟩,rep 0 (iH p.cells x.key x.val).length 0 0):=by unfold keepD;rw [if_neg h1,if_neg h3,if_neg h4]
 rw [hE];rfl
theorem VK(p:Core)(x:Call)(hp:jh p=true)(hm:x.method=mStart\/x.method=cj\/x.method=fc)(hb: ¬(p.broken=true/\x.method≠fc/\x.method≠ep)):aG Tryz.prog 101 none [enc p,.str x.method] (.aE [enc (bL p x).1,enc (bL p x).2]) []:=by
 refine aG.bV ahy afW rfl ?_ (fun hfit=> ?_)
 ·exact ⟨j9 p,trivial,trivial⟩
 unfold Sx
 obtain ⟨p1,p2,p3,p4,p5,p6⟩:=mW.1 hp
 have hg:(⟨#[72,101,97,108]⟩:ByteArray)=fc:=rfl
 have hs:(⟨#[83,116,111,112]⟩:ByteArray)=cj:=rfl
 refine aL (fun h=>aK ?_) (fun h1=> ?_)
 ·simp only [E.den,aa,aj,ak,bR,hg] at h ⊢
  have h:x.method=fc:=by simpa using h
  have hE:bL p x=(⟨p.kind,false,false,p.cells,p.count⟩,rep 0 0 0 0):=by
   unfold bL dz;rw [if_neg hb];simp only [h];rfl
  rw [hE];rfl
 simp only [E.den,aa,aj,ak,hg] at h1
 have h1:x.method≠fc:=by simpa using h1
 refine aL (fun h=>aK ?_) (fun h2=> ?_)
 ·simp only [E.den,aa,aj,ak,bR,hs] at h ⊢
  have h:x.method=cj/\p.on=false:=by simpa using h
  obtain ⟨h,ho⟩:=h
  have hE:bL p x=(p,rep 2 0 0 0):=by
   unfold bL;rw [if_neg hb,if_neg (show ¬x.method=mStart by rw [h];decide),if_pos h,if_pos ho]
  rw [hE];rfl
 simp only [E.den,aa,aj,ak,bR,hs] at h2
 refine aL (fun h=>aK ?_) (fun h3=> ?_)
 ·simp only [E.den,aa,aj,ak,bR,hs] at h ⊢
  have h:x.method=cj:=by simpa using h
  have ho: ¬p.on=false:=by simpa [h] using h2
  have hE:bL p x=(⟨p.kind,false,p.broken,p.cells,p.count⟩,rep 0 0 0 0):=by
   unfold bL;rw [if_neg hb,if_neg (show ¬x.method=mStart by rw [h];decide),if_pos h,if_neg ho]
  rw [hE];rfl
 simp only [E.den,aa,aj,ak,hs] at h3
 have h3:x.method≠cj:=by simpa using h3
 have hS:x.method=mStart:=by rcases hm with h|h|h;exact h;exact absurd h h3;exact absurd h h1
 refine aL (fun h=>aK ?_) (fun h4=> ?_)
 ·simp only [E.den,aa,aj,ak,bR] at h ⊢
  have h:p.on=true:=by simpa using h
  have hE:bL p x=(⟨p.kind,false,true,p.cells,p.count⟩,rep 3 0 0 0):=by
   unfold bL;rw [if_neg hb,if_pos hS,if_pos h]
  rw [hE];rfl
 simp only [E.den,aa,aj,ak,bR] at h4
 (refine bD ?_ (Cu p.count p4) (rfl) ?_;(focus (simp only [VC.den,E.den,aa,aP,and_true,bR];try exact rfl));(simp only [cA]))
 refine aK ?_
 simp only [E.den,aa,aj,ak,bR]
 have hE:bL p x=(⟨p.kind,true,p.broken,p.cells,bU p.count⟩,rep 0 0 0 0):=by
  unfold bL;rw [if_neg hb,if_pos hS,if_neg (by simpa using h4)]
 rw [hE];rfl
theorem ah1{x:Call}(hx:eH x=true): ∃j:Fin 6,bK x.method=((2^j.val:Nat):Int)/\x.method∈methods j.val:=Bq (xx hx)
theorem VH(p:Core)(x:Call)(hp:jh p=true)(hx:eH x=true)(ht:x.text.size<4294967281):aG Tryz.prog 86 none [enc p,enc x,.bool ((ek p.kind).testBit 0)] (.aE [enc (bL p x).1,enc (bL p x).2]) []:=by
 refine aG.bV ahv afQ rfl ?_ (fun hfit=> ?_)
 ·exact ⟨j9 p,BS x,trivial,trivial⟩
 unfold Su
 have hp':=hp
 obtain ⟨p1,p2,p3,p4,p5,p6⟩:=mW.1 hp
 have e1:(⟨#[72,101,97,108]⟩:ByteArray)=fc:=rfl
 have e2:(⟨#[84,101,108,108]⟩:ByteArray)=ep:=rfl
 have e3:(⟨#[71,101,116]⟩:ByteArray)=gy:=rfl
 have e4:(⟨#[80,117,116]⟩:ByteArray)=fw:=rfl
 have e5:(⟨#[72,101,97,114]⟩:ByteArray)=fe:=rfl
 have e6:(⟨#[83,97,118,101]⟩:ByteArray)=rI:=rfl
 have e7:(⟨#[76,111,97,100]⟩:ByteArray)=jN:=rfl
 refine aL (fun h=>aK ?_) (fun h1=> ?_)
 ·simp only [E.den,aa,aj,ak,bR,cF,e1,e2] at h ⊢
  have h:p.broken=true/\x.method≠fc/\x.method≠ep:=by simpa [and_assoc] using h
  have hE:bL p x=(p,rep 3 0 0 0):=by unfold bL;rw [if_pos h]
  rw [hE];rfl
 simp only [E.den,aa,aj,ak,bR,cF,e1,e2] at h1
 have hb: ¬(p.broken=true/\x.method≠fc/\x.method≠ep):=by
  rintro ⟨q1,q2,q3⟩
  simp [q1,q2,q3] at h1
 have K:dz x=true->bL p x=keepD p x:=fun h=>by
  obtain ⟨k1,k2,k3,k4,k5⟩:=Bj h
  unfold bL;rw [if_neg hb,if_neg k4,if_neg k5,if_pos h]
 have hkeep:dz x=true->aG Tryz.prog 98 none [enc p,enc x,.bool ((ek p.kind).testBit 0)] (.aE [enc (bL p x).1,enc (bL p x).2]) []:=fun h=>by rw [K h];exact VI p x hp h
 refine aL (fun h=> ?_) (fun h2=> ?_)
 ·simp only [E.den,aa,aj,ak,bR,cF,e3] at h
  have h:x.method=gy:=by simpa using h
  refine aL (fun _=> ?_) (fun g=> ?_)
  ·(refine bD ?_ (hkeep (lT.2 (.inl h))) (⟨j9 _,zk _,trivial⟩) ?_;(focus (simp only [VC.den,E.den,aa,aP,and_true];try exact rfl));(simp only [cA]))
   refine aK ?_
   simp only [E.den,aa,aj,ak]
  ·simp only [E.den,aa,aj,ak,cF,e3] at g
   simp [h] at g
 simp only [E.den,aa,aj,ak,bR,cF,e3] at h2
 have h2:x.method≠gy:=by simpa using h2
 refine aL (fun h=> ?_) (fun h3=> ?_)
 ·simp only [E.den,aa,aj,ak,bR,cF,e4] at h
  have h:x.method=fw:=by simpa using h
  (refine bD ?_ (hkeep (lT.2 (.inr h))) (⟨j9 _,zk _,trivial⟩) ?_;(focus (simp only [VC.den,E.den,aa,aP,and_true];try exact rfl));(simp only [cA]))
  refine aK ?_
  simp only [E.den,aa,aj,ak]
 simp only [E.den,aa,aj,ak,bR,cF,e4] at h3
 have h3:x.method≠fw:=by simpa using h3
 refine aL (fun h=>aK ?_) (fun h4=> ?_)
 ·simp only [E.den,aa,aj,ak,bR,cF,e2] at h ⊢
  have h:x.method=ep:=by simpa using h
  have hE:bL p x=(p,rep 0 p.count 0 0):=by unfold bL dz;rw [if_neg hb];simp only [h];rfl
  rw [hE];rfl
 simp only [E.den,aa,aj,ak,bR,cF,e2] at h4
 have h4:x.method≠ep:=by simpa using h4
 refine aL (fun h=> ?_) (fun h5=> ?_)
 ·simp only [E.den,aa,aj,ak,bR,cF,e5] at h
  have h:x.method=fe:=by simpa using h
  (refine bD ?_ (Cu p.count p4) (rfl) ?_;(focus (simp only [VC.den,E.den,aa,aP,and_true,bR];try exact rfl));(simp only [cA]))
  refine aK ?_
  simp only [E.den,aa,aj,ak,bR,cF]
  have hE:bL p x=(⟨p.kind,if x.val=0 then false else if x.val=1 then true else p.on,p.broken,p.cells,bU p.count⟩,rep 0 (bU p.count) 0 0):=by unfold bL dz;rw [if_neg hb];simp only [h];rfl
  have E2:((x.val==1)||(p.on&&(x.val != 0)))=(if x.val=0 then false else if x.val=1 then true else p.on):=by
   by_cases k0:x.val=0
   ·simp [k0]
   ·by_cases k1:x.val=1
    ·simp [k1]
    ·rw [if_neg k0,if_neg k1,show (x.val==1)=false from by simpa using k1,show (x.val != 0)=true from by simpa using k0];simp
  rw [hE,E2];rfl
 simp only [E.den,aa,aj,ak,bR,cF,e5] at h5
 have h5:x.method≠fe:=by simpa using h5
 refine aL (fun h=> ?_) (fun h6=> ?_)
 ·simp only [E.den,aa,aj,ak,bR,cF,e6] at h
  have h:x.method=rI:=by simpa using h
  (refine bD ?_ (Vu p.cells) (trivial) ?_;(focus (simp only [VC.den,E.den,aa,aP,and_true,bR];try exact rfl));(simp only [cA]))
  refine aK ?_
  simp only [E.den,aa,aj,ak,bR,cF]
  have hE:bL p x=(p,⟨0,0,fmtC p.cells,0,0⟩):=by unfold bL dz;rw [if_neg hb];simp only [h];rfl
  rw [hE];rfl
 simp only [E.den,aa,aj,ak,bR,cF,e6] at h6
 have h6:x.method≠rI:=by simpa using h6
 refine aL (fun h=> ?_) (fun h7=> ?_)
 ·simp only [E.den,aa,aj,ak,bR,cF,e7] at h
  have h:x.method=jN:=by simpa using h
  have hE:bL p x=(if (eT x.text).2=true then (⟨p.kind,p.on,p.broken,(eT x.text).1,p.count⟩,rep 0 (eT x.text).1.length 0 0) else (p,rep 6 0 0 0)):=by unfold bL dz;rw [if_neg hb];simp only [h];rfl
  (refine nS ?_ (Vy x.text ht) (⟨nK _,trivial,trivial⟩) ?_;(focus (simp only [VC.den,E.den,aa,aP,and_true,cF];try exact rfl));(simp only [cA]))
  refine aL (fun g=>aK ?_) (fun g=>aK ?_)
  ·simp only [E.den,aa,aj,ak,bR] at g ⊢
   have g:(eT x.text).2=false:=by simpa using g
   rw [hE,g];rfl
  ·simp only [E.den,aa,aj,ak,bR] at g ⊢
   have g:(eT x.text).2=true:=by simpa using g
   rw [hE,if_pos g];rfl
 simp only [E.den,aa,aj,ak,bR,cF,e7] at h7
 have h7:x.method≠jN:=by simpa using h7
 have hm:x.method=mStart\/x.method=cj\/x.method=fc:=by
  obtain ⟨j, -,hj⟩:=ah1 hx
  have h0: ∀j:Fin 6,∀s:ByteArray,s∈methods j.val->s=mStart\/s=cj\/s=fc\/s=gy\/s=fw\/s=ep\/s=fe\/s=jN\/s=rI:=by decide
  rcases h0 j _ hj with h|h|h|h|h|h|h|h|h
  ·exact .inl h
  ·exact .inr (.inl h)
  ·exact .inr (.inr h)
  ·exact absurd h h2
  ·exact absurd h h3
  ·exact absurd h h4
  ·exact absurd h h5
  ·exact absurd h h7
  ·exact absurd h h6
 (refine bD ?_ (VK p x hp hm hb) (⟨j9 _,zk _,trivial⟩) ?_;(focus (simp only [VC.den,E.den,aa,aP,and_true,cF];try exact rfl));(simp only [cA]))
 refine aK ?_
 simp only [E.den,aa,aj,ak]
theorem Vs(p:Core)(x:Call)(hp:jh p=true)(hx:eH x=true)(ho:cV (ek p.kind) (bK x.method)=true)(ht:x.text.size<4294967281):aG Tryz.prog 60 none [enc p,enc x] (.aE [enc (bL p x).1,enc (bL p x).2]) []:=by
 refine aG.bV ag5 ae6 rfl ?_ (fun hfit=> ?_)
 ·exact ⟨j9 p,BS x,trivial⟩
 unfold RS
 obtain ⟨p1,p2,p3,p4,p5,p6⟩:=mW.1 hp
 have Du:=oM p2
 (refine nS ?_ (Ko p (by omega)) (j9 _) ?_;(focus (simp only [VC.den,E.den,aa,aP,and_true];try exact rfl));(simp only [cA]))
 (refine bD ?_ (Kl p) (trivial) ?_;(focus (simp only [VC.den,E.den,aa,aP,and_true];try exact rfl));(simp only [cA]))
 (refine bD ?_ (Kk x) (trivial) ?_;(focus (simp only [VC.den,E.den,aa,aP,and_true];try exact rfl));(simp only [cA]))
 refine aL (fun h=> ?_) (fun h=> ?_)
 ·simp only [E.den,aa,aj,ak] at h
  rw [hp,hx] at h;cases h
 (refine bD ?_ (Fo p.kind) (⟨rfl,trivial,trivial⟩) ?_;(focus (simp only [VC.den,E.den,aa,aP,and_true,bR];try exact rfl));(simp only [cA]))
 (refine bD ?_ (Ct x.method) (rfl) ?_;(focus (simp only [VC.den,E.den,aa,aP,and_true,cF];try exact rfl));(simp only [cA]))
 (refine bD ?_ (Fp (ek p.kind) (bK x.method)) (trivial) ?_;(focus (simp only [VC.den,E.den,aa,aP,and_true];try exact rfl));(simp only [cA]))
 refine aL (fun h=> ?_) (fun h=> ?_)
 ·simp only [E.den,aa,aj,ak] at h
  rw [ho] at h;cases h
 (refine bD ?_ (zP (ek p.kind) 0 (vP _) (by omega)) (trivial) ?_;(focus (simp only [VC.den,E.den,aa,aP,and_true];try exact rfl));(simp only [cA]))
 (refine bD ?_ (VH p x hp hx ht) (⟨j9 _,zk _,trivial⟩) ?_;(focus (simp only [VC.den,E.den,aa,aP,and_true];try exact rfl));(simp only [cA]))
 refine aK ?_
 simp only [E.den,aa,aj,ak]
end
end Go.Proofs.YtimickglpboilaaGreatDoor
