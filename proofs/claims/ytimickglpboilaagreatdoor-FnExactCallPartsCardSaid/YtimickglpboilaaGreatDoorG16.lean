/- Contract: a call of a part (CallPart), walked by hand over the box that it is done in. -/
import Derived.Test.YtimickglpboilaaGreatDoorG15
import Derived.Test.YtimickglpboilaaGreatDoorG0
import Derived.Test.YtimickglpboilaaGreatDoorG10
import Derived.Test.YtimickglpboilaaGreatDoorG12
import Derived.Test.YtimickglpboilaaGreatDoorG14
import Derived.Test.YtimickglpboilaaGreatDoorG13
set_option linter.unusedVariables false
set_option linter.unusedSimpArgs false
set_option linter.unusedSectionVars false
set_option maxRecDepth 100000
namespace Go.Proofs.YtimickglpboilaaGreatDoor
section
open Go.RowKit Go
variable [GC]
theorem PB.give{K:Nat->Prop}{w:World}{g B:Nat}{S1 S2:Value}{p:Part}{M:Addr->Prop}(h1:cu K w g S1 (cS p.core.cells))(h2:cu K w g S2 (fR p.af))(ha: ∀b,bi S1 b-> ¬bi S2 b)(hks:p.core.kind.size<=maxLen)(hct:IntKind.i64.min<=p.core.count/\p.core.count<=IntKind.i64.max)
  (hK: ∀b,K b->B<=b) (hM: ∀q,M q->q.block<B) {r:D} {rv:Value} (hr:R w (fun _=>True) r rv) {v:Value} (hv:v= .tuple #[.agg #[.string p.core.kind,.bool p.core.on,.bool p.core.broken,S1,.int .i64 p.core.count,S2],rv]) :
  R w (fun q=>M q\/iK v [(3,2),(5,2)] q) (.aC [enc p,r]) v/\uM B w v [(3,2),(5,2)]:=by
 subst hv
 have e3:kW (.tuple #[.agg #[.string p.core.kind,.bool p.core.on,.bool p.core.broken,S1,.int .i64 p.core.count,S2],rv]) (3,2)=S1:=rfl
 have e5:kW (.tuple #[.agg #[.string p.core.kind,.bool p.core.on,.bool p.core.broken,S1,.int .i64 p.core.count,S2],rv]) (5,2)=S2:=rfl
 have live: ∀(S:Value) (l:List (ByteArray×Int)),cu K w g S l->qI B w S 2:=by
  rintro S l ⟨a,cap,rfl,q1,q2,q3,q4,q5⟩ b o s len cap' e hc
  simp only [Value.slice.injEq] at e
  obtain ⟨rfl,rfl,rfl⟩:=e
  obtain ⟨z1,z2,z3,cells,T,z4,z5,_⟩:=q5 b o s rfl hc
  exact ⟨z1,hK _ z2,cells,T,z4,z5⟩
 have apart:BZ S1 S2:=fun b o s len cap b' o' s' len' cap' u1 c1 u2 c2 e=>by
  subst e
  exact ha b ⟨o,s,len,cap,u1,c1⟩ ⟨o',s',len',cap',u2,c2⟩
 have rd: ∀(S:Value) (l:List (ByteArray×Int)),cu K w g S l->(S=S1\/S=S2)->R w (fun q=>M q\/iK (.tuple #[.agg #[.string p.core.kind,.bool p.core.on,.bool p.core.broken,S1,.int .i64 p.core.count,S2],rv]) [(3,2),(5,2)] q) (.sl (l.map jV)) S:=by
  intro S l hR hS
  refine hR.rd fun b o cap i e hk hi hq=> ?_
  have eE:bi S b:=by
   obtain ⟨a',cap',e',z1,_⟩:=hR
   rw [e] at e'
   simp only [Value.slice.injEq] at e'
   exact ⟨o,none,_,cap,e,by have:=e'.2.2;omega⟩
  rcases hq with hq|⟨y,hy,b',o',s',len',cap',u1,u2,u3,u4⟩
  ·have:=hM _ hq;have:=hK _ hk;simp only at *;omega
  ·have hy:y=(3,2)\/y=(5,2):=by simpa using hy
   simp only at u2 u3 u4
   have hc':0<cap':=by
    rcases hy with rfl|rfl<;>(simp only at u3 u4;omega)
   have same:kW (.tuple #[.agg #[.string p.core.kind,.bool p.core.on,.bool p.core.broken,S1,.int .i64 p.core.count,S2],rv]) y=S->False:=fun es=>by
    rw [es,e] at u1
    simp only [Value.slice.injEq,Option.some.injEq,Addr.mk.injEq] at u1
    obtain ⟨⟨_,ho,_⟩,hl,_⟩:=u1
    rcases hy with rfl|rfl<;>(simp only at u3 u4;omega)
   have hb2:bi (kW (.tuple #[.agg #[.string p.core.kind,.bool p.core.on,.bool p.core.broken,S1,.int .i64 p.core.count,S2],rv]) y) b:=⟨o',s',len',cap',by rw [u1,u2],hc'⟩
   rcases hy with rfl|rfl
   ·rcases hS with rfl|rfl
    ·exact same e3
    ·rw [e3] at hb2;exact ha b hb2 eE
   ·rcases hS with rfl|rfl
    ·rw [e5] at hb2;exact ha b eE hb2
    ·exact same e5
 refine ⟨⟨_,rfl,?_⟩,fun x hx=> ?_,fun i j x y hi hj hne=> ?_⟩
 ·have c1:=rd S1 _ h1 (.inl rfl)
  have c2:=rd S2 _ h2 (.inr rfl)
  rw [wo] at c1
  rw [Bz] at c2
  exact ⟨_,_,rfl,⟨_,rfl,⟨_,_,rfl,⟨rfl,hks⟩,_,_,rfl,rfl,_,_,rfl,rfl,_,_,rfl,c1,_,_,rfl,⟨rfl,hct⟩,_,_,rfl,c2,rfl⟩⟩,_,_,rfl,R.less hr (fun _ _=>trivial),rfl⟩
 ·have hx:x=(3,2)\/x=(5,2):=by simpa using hx
  rcases hx with rfl|rfl
  ·rw [e3];exact live _ _ h1
  ·rw [e5];exact live _ _ h2
 ·match i,j,hi,hj,hne with
  | 0,0,_,_,h=>exact absurd rfl h
  | 1,1,_,_,h=>exact absurd rfl h
  | 0,1,hi,hj,_=>cases hi;cases hj;rw [e3,e5];exact apart
  | 1,0,hi,hj,_ =>
   cases hi;cases hj;rw [e3,e5]
   exact fun b o s len cap b' o' s' len' cap' u1 c1 u2 c2 e=>apart b' o' s' len' cap' b o s len cap u2 c2 u1 c1 e.symm
  | 0,n+2,_,hj,_=>simp at hj
  | 1,n+2,_,hj,_=>simp at hj
  | n+2,_,hi,_,_=>simp at hi
theorem uk{w:World}{M:Addr->Prop}{r:da}(h1:IntKind.i64.min<=r.code/\r.code<=IntKind.i64.max)(h2:IntKind.i64.min<=r.val/\r.val<=IntKind.i64.max)(h3:r.text.size<=maxLen)(h4:IntKind.i64.min<=r.want/\r.want<=IntKind.i64.max)(h5:IntKind.i64.min<=r.had/\r.had<=IntKind.i64.max):R w M (enc r) (rY r) :=
 ⟨_,rfl,⟨_,_,rfl,⟨rfl,h1⟩,_,_,rfl,⟨rfl,h2⟩,_,_,rfl,⟨rfl,h3⟩,_,_,rfl,⟨rfl,h4⟩,_,_,rfl,⟨rfl,h5⟩,rfl⟩⟩
theorem acg{P:Program}{fn:Func}{p u:Tmp}{ty jK:TypeId}(h:fn.results= #[.cell p ty,.cell u jK])(tmps:Array Value)(w:World){g g2:Nat}{t t2:TypeId}{cs jv:Array Value}(d d2:TypeDesc)
  (hp:tmps.getD p undef= .pointer (some ⟨g,0,none⟩)) (hg:aJ w g t cs) (hu:P.underlying ty=some d) (hd:(match d with| .struct _| .array _ _=>true|_=>false)=true) (hi:(P.info? ty).map (·.size)=some cs.size)
  (oG:tmps.getD u undef= .pointer (some ⟨g2,0,none⟩)) (rF:aJ w g2 t2 jv) (kv:P.underlying jK=some d2) (ji:(match d2 with| .struct _| .array _ _=>true|_=>false)=true) (hi2:(P.info? jK).map (·.size)=some jv.size) :
  (results fn tmps).run P w= .ok (.tuple #[.agg cs,.agg jv]) w:=by
 have hp':tmps[p]?.getD undef= .pointer (some ⟨g,0,none⟩):=by simpa using hp
 have GI:tmps[u]?.getD undef= .pointer (some ⟨g2,0,none⟩):=by simpa using oG
 simp [results,h,hp',GI,asAddr,run_loadVar_row w g t ty cs (0,0) d hg hu hd hi,run_loadVar_row w g2 t2 jK jv (0,0) d2 rF kv ji hi2,Sem.run_bind,Result.andThen]
theorem rW{w:World}{M:Addr->Prop}{p:Part}{v:Value}(h:R w M (enc p) v): ∃S1 S2,v= .agg #[.string p.core.kind,.bool p.core.on,.bool p.core.broken,S1,.int .i64 p.core.count,S2]/\R w M (aN p.core.cells) S1/\R w M (aN p.af) S2/\p.core.kind.size<=maxLen/\(IntKind.i64.min<=p.core.count/\p.core.count<=IntKind.i64.max):=by
 obtain ⟨cs,rfl,v0,r0,e0,⟨rfl,h0⟩,v1,r1,rfl,rfl,v2,r2,rfl,rfl,v3,r3,rfl,h3,v4,r4,rfl,⟨rfl,h4⟩,v5,r5,rfl,h5,rfl⟩:=h
 have:cs= #[.string p.core.kind,.bool p.core.on,.bool p.core.broken,v3,.int .i64 p.core.count,v5]:=by rw [<-Array.toList_inj,e0]
 exact ⟨v3,v5,by rw [this],h3,h5,h0,h4⟩
theorem Kw{w:World}{M:Addr->Prop}{x:Call}{v:Value}(h:R w M (enc x) v):v=dL x/\x.method.size<=maxLen/\x.key.size<=maxLen/\(IntKind.i64.min<=x.val/\x.val<=IntKind.i64.max):=by
 obtain ⟨cs,rfl,v0,r0,e0,⟨rfl,h0⟩,v1,r1,rfl,⟨rfl,h1⟩,v2,r2,rfl,⟨rfl,h2⟩,v3,r3,rfl,⟨rfl,h3⟩,rfl⟩:=h
 have:cs= #[.string x.method,.string x.key,.int .i64 x.val,.string x.text]:=by rw [<-Array.toList_inj,e0]
 exact ⟨by rw [this];rfl,h0,h1,h2⟩
def bF:Array Value:= #[.string ⟨#[]⟩,.bool false,.bool false,.slice none 0 0,.int .i64 0,.slice none 0 0]
def aE(p:Part)(S1 S2:Value):Array Value:= #[.string p.core.kind,.bool p.core.on,.bool p.core.broken,S1,.int .i64 p.core.count,S2]
def IM(r:da):Prop:=(0<=r.code/\r.code<=7)/\r.text.size<=100/\r.want=0/\r.had=0
theorem DY{c v:Int}(h:0<=c/\c<=7):IM (rep c v 0 0):=⟨h,by show (⟨#[]⟩:ByteArray).size<=100;decide,rfl,rfl⟩
theorem WW(p:Core)(x:Call):IM (bJ p x).2:=by
 unfold bJ keepD
 (repeat' split)<;>first
  | exact DY (by decide)
  | exact ⟨show (0:Int)<=0/\(0:Int)<=7 by decide,by have:=Xq p.cells;simp only;omega,rfl,rfl⟩
theorem IY: ∀(k:Nat) (p:Part) (x:Call),IM (aA k p x).2
 | 0,p,x=>WW p.core x
 | k+1,p,x=>by
  have ih:=IY k
  rw [aA]
  split
  ·exact DY (by decide)
  split
  ·exact ih _ _
  split
  ·split
   ·exact ih _ _
   ·exact ih _ _
  split
  ·exact DY (by decide)
  split
  ·split
   ·exact ih _ _
   split
   ·exact ih _ _
   ·exact DY (by decide)
  split
  ·exact ih _ _
  split
  ·have:=ih p x
   unfold wO
   simp only
   split
   ·exact this
   ·exact this
  ·exact ih _ _
theorem NX.oU{n:Nat}{P:Program}{E:List (Nat×Value)}{w:World}{fn:Func}{R:Ending->World->Prop}{p u:Tmp}{ty jK:TypeId}{g g2:Nat}{t t2:TypeId}{cs jv:Array Value}{d d2:TypeDesc}(h:fn.results= #[.cell p ty,.cell u jK])(hp:lk E p=some (.pointer (some ⟨g,0,none⟩)))(oG:lk E u=some (.pointer (some ⟨g2,0,none⟩)))
  (hg:aJ w g t cs) (rF:aJ w g2 t2 jv) (hu:P.underlying ty=some d) (kv:P.underlying jK=some d2) (hd:(match d with| .struct _| .array _ _=>true|_=>false)=true) (ji:(match d2 with| .struct _| .array _ _=>true|_=>false)=true)
  (hi:(P.info? ty).map (·.size)=some cs.size) (hi2:(P.info? jK).map (·.size)=some jv.size) (hR:R (.returned (.tuple #[.agg cs,.agg jv])) w):NX n (bodyPost P fn R .ret) E w :=
 fun a hE=>⟨hE.df,_,acg h a.tmps w d d2 (hE.at' p _ hp) hg hu hd hi (hE.at' u _ oG) rF kv ji hi2,hR⟩
theorem za(p:Part){a1 a2:Option Addr}{n1 c1 n2 c2:Nat}: ∀u∈(aE p (.slice a1 n1 c1) (.slice a2 n2 c2)).toList,u.oneCell'=true:=by
 intro u hu
 simp [aE] at hu
 rcases hu with rfl|rfl|rfl|rfl|rfl|rfl<;>rfl
theorem LL(p:Part):fB p<64:=qV p _
theorem gJ:(Tryz.prog.info? 37).bind (·.zero)=some (.agg bF):=by kernel_rfl
theorem aW:(Tryz.prog.info? 37).map (·.size)=some 6:=by kernel_rfl
theorem J4(a b c:Int):uU Tryz.prog 39 [(0,.int .i64 a),(3,.int .i64 b),(4,.int .i64 c)]=some (dV (rep a 0 b c)):=by kernel_rfl
theorem V6:iy Tryz.prog 35=true:=by kernel_rfl
theorem Wa:iy Tryz.prog 36=true:=by kernel_rfl
theorem V9:iy Tryz.prog 37=true:=by kernel_rfl
theorem V8:iy Tryz.prog 38=true:=by kernel_rfl
theorem Wc:iy Tryz.prog 39=true:=by kernel_rfl
theorem Wb:iy Tryz.prog 40=true:=by kernel_rfl
theorem PB.made{wa v5 w6:World}{M:Addr->Prop}{p:Part}{S1 S2:Value}(hG:kf wa M)(hb:Below wa.heap.size wa v5)(hr1:R v5 (fun _=>False) (aN p.core.cells) S1)(hr2:R v5 (fun _=>False) (aN p.af) S2)(hl1:qI wa.heap.size v5 S1 2)(fD:qI wa.heap.size v5 S2 2)(hap:BZ S1 S2)
  (hks:p.core.kind.size<=maxLen) (hct:IntKind.i64.min<=p.core.count/\p.core.count<=IntKind.i64.max) (hR:aJ w6 v5.heap.size 37 (aE p S1 S2)) (hB:Below v5.heap.size v5 w6) (hz:v5.heap.size<w6.heap.size) :
  PB (fun b=>wa.heap.size<=b/\b<w6.heap.size) w6 v5.heap.size S2 p/\cu (fun b=>wa.heap.size<=b/\b<w6.heap.size) w6 v5.heap.size S1 (cS p.core.cells)/\(∀b,bi S1 b-> ¬bi S2 b):=by
 have YM:R v5 (fun _=>False) (.sl ((cS p.core.cells).map jV)) S1:=by rw [wo];exact hr1
 have YN:R v5 (fun _=>False) (.sl ((fR p.af).map jV)) S2:=by rw [Bz];exact hr2
 have q1:=cu.of (K:=fun b=>wa.heap.size<=b/\b<v5.heap.size) (g:=v5.heap.size) YM hl1 (fun b h1 h2=>⟨h1,h2⟩) (fun b h1 h2=>by omega)
 have q2:=cu.of (K:=fun b=>wa.heap.size<=b/\b<v5.heap.size) (g:=v5.heap.size) YN fD (fun b h1 h2=>⟨h1,h2⟩) (fun b h1 h2=>by omega)
 have k1:cu (fun b=>wa.heap.size<=b/\b<w6.heap.size) w6 v5.heap.size S1 (cS p.core.cells):=q1.keep (fun b ho=>hB.block b (q1.out ho).2.2) fun b h=>⟨h.1,by have:=h.2;omega⟩
 have k2:cu (fun b=>wa.heap.size<=b/\b<w6.heap.size) w6 v5.heap.size S2 (fR p.af):=q2.keep (fun b ho=>hB.block b (q2.out ho).2.2) fun b h=>⟨h.1,by have:=h.2;omega⟩
 have ha: ∀b,bi S1 b-> ¬bi S2 b:=fun b ⟨o,s,len,cap,e,hc⟩ ⟨o',s',len',cap',e',hc'⟩=>hap b o s len cap b o' s' len' cap' e hc e' hc' rfl
 have ep:Below wa.heap.size wa w6:=bt hb hB
 exact ⟨⟨⟨hG.2.1.keep fun k hk=>ep.block k (Nat.lt_of_lt_of_le hk hG.2.2),Nat.le_trans hG.2.2 ep.size⟩,fun b h=>⟨Nat.le_trans hG.2.2 h.1,h.2⟩,⟨hb.size,hz⟩,⟨S1,hR,k1,ha⟩,k2,hks,hct⟩,k1,ha⟩
theorem Cv{g0:Nat}{w wi wj wk:World}{M:Addr->Prop}{K:Nat->Prop}{g:Nat}{S1 S2:Value}{p:Part}{r:da}{b2 b3:Nat}(hM: ∀q,M q->q.block<w.heap.size)(hB:Below w.heap.size w wi)(h1:cu K wi g S1 (cS p.core.cells))(h2:cu K wi g S2 (fR p.af))(ha: ∀b,bi S1 b-> ¬bi S2 b)
  (hks:p.core.kind.size<=maxLen) (hct:IntKind.i64.min<=p.core.count/\p.core.count<=IntKind.i64.max) (hK: ∀b,K b->w.heap.size<=b) (o2:gx wi wj b2) (o3:gx wj wk b3) (n2: ¬K b2) (n3: ¬K b3) (hb2:w.heap.size<=b2) (hb3:w.heap.size<=b3) (hr:R wk (fun _=>True) (enc r) (rY r)) :
  ∃v,Ending.returned (.tuple #[.agg (aE p S1 S2),.agg (dV r)])= .returned v/\R wk (fun q=>M q\/iK v [(3,2),(5,2)] q) (.aC [enc p,enc r]) v/\Fr w.heap.size (Option.map (fun _=>g0) (none:Option (List D))) w wk/\uM w.heap.size wk v [(3,2),(5,2)] /\
   ((none:Option (List D)).isSome=true-> ∃us T,wk.heap[g0]? =some (.cells us.toArray T (0,0))/\Rs wk (fun q=>M q\/iK v [(3,2),(5,2)] q) [] us):=by
 have keep: ∀{S:Value} {l:List (ByteArray×Int)},cu K wi g S l->cu K wk g S l:=fun {S l} h=>h.keep (fun b ho=>by
  have hk:=(h.out ho).1
  exact (o3.block b (fun e=>n3 (e▸hk))).trans (o2.block b (fun e=>n2 (e▸hk)))) fun _ h=>h
 obtain ⟨q1,q2⟩:=PB.give (B:=w.heap.size) (M:=M) (keep h1) (keep h2) ha hks hct hK hM hr rfl
 have hbk:Below w.heap.size w wk:=⟨o3.os.trans (o2.os.trans hB.os),o3.tape.trans (o2.tape.trans hB.tape),o3.output.trans (o2.output.trans hB.output),by rw [o3.size,o2.size];exact hB.size,fun i hi=>(o3.block i (by omega)).trans ((o2.block i (by omega)).trans (hB.block i hi))⟩
 exact ⟨_,rfl,q1,Fr.pJ hbk (Nat.le_refl _),q2,fun h=>by cases h⟩
set_option maxHeartbeats 4000000 in
theorem adT(XU: ∀k,xd k)(p:Part)(x:Call)(hc:p.core.cells.length<=4294967296)(hl:p.af.length<=4294967296)(hx:x.text.size<4294967281):cM Tryz.prog 10 none [enc p,enc x] (.aC [enc (cW p x).1,enc (cW p x).2]) [] [(3,2),(5,2)]:=by
 refine ⟨by kernel_rfl,fun w M g0 vs hM hr _=> ?_⟩
 obtain ⟨vp,q,rfl,hp,vx,q',rfl,yL,rfl⟩:=hr
 obtain ⟨GW,hxm,hxk,mM⟩:=Kw yL
 subst GW
 have hfits:ni x:=⟨hxm,hxk,mM,hx⟩
 obtain ⟨S1,S2,GV, -, -,hks,hct⟩:=rW hp
 have HW:=show Below w.heap.size w ((((w.alloc (.cells (aE p S1 S2) 37)).alloc (.cells #[.string x.method,.string x.key,.int .i64 x.val,.string x.text] 43)).alloc (.cells bF 37)).alloc (.cells aY 39)) by go_grown
 have hsz:((((w.alloc (.cells (aE p S1 S2) 37)).alloc (.cells #[.string x.method,.string x.key,.int .i64 x.val,.string x.text] 43)).alloc (.cells bF 37)).alloc (.cells aY 39)).heap.size=w.heap.size+1+1+1+1:=by simp only [World.size_alloc]
 have p0:=show aJ ((((w.alloc (.cells (aE p S1 S2) 37)).alloc (.cells #[.string x.method,.string x.key,.int .i64 x.val,.string x.text] 43)).alloc (.cells bF 37)).alloc (.cells aY 39)) w.heap.size 37 (aE p S1 S2) from (((aJ.new w _ _).alloc _).alloc _).alloc _
 have p1:=show aJ ((((w.alloc (.cells (aE p S1 S2) 37)).alloc (.cells #[.string x.method,.string x.key,.int .i64 x.val,.string x.text] 43)).alloc (.cells bF 37)).alloc (.cells aY 39)) (w.heap.size+1) 43 #[.string x.method,.string x.key,.int .i64 x.val,.string x.text] by
  have:=(aJ.new (w.alloc (.cells (aE p S1 S2) 37)) 43 #[.string x.method,.string x.key,.int .i64 x.val,.string x.text]);simp only [World.size_alloc] at this;exact (this.alloc _).alloc _
 have p2:=show aJ ((((w.alloc (.cells (aE p S1 S2) 37)).alloc (.cells #[.string x.method,.string x.key,.int .i64 x.val,.string x.text] 43)).alloc (.cells bF 37)).alloc (.cells aY 39)) (w.heap.size+1+1) 37 bF by
  have:=(aJ.new ((w.alloc (.cells (aE p S1 S2) 37)).alloc (.cells #[.string x.method,.string x.key,.int .i64 x.val,.string x.text] 43)) 37 bF);simp only [World.size_alloc] at this;exact this.alloc _
 have p3:=show aJ ((((w.alloc (.cells (aE p S1 S2) 37)).alloc (.cells #[.string x.method,.string x.key,.int .i64 x.val,.string x.text] 43)).alloc (.cells bF 37)).alloc (.cells aY 39)) (w.heap.size+1+1+1) 39 aY by
  have:=(aJ.new (((w.alloc (.cells (aE p S1 S2) 37)).alloc (.cells #[.string x.method,.string x.key,.int .i64 x.val,.string x.text] 43)).alloc (.cells bF 37)) 39 aY);simp only [World.size_alloc] at this;exact this
 have ud:=R.keep (bb.below (M':=M) HW fun _ _ h=>h) _ _ hp
 have hxa:=R.keep (bb.below (M':=M) HW fun _ _ h=>h) _ _ yL
 have pd:=hM.below HW (M':=M) fun q hq=>Nat.lt_of_lt_of_le (hM.1 q hq) HW.size
 subst GV
 refine qc (E:=[(0,.agg (aE p S1 S2)),(1,dL x)]) Tryz.func10 rfl Tryz.ntmps10 (by simp) (by simp [aE]) ?_
 refine CW.seq (CW.region ?_)
 refine WL.vv rfl rfl (jH rfl rfl) (by decide) ?_
 refine WL.vv rfl rfl (jH rfl rfl) (by decide) ?_
 refine WL.vv rfl rfl (cJ rfl gJ) (by decide) ?_
 refine WL.vv rfl rfl (cJ rfl gK) (by decide) ?_
 refine WL.nil (NX.next ?_)
 show CW _ Tryz.prog _ _ _ ((((w.alloc (.cells (aE p S1 S2) 37)).alloc (.cells #[.string x.method,.string x.key,.int .i64 x.val,.string x.text] 43)).alloc (.cells bF 37)).alloc (.cells aY 39))
 refine CW.sub (E':=[(2,.pointer (some ⟨w.heap.size,0,none⟩)),(3,.pointer (some ⟨w.heap.size+1,0,none⟩)),(4,.pointer (some ⟨w.heap.size+1+1,0,none⟩)),(5,.pointer (some ⟨w.heap.size+1+1+1,0,none⟩))]) ⟨rfl,by simp only [World.size_alloc];rfl,by simp only [World.size_alloc];rfl,by simp only [World.size_alloc];rfl,trivial⟩ ?_
 generalize ((((w.alloc (.cells (aE p S1 S2) 37)).alloc (.cells #[.string x.method,.string x.key,.int .i64 x.val,.string x.text] 43)).alloc (.cells bF 37)).alloc (.cells aY 39))=wa at HW hsz p0 p1 p2 p3 ud hxa pd ⊢
 refine CW.seq (CW.region ?_)
 refine WL.vv rfl rfl (bz rfl rfl Tryz.underlying37 rfl p0 aW) (by decide) ?_
 refine WL.c rfl rfl (bT (args:= #[.agg (aE p S1 S2)]) V6 rfl rfl rfl) (by decide) ((Kg p hc hl).2 wa M 0 [.agg (aE p S1 S2)] pd ⟨_,[],rfl,ud,rfl⟩ (fun cs h=>by cases h)) ?_
 rintro _ v5 ⟨v,rfl,hv,eu,dw, -⟩
 obtain ⟨T1,T2,rfl,ym,tN, -, -⟩:=rW hv
 refine ⟨_,rfl,?_⟩
 have hb5:=eu.jI
 obtain ⟨⟨a1,n1,c1,e1⟩,⟨a2,m2,c2,e2⟩⟩:(∃a n c,T1= .slice a n c)/\(∃a c m,T2= .slice a c m):=by
  obtain ⟨a,n,c,e,_⟩:=ym
  obtain ⟨a',n',c',e',_⟩:=tN
  exact ⟨⟨a,n,c,e⟩,⟨a',n',c',e'⟩⟩
 have hn2:m2=p.af.length:=by
  obtain ⟨a',n',c',e',h,_⟩:=tN
  rw [e2] at e'
  simp only [Value.slice.injEq] at e'
  rw [e'.2.1,h];simp [aN]
 have hone:=za p (a1:=a1) (n1:=n1) (c1:=c1) (a2:=a2) (n2:=m2) (c2:=c2)
 rw [<-e1, <-e2] at hone
 subst hn2
 refine WL.vv rfl rfl (cJ rfl gJ) (by decide) ?_
 refine WL.st rfl rfl rfl rfl (cs:=aE p T1 T2) rfl (show aJ (v5.alloc (.cells bF 37)) v5.heap.size 37 bF from aJ.new v5 _ _) rfl hone aW fun w6 R6 O6=> ?_
 have xX:Below v5.heap.size v5 w6:=qa O6
 have DB:v5.heap.size<w6.heap.size:=R6.lt
 have hf: ∀(S:Value) (d:D),R v5 (fun q=>M q\/iK (.agg (aE p T1 T2)) [(3,2),(5,2)] q) d S->R v5 (fun _=>False) d S:=fun S d h=>R.less h fun _ h=>h.elim
 obtain ⟨H6,k1,ha⟩:=PB.made pd hb5 (hf _ _ ym) (hf _ _ tN) (dw.1 (3,2) (by simp)) (dw.1 (5,2) (by simp)) (dw.2 0 1 (3,2) (5,2) rfl rfl (by simp)) hks hct R6 xX DB
 have ep:Below wa.heap.size wa w6:=bt hb5 xX
 replace p0:=p0.below ep p0.lt
 replace p1:=p1.below ep p1.lt
 replace p2:=p2.below ep p2.lt
 replace p3:=p3.below ep p3.lt
 have dM:=R.keep (bb.below (M':=M) ep fun _ _ h=>h) _ _ ud
 have hxb:=R.keep (bb.below (M':=M) ep fun _ _ h=>h) _ _ hxa
 have cH:=pd.below ep (M':=M) fun q hq=>Nat.lt_of_lt_of_le (pd.1 q hq) ep.size
 have hBw:Below w.heap.size w w6:=bt HW ep
 refine WL.nil (NX.next ?_)
 generalize v5.heap.size=g at *
 refine CW.sub (E':=[(2,.pointer (some ⟨w.heap.size,0,none⟩)),(3,.pointer (some ⟨w.heap.size+1,0,none⟩)),(4,.pointer (some ⟨w.heap.size+1+1,0,none⟩)),(5,.pointer (some ⟨w.heap.size+1+1+1,0,none⟩)),(6,.pointer (some ⟨g,0,none⟩))]) ⟨rfl,rfl,rfl,rfl,rfl,trivial⟩ ?_
 have hK: ∀b,(wa.heap.size<=b/\b<w6.heap.size)->w.heap.size<=b:=fun b h=>by have:=HW.size;omega
 have n2: ¬(wa.heap.size<=w.heap.size+1+1/\w.heap.size+1+1<w6.heap.size):=by omega
 have n3: ¬(wa.heap.size<=w.heap.size+1+1+1/\w.heap.size+1+1+1<w6.heap.size):=by omega
 clear xX DB hf ym tN hv dw eu hb5 O6 ud hxa hp yL
 refine CW.seq (CW.seq (CW.region ?_))
 refine WL.vv rfl rfl (bz rfl rfl Tryz.underlying37 rfl p0 aW) (by decide) ?_
 refine WL.c rfl rfl (bT (args:= #[.agg (aE p S1 S2)]) Wa rfl rfl rfl) (by decide) ((Vk p).calls (M:=M) cH ⟨_,[],rfl,dM,rfl⟩) ?_
 rintro _ w7 ⟨v,rfl,hv,iM⟩
 obtain ⟨rfl,rM⟩:v= .bool (eV p)/\True:=⟨hv,trivial⟩
 refine ⟨_,rfl,?_⟩
 replace p0:=p0.below iM p0.lt
 replace p1:=p1.below iM p1.lt
 replace p2:=p2.below iM p2.lt
 replace p3:=p3.below iM p3.lt
 replace R6:=R6.below iM R6.lt
 replace dM:=R.keep (bb.below (M':=M) iM fun _ _ h=>h) _ _ dM
 replace hxb:=R.keep (bb.below (M':=M) iM fun _ _ h=>h) _ _ hxb
 replace cH:=cH.below iM (M':=M) fun q hq=>Nat.lt_of_lt_of_le (cH.1 q hq) iM.size
 replace hBw:=bt hBw iM
 replace k1:=k1.keep (fun b ho=>iM.block b (k1.out ho).2.2) fun _ h=>h
 replace H6:=H6.below iM
 clear hv rM
 refine WL.vv rfl rfl (wu rfl rfl) (by decide) ?_
 refine WL.vv rfl rfl (aU rfl rfl) (by decide) ?_
 cases qk:eV p with
 | false =>
  refine WL.no (b:=true) rfl rfl rfl rfl (by decide) ?_
  refine WL.no (b:=true) rfl rfl rfl rfl (by decide) ?_
  refine WL.no (b:=true) rfl rfl rfl rfl (by decide) ?_
  refine WL.vv rfl rfl (wz rfl rfl rfl) (by decide) ?_
  refine WL.nil (NX.next (CW.yes rfl ?_))
  refine CW.seq (CW.region ?_)
  refine WL.vv rfl rfl (bz rfl rfl Tryz.underlying37 rfl R6 aW) (by decide) ?_
  refine WL.vv rfl rfl (jn (vs:=[(0,.int .i64 7)]) rfl rfl (xw 7)) (by decide) ?_
  refine WL.st rfl rfl rfl rfl rfl p2 rfl hone aW fun wj Rj Oj=> ?_
  refine WL.st rfl rfl rfl rfl rfl (show aJ wj (w.heap.size+1+1+1) 39 aY from (Oj.block _ (by omega)).trans p3) rfl (cX _) bn fun wk Rk Ok=> ?_
  refine WL.nil (NX.next (CW.ret ?_))
  have e:cW p x=(p,rep 7 0 0 0):=by unfold cW;rw [if_pos (.inl qk)]
  rw [e]
  exact NX.ret (NX.oU rfl rfl rfl (show aJ wk (w.heap.size+1+1) 37 (aE p T1 T2) from (Ok.block _ (by omega)).trans Rj) Rk Tryz.underlying37 Tryz.underlying39 rfl rfl aW bn (Cv (fun q hq=>hM.1 q hq) hBw k1 H6.ly ha hks hct hK Oj Ok n2 n3 (by omega) (by omega) (uk (r:=rep 7 0 0 0) (show IntKind.i64.min<=(7:Int)/\(7:Int)<=IntKind.i64.max by decide) (show IntKind.i64.min<=(0:Int)/\(0:Int)<=IntKind.i64.max by decide) (show (⟨#[]⟩:ByteArray).size<=maxLen by unfold maxLen;decide) (show IntKind.i64.min<=(0:Int)/\(0:Int)<=IntKind.i64.max by decide) (show IntKind.i64.min<=(0:Int)/\(0:Int)<=IntKind.i64.max by decide))))
 | true =>
  refine WL.vg (b:=false) rfl rfl rfl rfl (bz rfl rfl Tryz.underlying43 rfl p1 kA) (by decide) ?_
  refine WL.cg (b:=false) rfl rfl rfl rfl (bT (args:= #[dL x]) V9 rfl rfl rfl) (by decide) ((Vi x).calls (M:=M) cH ⟨_,[],rfl,hxb,rfl⟩) ?_
  rintro _ w8 ⟨v,rfl,hv,iN⟩
  obtain ⟨rfl,rM⟩:v= .bool (ek x)/\True:=⟨hv,trivial⟩
  refine ⟨_,rfl,?_⟩
  replace p0:=p0.below iN p0.lt
  replace p1:=p1.below iN p1.lt
  replace p2:=p2.below iN p2.lt
  replace p3:=p3.below iN p3.lt
  replace R6:=R6.below iN R6.lt
  replace dM:=R.keep (bb.below (M':=M) iN fun _ _ h=>h) _ _ dM
  replace hxb:=R.keep (bb.below (M':=M) iN fun _ _ h=>h) _ _ hxb
  replace cH:=cH.below iN (M':=M) fun q hq=>Nat.lt_of_lt_of_le (cH.1 q hq) iN.size
  replace hBw:=bt hBw iN
  replace k1:=k1.keep (fun b ho=>iN.block b (k1.out ho).2.2) fun _ h=>h
  replace H6:=H6.below iN
  clear hv rM
  refine WL.vg (b:=false) rfl rfl rfl rfl (wu rfl rfl) (by decide) ?_
  refine WL.vv rfl rfl (pM rfl rfl rfl) (by decide) ?_
  cases hcc:ek x with
  | false =>
   refine WL.nil (NX.next (CW.yes rfl ?_))
   refine CW.seq (CW.region ?_)
   refine WL.vv rfl rfl (bz rfl rfl Tryz.underlying37 rfl R6 aW) (by decide) ?_
   refine WL.vv rfl rfl (jn (vs:=[(0,.int .i64 7)]) rfl rfl (xw 7)) (by decide) ?_
   refine WL.st rfl rfl rfl rfl rfl p2 rfl hone aW fun wj Rj Oj=> ?_
   refine WL.st rfl rfl rfl rfl rfl (show aJ wj (w.heap.size+1+1+1) 39 aY from (Oj.block _ (by omega)).trans p3) rfl (cX _) bn fun wk Rk Ok=> ?_
   refine WL.nil (NX.next (CW.ret ?_))
   have e:cW p x=(p,rep 7 0 0 0):=by unfold cW;rw [if_pos (.inr hcc)]
   rw [e]
   exact NX.ret (NX.oU rfl rfl rfl (show aJ wk (w.heap.size+1+1) 37 (aE p T1 T2) from (Ok.block _ (by omega)).trans Rj) Rk Tryz.underlying37 Tryz.underlying39 rfl rfl aW bn (Cv (fun q hq=>hM.1 q hq) hBw k1 H6.ly ha hks hct hK Oj Ok n2 n3 (by omega) (by omega) (uk (r:=rep 7 0 0 0) (show IntKind.i64.min<=(7:Int)/\(7:Int)<=IntKind.i64.max by decide) (show IntKind.i64.min<=(0:Int)/\(0:Int)<=IntKind.i64.max by decide) (show (⟨#[]⟩:ByteArray).size<=maxLen by unfold maxLen;decide) (show IntKind.i64.min<=(0:Int)/\(0:Int)<=IntKind.i64.max by decide) (show IntKind.i64.min<=(0:Int)/\(0:Int)<=IntKind.i64.max by decide))))
  | true =>
   refine WL.nil (NX.next (CW.no rfl (CW.skip (NX.next ?_))))
   refine CW.seq (CW.region ?_)
   refine WL.vv rfl rfl (bz rfl rfl Tryz.underlying37 rfl p0 aW) (by decide) ?_
   refine WL.c rfl rfl (bT (args:= #[.agg (aE p S1 S2)]) V8 rfl rfl rfl) (by decide) ((Vg p).calls (M:=M) cH ⟨_,[],rfl,dM,rfl⟩) ?_
   rintro _ w9 ⟨v,rfl,hv,ig⟩
   obtain ⟨rfl,rM⟩:v= .int .i64 (fB p)/\True:=⟨hv.1,trivial⟩
   refine ⟨_,rfl,?_⟩
   replace p0:=p0.below ig p0.lt
   replace p1:=p1.below ig p1.lt
   replace p2:=p2.below ig p2.lt
   replace p3:=p3.below ig p3.lt
   replace R6:=R6.below ig R6.lt
   replace dM:=R.keep (bb.below (M':=M) ig fun _ _ h=>h) _ _ dM
   replace hxb:=R.keep (bb.below (M':=M) ig fun _ _ h=>h) _ _ hxb
   replace cH:=cH.below ig (M':=M) fun q hq=>Nat.lt_of_lt_of_le (cH.1 q hq) ig.size
   replace hBw:=bt hBw ig
   replace k1:=k1.keep (fun b ho=>ig.block b (k1.out ho).2.2) fun _ h=>h
   replace H6:=H6.below ig
   clear hv rM
   refine WL.vv rfl rfl (cq rfl rfl) (by decide) ?_
   refine WL.nil (NX.next ?_)
   refine CW.seq (CW.seq (CW.region ?_))
   refine WL.vv rfl rfl (cO rfl rfl mA) (by decide) ?_
   refine WL.vv rfl rfl (cr rfl rfl Tryz.underlying9 rfl (p1.cell 0)) (by decide) ?_
   have Ba:IntKind.i64.min<=bI x.method/\bI x.method<=IntKind.i64.max:=by
    obtain ⟨j,ew,_⟩:=Bp (xy hcc)
    rw [ew]
    have: ∀j:Fin 6,IntKind.i64.min<=((2^j.val:Nat):Int)/\((2^j.val:Nat):Int)<=IntKind.i64.max:=by decide
    exact this j
   refine WL.c rfl rfl (bT (args:= #[.string x.method]) Wc rfl rfl rfl) (by decide) ((Vo x.method).calls (M:=M) cH ⟨_,[],rfl,⟨rfl,hxm⟩,rfl⟩) ?_
   rintro _ fJ ⟨v,rfl,hv,gW⟩
   obtain ⟨rfl,rM⟩:v= .int .i64 (bI x.method)/\True:=⟨hv.1,trivial⟩
   refine ⟨_,rfl,?_⟩
   replace p0:=p0.below gW p0.lt
   replace p1:=p1.below gW p1.lt
   replace p2:=p2.below gW p2.lt
   replace p3:=p3.below gW p3.lt
   replace R6:=R6.below gW R6.lt
   replace dM:=R.keep (bb.below (M':=M) gW fun _ _ h=>h) _ _ dM
   replace hxb:=R.keep (bb.below (M':=M) gW fun _ _ h=>h) _ _ hxb
   replace cH:=cH.below gW (M':=M) fun q hq=>Nat.lt_of_lt_of_le (cH.1 q hq) gW.size
   replace hBw:=bt hBw gW
   replace k1:=k1.keep (fun b ho=>gW.block b (k1.out ho).2.2) fun _ h=>h
   replace H6:=H6.below gW
   clear hv rM
   refine WL.vv rfl rfl (cq rfl rfl) (by decide) ?_
   refine WL.nil (NX.next ?_)
   refine CW.seq (CW.region ?_)
   refine WL.vv rfl rfl (aU rfl rfl) (by decide) ?_
   refine WL.vv rfl rfl (aU rfl rfl) (by decide) ?_
   have hfl:IntKind.i64.min<=((fB p:Nat):Int)/\((fB p:Nat):Int)<=IntKind.i64.max:=by
    have:=LL p
    have e1:IntKind.i64.min= -9223372036854775808/\IntKind.i64.max=9223372036854775807:=by decide
    rw [e1.1,e1.2];omega
   refine WL.c rfl rfl (bT (args:= #[.int .i64 (fB p),.int .i64 (bI x.method)]) Wb rfl rfl rfl) (by decide) ((Kf (fB p) (bI x.method)).calls (M:=M) cH ⟨_,_,rfl,⟨rfl,hfl⟩,_,[],rfl,⟨rfl,Ba⟩,rfl⟩) ?_
   rintro _ pS ⟨v,rfl,hv,gX⟩
   obtain ⟨rfl,rM⟩:v= .bool (cK (fB p) (bI x.method))/\True:=⟨hv,trivial⟩
   refine ⟨_,rfl,?_⟩
   replace p0:=p0.below gX p0.lt
   replace p1:=p1.below gX p1.lt
   replace p2:=p2.below gX p2.lt
   replace p3:=p3.below gX p3.lt
   replace R6:=R6.below gX R6.lt
   replace dM:=R.keep (bb.below (M':=M) gX fun _ _ h=>h) _ _ dM
   replace hxb:=R.keep (bb.below (M':=M) gX fun _ _ h=>h) _ _ hxb
   replace cH:=cH.below gX (M':=M) fun q hq=>Nat.lt_of_lt_of_le (cH.1 q hq) gX.size
   replace hBw:=bt hBw gX
   replace k1:=k1.keep (fun b ho=>gX.block b (k1.out ho).2.2) fun _ h=>h
   replace H6:=H6.below gX
   clear hv rM
   refine WL.vv rfl rfl (wu rfl rfl) (by decide) ?_
   cases uc:cK (fB p) (bI x.method) with
   | false =>
    refine WL.nil (NX.next (CW.yes rfl ?_))
    refine CW.seq (CW.region ?_)
    refine WL.vv rfl rfl (bz rfl rfl Tryz.underlying37 rfl R6 aW) (by decide) ?_
    refine WL.vv rfl rfl (aU rfl rfl) (by decide) ?_
    refine WL.vv rfl rfl (aU rfl rfl) (by decide) ?_
    refine WL.vv rfl rfl (jn (vs:=[(0,.int .i64 1),(3,.int .i64 (bI x.method)),(4,.int .i64 (fB p))]) rfl rfl (J4 1 _ _)) (by decide) ?_
    refine WL.st rfl rfl rfl rfl rfl p2 rfl hone aW fun wj Rj Oj=> ?_
    refine WL.st rfl rfl rfl rfl rfl (show aJ wj (w.heap.size+1+1+1) 39 aY from (Oj.block _ (by omega)).trans p3) rfl (cX _) bn fun wk Rk Ok=> ?_
    refine WL.nil (NX.next (CW.ret ?_))
    have e:cW p x=(p,rep 1 0 (bI x.method) (fB p)):=by unfold cW;rw [if_neg (by simp [qk,hcc]),if_pos uc]
    rw [e]
    exact NX.ret (NX.oU rfl rfl rfl (show aJ wk (w.heap.size+1+1) 37 (aE p T1 T2) from (Ok.block _ (by omega)).trans Rj) Rk Tryz.underlying37 Tryz.underlying39 rfl rfl aW bn (Cv (fun q hq=>hM.1 q hq) hBw k1 H6.ly ha hks hct hK Oj Ok n2 n3 (by omega) (by omega) (uk (r:=rep 1 0 (bI x.method) (fB p)) (show IntKind.i64.min<=(1:Int)/\(1:Int)<=IntKind.i64.max by decide) (show IntKind.i64.min<=(0:Int)/\(0:Int)<=IntKind.i64.max by decide) (show (⟨#[]⟩:ByteArray).size<=maxLen by unfold maxLen;decide) Ba hfl)))
   | true =>
    refine WL.nil (NX.next (CW.no rfl (CW.skip (NX.next ?_))))
    refine CW.seq (CW.region ?_)
    refine WL.vv rfl rfl (cO rfl rfl oZ) (by decide) ?_
    refine WL.vv rfl rfl (cr rfl rfl Tryz.underlying35 rfl (v:= .slice a2 p.af.length c2) (by rw [<-e2];exact R6.cell 5)) (by decide) ?_
    refine WL.vv rfl rfl (Pn rfl rfl rfl rfl Tryz.underlying35 rfl) (by decide) ?_
    refine WL.vv rfl rfl (bz rfl rfl Tryz.underlying43 rfl p1 kA) (by decide) ?_
    refine WL.c rfl rfl (bT (args:= #[.pointer (some ⟨g,0,none⟩),.int .i64 ((p.af.length:Nat):Int),dL x]) xx rfl rfl rfl) (by decide) (XU p.af.length _ _ _ _ p x H6 hfits (Nat.le_refl _)) ?_
    rintro _ v7 ⟨rfl,Dr,nM⟩
    refine ⟨_,rfl,?_⟩
    have q2:=p2.bV nM n2
    have q3:=p3.bV nM n3
    have XL:Below w.heap.size w v7:=⟨nM.os.trans hBw.os,nM.tape.trans hBw.tape,nM.output.trans hBw.output,Nat.le_trans hBw.size nM.size,fun i hi=>(nM.block i (Nat.lt_of_lt_of_le hi hBw.size) (fun hk=>by have:=hK i hk;omega)).trans (hBw.block i hi)⟩
    refine WL.vv rfl rfl (cJ rfl gK) (by decide) ?_
    refine WL.st rfl rfl rfl rfl rfl (show aJ (v7.alloc (.cells aY 39)) v7.heap.size 39 aY from aJ.new v7 _ _) rfl (cX _) bn fun w8 R8 O8=> ?_
    have B8:Below v7.heap.size v7 w8:=qa O8
    have H8:=Dr.below B8
    replace q2:=q2.below B8 q2.lt
    replace q3:=q3.below B8 q3.lt
    have F6:=bt XL B8
    refine WL.nil (NX.next ?_)
    obtain ⟨U1,hU,Av,XW⟩:=H8.bx
    have YI: ∀u∈(aE (aA p.af.length p x).1 U1 T2).toList,u.oneCell'=true:=by
     obtain ⟨a',c',e',_⟩:=Av.qt
     rw [e',e2];exact za _
    have hgk:=H8.kg
    have hz7:w.heap.size+1+1+1<v7.heap.size:=by have:=p3.lt;have:=nM.size;omega
    have rF:g≠w.heap.size+1+1:=fun e=>n2 (e▸H6.kg)
    refine CW.seq (CW.any (fun W=>aJ W g 37 (aE (aA p.af.length p x).1 U1 T2)/\aJ W v7.heap.size 39 (dV (aA p.af.length p x).2)) 3 mo fun wd hwd cy=>⟨⟨hU.below cy hU.lt,R8.below cy R8.lt⟩,?_⟩)
    replace H8:=H8.below cy
    replace Av:=Av.keep (fun b ho=>cy.block b (Av.out ho).2.2) fun _ h=>h
    replace q2:=q2.below cy q2.lt
    replace q3:=q3.below cy q3.lt
    replace R8:=R8.below cy R8.lt
    replace hU:=hU.below cy hU.lt
    replace F6:=bt F6 cy
    refine AU.tk 0 rfl (by kernel_rfl) (fun _ _ _ h=>h) rfl rfl (fun W hW=>bz rfl rfl Tryz.underlying37 rfl hW.1 aW) (by decide) ⟨hU,R8⟩ ?_
    refine AU.tk 1 rfl (by kernel_rfl) (fun _ _ _ h=>h) rfl rfl (fun W hW=>bz rfl rfl Tryz.underlying39 rfl hW.2 bn) (by decide) ⟨hU,R8⟩ ?_
    refine AU.st 2 rfl (by kernel_rfl) rfl rfl rfl rfl rfl q2 rfl YI aW (fun w' ho _=>⟨(ho.block _ rF).trans hU,(ho.block _ (by omega)).trans R8⟩) fun wj Rj Oj=> ?_
    refine AU.st 3 rfl (by kernel_rfl) rfl rfl rfl rfl rfl (show aJ wj (w.heap.size+1+1+1) 39 aY from (Oj.block _ (by omega)).trans q3) rfl (cX _) bn (fun _ _ h=>absurd rfl h) fun wk Rk Ok=> ?_
    refine AU.done (by kernel_rfl) (NX.next (CW.ret ?_))
    have e:cW p x=aA p.af.length p x:=by unfold cW;rw [if_neg (by simp [qk,hcc]),if_neg (by simp [uc])]
    rw [e]
    obtain ⟨_,_,_,_,v0,v9⟩:=pQ p.af.length p x qk (Nat.le_refl _) hcc uc
    obtain ⟨⟨s0,s7⟩,s1,s2,s3⟩:=IY p.af.length p x
    have e1:IntKind.i64.min= -9223372036854775808/\IntKind.i64.max=9223372036854775807:=by decide
    exact NX.oU rfl rfl rfl (show aJ wk (w.heap.size+1+1) 37 (aE (aA p.af.length p x).1 U1 T2) from (Ok.block _ (by omega)).trans Rj) Rk Tryz.underlying37 Tryz.underlying39 rfl rfl aW bn (Cv (K:=Gr (fun b=>wa.heap.size<=b/\b<w6.heap.size) pS v7) (fun q hq=>hM.1 q hq) F6 Av H8.ly XW H8.ks H8.ct (fun b hb=>by rcases hb with hb|hb;exact hK b hb;have:=hBw.size;omega) Oj Ok (fun q=>by rcases q with q|q;exact n2 q;have:=p2.lt;omega) (fun q=>by rcases q with q|q;exact n3 q;have:=p3.lt;omega) (by omega) (by omega) (uk (by rw [e1.1,e1.2];omega) (by rw [e1.1,e1.2];omega) (by unfold maxLen;omega) (by rw [s2];decide) (by rw [s3];decide)))
end
section
open Go.RowKit
variable [GC]
end
section
open Go.RowKit Go
variable [GC]
end
section
open Go.RowKit Go
variable [GC]
def G7(r:D):Prop:= ∃s:ByteArray,r= .str s
end
section
open Go.RowKit Go
variable [GC]
theorem J0: ∀{a b c:List UInt8},Op.bytesLess a b=true->Op.bytesLess b c=true->Op.bytesLess a c=true
 | _,[],_,h,_=>by simp [Op.bytesLess] at h
 | _,_::_,[],_,h=>by simp [Op.bytesLess] at h
 | [],_::_,_::_,_,_=>by simp [Op.bytesLess]
 | x::a,y::b,z::c,h1,h2=>by
  have ih:= @J0 a b c
  simp only [Op.bytesLess,Bool.or_eq_true,Bool.and_eq_true,decide_eq_true_eq,beq_iff_eq] at h1 h2 ⊢
  grind
theorem LN{p:Nat->Bool}: ∀{n:Nat},jP p n=none-> ∀i,i<n->p i=false
 | 0,_,i,hi=>by omega
 | n+1,h,i,hi=>by
  simp only [jP] at h
  split at h
  ·cases h
  ·rename_i h1
   split at h
   ·cases h
   ·rename_i h2
    rcases Nat.lt_or_ge i n with h3|h3
    ·exact LN h1 i h3
    ·obtain rfl:i=n:=by omega
     simpa using h2
theorem Og{a b c:ByteArray}(h1:gj a b=true)(h2:gj b c=true):gj a c=true:=J0 h1 h2
theorem Bo(a:ByteArray):gj a a=false:=by
 cases h:gj a a with
 | false=>rfl
 | true=>have:=ltA h;rw [h] at this;cases this
def Cj(l:List Cell):Prop:= ∀i,i+1<l.length->gj (nth l i).key (nth l (i+1)).key=true
theorem Ky{l:List Cell}(h:fA l=true):Cj l:=fun i hi=>by
 unfold fA at h
 simp only [Bool.and_eq_true] at h
 have:=uQ.1 h.2 (i+1) hi
 unfold iU at this
 simp only [Bool.and_eq_true,Bool.or_eq_true,beq_iff_eq] at this
 rcases this.2 with h|h
 ·omega
 ·exact h
theorem JV{l:List Cell}(h:Cj l){k:ByteArray}: ∀i,bW l k<i->i<l.length->gj k (nth l i).key=true:=by
 intro i
 induction i with
 | zero=>intro h;omega
 | succ i ih =>
  intro h1 h2
  have hs:=h i h2
  rcases Nat.lt_or_ge (bW l k) i with h3|h3
  ·exact Og (ih h3 (by omega)) hs
  ·have e:i=bW l k:=by omega
   have h4:=Ck (l:=l) (k:=k) (by omega)
   rw [<-e] at h4
   by_cases e2:(nth l i).key=k
   ·rw [<-e2];exact hs
   ·exact Og (Oe e2 h4) hs
def je(l:List Cell)(k:ByteArray)(v:Int)(i:Nat):List Cell :=
 if bW l k<i then (l.take (bW l k)++[⟨k,v⟩])++(l.take i).drop (bW l k+if eO l k=true then 1 else 0) else l.take i
theorem XE(l:List Cell)(k:ByteArray)(v:Int):je l k v 0=[]:=by unfold je;simp
theorem IX{α:Type}[Inhabited α]{l:List α}{i:Nat}(h:i<l.length):l.take (i+1)=l.take i++[nth l i]:=by
 rw [List.take_add_one];simp [nth,h]
theorem XD{l:List Cell}{k:ByteArray}{v:Int}{i:Nat}(h:i<bW l k)(hl:i<l.length):je l k v (i+1)=je l k v i++[nth l i]:=by
 unfold je
 rw [if_neg (show ¬bW l k<i+1 by omega),if_neg (show ¬bW l k<i by omega),IX hl]
theorem XA{l:List Cell}{k:ByteArray}{v:Int}{i:Nat}(h:i=bW l k)(hl:i<l.length):je l k v (i+1)=if (nth l i).key=k then je l k v i++[⟨k,v⟩] else (je l k v i++[⟨k,v⟩])++[nth l i]:=by
 unfold je
 rw [if_pos (show bW l k<i+1 by omega),if_neg (show ¬bW l k<i by omega),IX hl]
 by_cases e:(nth l i).key=k
 ·have hk:eO l k=true:=nP.2 ⟨by omega,by rw [<-h];exact e⟩
  rw [if_pos e,if_pos hk,List.drop_eq_nil_of_le (by rw [List.length_append,List.length_take,List.length_singleton];omega)]
  rw [List.append_nil,h]
 ·have hk:eO l k=false:=by
   cases hq:eO l k with
   | false=>rfl
   | true=>have:=(nP.1 hq).2;rw [<-h] at this;exact absurd this e
  simp only [if_neg e,hk,Bool.false_eq_true,if_false,Nat.add_zero]
  rw [List.drop_append_of_le_length (by rw [List.length_take];omega),List.drop_eq_nil_of_le (by rw [List.length_take];omega),List.nil_append,h]
theorem XC{l:List Cell}{k:ByteArray}{v:Int}{i:Nat}(h:bW l k<i)(hl:i<l.length):je l k v (i+1)=je l k v i++[nth l i]:=by
 unfold je
 rw [if_pos (show bW l k<i+1 by omega),if_pos h,IX hl,List.drop_append_of_le_length (by rw [List.length_take];split<;>omega)]
 simp only [List.append_assoc]
theorem XB{l:List Cell}{k:ByteArray}{v:Int}:iD l k v=if bW l k<l.length then je l k v l.length else je l k v l.length++[⟨k,v⟩]:=by
 unfold je iD
 have hle:=uS l k
 by_cases h:bW l k<l.length
 ·simp only [if_pos h,List.take_length]
  by_cases hk:eO l k=true
  ·rw [if_pos hk,if_pos hk,List.set_eq_take_append_cons_drop,if_pos h]
   simp
  ·rw [if_neg hk,if_neg hk,Nat.add_zero]
 ·have e:bW l k=l.length:=by omega
  have hk:eO l k=false:=by
   cases hq:eO l k with
   | false=>rfl
   | true=>have:=(nP.1 hq).1;omega
  simp only [if_neg h,hk,Bool.false_eq_true,if_false,e]
  simp
def wh(l:List Cell)(k:ByteArray):Int:=match jP (fun i=>decide ((nth l i).key=k)) l.length with
 | some i=>(i:Int)
 | none=> -1
theorem abS{l:List Cell}(h:Cj l)(k:ByteArray):wh l k=if eO l k=true then ((bW l k:Nat):Int) else -1:=by
 unfold wh
 cases hf:jP (fun i=>decide ((nth l i).key=k)) l.length with
 | none =>
  have hn:=LN hf
  rw [if_neg]
  intro hk
  obtain ⟨h1,h2⟩:=nP.1 hk
  have:=hn _ h1
  simp at this
  exact this h2
 | some i =>
  obtain ⟨h1,h2,h3⟩:=CR hf
  have h2:(nth l i).key=k:=by simpa using h2
  have e:bW l k=i:=by
   rcases Nat.lt_trichotomy i (bW l k) with h4|h4|h4
   ·have:=zM h4;rw [h2,Bo] at this;cases this
   ·exact h4.symm
   ·have:=JV h i h4 h1;rw [h2,Bo] at this;cases this
  rw [if_pos (nP.2 ⟨by omega,by rw [e];exact h2⟩),e]
end
section
open Go.RowKit Go
variable [GC]
theorem V0(l:List Cell)(k:ByteArray):aD Tryz.prog 107 none [aN l,.str k] (.int .i64 (wh l k)) []:=by
 refine aD.bK aiq agD rfl ?_ (fun hfit=> ?_)
 ·exact ⟨nX l,trivial,trivial⟩
 have hl:l.length<=9223372036854775807:=ow hfit.1
 unfold SD
 refine fp l.length (fun k=>[.int .i64 k]) (fun i=> ∀j,j<i->decide ((nth l j).key=k)=false) rfl (fun j h=>by omega) ?_
 intro i hi hI _
 simp only [cA]
 refine aG (fun h2=> ?_) (fun h2=> ?_)
 ·simp only [E.den,aa,ai,aj] at h2
  have h2:i<l.length:=by simp at h2;exact h2
  (refine bh (fun hg=> ?_) ?_;(focus (simp only [bB,gE,E.den,aa,ai,aj] at hg ⊢;(try simp only [D.bool.injEq] at hg);(try simp only [D.bool.injEq]);grind)))
  refine aG (fun h3=>aF ?_) (fun h3=> ?_)
  ·simp only [E.den,aa,ai,aj,gu,dH,Int.toNat_natCast] at h3 ⊢
   have h3:(nth l i).key=k:=by simpa using h3
   have e:jP (fun i=>decide ((nth l i).key=k)) l.length=some i:=CS (by simpa using h3) hI h2
   unfold wh
   rw [e]
  ·simp only [E.den,aa,ai,aj,gu,dH,Int.toNat_natCast] at h3
   have h3:(nth l i).key≠k:=by simpa using h3
   refine eH h2 ?_ fun j hj=> ?_
   ·simp only [E.den,aa,ai,aj];rw [db (by omega) (by omega)];rfl
   ·rcases Nat.lt_or_ge j i with h|h
    ·exact hI j h
    ·obtain rfl:j=i:=by omega
     simpa using h3
 ·simp only [E.den,aa,ai,aj] at h2
  have h2:i=l.length:=by simp at h2;omega
  subst h2
  refine aF ?_
  simp only [E.den,aa,ai,aj]
  unfold wh
  rw [Ad hI]
theorem V4(l:List Cell)(k:ByteArray)(v:Int)(hs:Cj l)(h4:l.length<=1048576):cM Tryz.prog 108 none [aN l,.str k,.int .i64 v] (aN (iD l k v)) [] [(0,2)]:=by
 refine cM.bK aiu agL acG rfl ?_ (fun hfit=> ?_)
 ·exact ⟨nX l,trivial,rfl,trivial⟩
 have hle:=uS l k
 unfold SH
 refine fp l.length (fun i=>[.bool (decide (bW l k<i)),aN (je l k v i),.int .i64 i]) (fun _=>True) (by simp [E.den,XE,aN]) trivial ?_
 intro i hi _ _
 have hgl:(je l k v i).length<=i+1:=by
  unfold je
  split
  ·simp;omega
  ·simp;omega
 simp only [cA]
 refine aG (fun h2=> ?_) (fun h2=> ?_)
 ·simp only [E.den,aa,ai,aj] at h2
  have h2:i<l.length:=by simp at h2;exact h2
  (refine bh (fun hg=> ?_) ?_;(focus (simp only [bB,gE,E.den,aa,ai,aj] at hg ⊢;(try simp only [D.bool.injEq] at hg);(try simp only [D.bool.injEq]);grind)))
  refine aG (fun h3=> ?_) (fun h3=> ?_)
  ·simp only [E.den,aa,ai,aj,gu,dH,Int.toNat_natCast] at h3
   have hge:fM .geq (nth l i).key k= !gj (nth l i).key k:=by rfl
   simp at h3
   have ea:i=bW l k:=by
    rcases Nat.lt_or_ge i (bW l k) with h|h
    ·have:=zM h;rw [h3.2] at this;cases this
    ·omega
   refine bh (fun _=> ?_) ?_
   ·simp only [E.den,aa,ai,aj];simp;omega
   have hgo:=XA (v:=v) ea h2
   refine aG (fun h5=> ?_) (fun h5=> ?_)
   ·simp only [E.den,aa,ai,aj,gu,dH,Int.toNat_natCast] at h5
    have h5:(nth l i).key≠k:=by simpa using h5
    rw [if_neg h5] at hgo
    refine bh (fun _=> ?_) ?_
    ·simp only [E.den,aa,ai,aj];simp;omega
    refine eH h2 ?_ trivial
    rw [hgo,decide_eq_true (show bW l k<i+1 by omega)]
    simp only [E.den,aa,ai,aj,gu,dH,Int.toNat_natCast]
    rw [db (by omega) (by omega)]
    simp [aN,dH]
   ·simp only [E.den,aa,ai,aj,gu,dH,Int.toNat_natCast] at h5
    have h5:(nth l i).key=k:=by simpa using h5
    rw [if_pos h5] at hgo
    refine eH h2 ?_ trivial
    rw [hgo,decide_eq_true (show bW l k<i+1 by omega)]
    simp only [E.den,aa,ai,aj,gu,dH,Int.toNat_natCast]
    rw [db (by omega) (by omega)]
    simp [aN,dH]
  ·simp only [E.den,aa,ai,aj,gu,dH,Int.toNat_natCast] at h3
   have hge:fM .geq (nth l i).key k= !gj (nth l i).key k:=by rfl
   have hnk:(nth l i).key≠k:=by
    intro e
    rcases Nat.lt_trichotomy i (bW l k) with h|h|h
    ·have:=zM h;rw [e,Bo] at this;cases this
    ·rw [e,Bo] at h3;simp at h3;omega
    ·have:=JV hs i h h2;rw [e,Bo] at this;cases this
   have hni:i≠bW l k:=by
    intro e
    have:=Ck (l:=l) (k:=k) (by omega)
    rw [<-e] at this
    rw [this] at h3;simp at h3;omega
   have hgo:je l k v (i+1)=je l k v i++[nth l i]:=by
    rcases Nat.lt_or_ge i (bW l k) with h|h
    ·exact XD h h2
    ·exact XC (by omega) h2
   have jj:decide (bW l k<i+1)=decide (bW l k<i):=decide_eq_decide.2 (by omega)
   refine aG (fun h5=> ?_) (fun h5=> ?_)
   ·refine bh (fun _=> ?_) ?_
    ·simp only [E.den,aa,ai,aj];simp;omega
    refine eH h2 ?_ trivial
    rw [hgo,jj]
    simp only [E.den,aa,ai,aj,gu,dH,Int.toNat_natCast]
    rw [db (by omega) (by omega)]
    simp [aN,dH]
   ·exfalso
    simp only [E.den,aa,ai,aj,gu,dH,Int.toNat_natCast] at h5
    exact hnk (by simpa using h5)
 ·simp only [E.den,aa,ai,aj] at h2
  have h2:i=l.length:=by simp at h2;omega
  subst h2
  have hend:=XB (l:=l) (k:=k) (v:=v)
  refine aG (fun h3=> ?_) (fun h3=> ?_)
  ·simp only [E.den,aa,ai,aj] at h3
   have h3: ¬bW l k<l.length:=by simpa using h3
   refine bh (fun _=> ?_) (aF ?_)
   ·simp only [E.den,aa,ai,aj];simp;omega
   ·rw [hend,if_neg h3]
    simp only [E.den,aa,ai,aj]
    simp [aN,dH]
  ·simp only [E.den,aa,ai,aj] at h3
   have h3:bW l k<l.length:=by simpa using h3
   refine aF ?_
   rw [hend,if_pos h3]
   simp only [E.den,aa,ai,aj]
end
section
open Go.RowKit Go
variable [GC]
def Ei(x:List UInt8):List D:=[.str (bs x)]
def sj(l:List (List UInt8)):D:= .sl (l.map Ei)
@[simp] theorem amP (l:List (List UInt8)):(sj l).mc=l.map Ei:=rfl
@[simp] theorem amO (l:List (List UInt8)):iX (sj l)=l.length:=by simp [sj,iX]
theorem Fp(s:ByteArray)(a b:Nat):s.extract a b=bs ((s.data.toList.drop a).take (b-a)):=by
 apply ByteArray.ext
 simp only [bs,ByteArray.data_extract]
 apply Array.ext'
 simp
theorem OO{s:ByteArray}{sep:List UInt8}{i:Nat}(h:i+sep.length<=s.size):decide (s.extract i (i+sep.length)=bs sep)=Lib.occAt s.data.toList sep i:=by
 rw [Fp,Lib.occAt_iff_take _ _ _ (by rw [size_data];exact h),Nat.add_sub_cancel_left]
 simp [Bool.beq_eq_decide_eq]
theorem H9(s sep:List UInt8)(a j:Nat):Lib.occAt (s.drop a) sep j=Lib.occAt s sep (a+j):=by
 unfold Lib.occAt
 rw [List.drop_drop]
theorem VV(s:ByteArray)(sep:List UInt8)(h0:sep≠[])(h1:sep.length<=100)(hs:s.size<4294967281):cM Tryz.prog 111 none [.str s,.str (bs sep)] (sj (Lib.split s.data.toList sep)) [] [(0,1)]:=by
 have hpos:0<sep.length:=List.length_pos_iff.2 h0
 refine cM.bK aij agp acD rfl ?_ (fun hfit=> ?_)
 ·simp [QU,fz,bU,cz,bM]
 unfold Sv
 refine zW (List (List UInt8)×Nat×Nat) (fun x=>[sj x.1,.int .i64 x.2.1,.int .i64 x.2.2])
  (fun x=>x.1++Lib.split (s.data.toList.drop x.2.1) sep=Lib.split s.data.toList sep/\x.2.1<=x.2.2/\x.2.2<=s.size/\x.1.length<=x.2.1/\ ∀j,x.2.1<=j->j<x.2.2->Lib.occAt s.data.toList sep j=false)
  (fun x=>s.size-x.2.2) ([],0,0) ?_ rfl ⟨by simp,Nat.le_refl _,Nat.zero_le _,Nat.zero_le _,fun j a b=>by simp only at b;omega⟩ ?_
 ·intro x y h
  simp at h
  have:x.2.2=y.2.2:=by omega
  simp only [this]
 rintro ⟨out,fr,i⟩ ⟨q1,q2,q3,q4,q5⟩ _
 simp only at q1 q2 q3 q4 q5
 have hadd:cv .add .i64 (i:Int) (((bs sep).size:Nat):Int)=((i+sep.length:Nat):Int):=by rw [db (by rw [ny];omega) (by rw [ny];omega),ny];omega
 have hne:fM .neq (bs sep) ⟨#[]⟩=true:=by
  simp only [eG]
  rw [show (⟨#[]⟩:ByteArray)=bs [] from rfl]
  simp [h0]
 refine aG (fun h=> ?_) (fun h=> ?_)
 ·simp only [E.den,List.cons_append,List.nil_append,List.getD_cons_zero,List.getD_cons_succ,D.eX,D.eY,D.cQ,eQ,hne,hadd,Fc,Bool.true_and,decide_eq_true_eq] at h
  have hle:i+sep.length<=s.size:=by omega
  refine bh (fun _=> ?_) ?_
  ·simp only [E.den,List.cons_append,List.nil_append,List.getD_cons_zero,List.getD_cons_succ,D.cQ,eQ,hadd]
   simp;omega
  refine aG (fun h2=> ?_) (fun h2=> ?_)
  ·simp only [E.den,List.cons_append,List.nil_append,List.getD_cons_zero,List.getD_cons_succ,D.eX,D.eY,D.cQ,eQ,hadd,qR,Int.toNat_natCast,fN,OO hle] at h2
   have hix:Lib.index (s.data.toList.drop fr) sep=((i-fr:Nat):Int):=by
    refine Lib.index_first (by rw [List.length_drop,size_data];omega) ?_ (fun j hj=> ?_)
    ·rw [H9,show fr+(i-fr)=i by omega];exact h2
    ·rw [H9];exact q5 _ (by omega) (by omega)
   refine bh (fun _=> ?_) ?_
   ·simp only [E.den,aa,ai,aj];simp;omega
   refine bh (fun _=> ?_) ?_
   ·simp only [E.den,aa,ai,aj];simp;omega
   refine Fj (out++[(s.data.toList.drop fr).take (i-fr)],i+sep.length,i+sep.length) ?_ ⟨?_,Nat.le_refl _,hle,?_,fun j a b=>by simp only at a b;omega⟩ ?_
   ·simp only [E.den,List.cons_append,List.nil_append,List.getD_cons_zero,List.getD_cons_succ,D.eY,D.cQ,eQ,hadd,qR,Int.toNat_natCast,List.map_cons,List.map_nil,Fp]
    simp [sj,Ei]
   ·simp only
    rw [<-q1,IQ h0 hix,List.drop_drop,show fr+(i-fr+sep.length)=i+sep.length by omega]
    simp
   ·simp;omega
   ·simp only;omega
  ·simp only [E.den,List.cons_append,List.nil_append,List.getD_cons_zero,List.getD_cons_succ,D.eX,D.eY,D.cQ,eQ,hadd,qR,Int.toNat_natCast,fN,OO hle] at h2
   refine Fj (out,fr,i+1) ?_ ⟨q1,by simp only;omega,by simp only;omega,q4,fun j a b=> ?_⟩ ?_
   ·simp only [E.den,aa,ai,aj]
    rw [db (by omega) (by omega)];rfl
   ·simp only at a b
    by_cases e:j=i
    ·rw [e];exact h2
    ·exact q5 j a (by omega)
   ·simp only;omega
 ·simp only [E.den,List.cons_append,List.nil_append,List.getD_cons_zero,List.getD_cons_succ,D.eX,D.eY,D.cQ,eQ,hne,hadd,Fc,Bool.true_and,decide_eq_false_iff_not] at h
  have hix:Lib.index (s.data.toList.drop fr) sep= -1:=by
   refine Lib.index_none fun j hj=> ?_
   rw [H9]
   rcases Nat.lt_or_ge (fr+j) i with hlt|hge
   ·exact q5 _ (by omega) hlt
   ·cases ho:Lib.occAt s.data.toList sep (fr+j) with
    | false=>rfl
    | true =>
     rcases Lib.occAt_room ho with h3|h3
     ·rw [size_data] at h3;omega
     ·exact absurd h3 h0
  refine bh (fun _=> ?_) ?_
  ·simp only [E.den,aa,ai,aj];simp;omega
  refine bh (fun _=> ?_) (aF ?_)
  ·simp only [E.den,aa,ai,aj];simp;omega
  ·simp only [E.den,List.cons_append,List.nil_append,List.getD_cons_zero,List.getD_cons_succ,D.eY,D.cQ,eQ,qR,Int.toNat_natCast,Fp]
   rw [<-q1,Ec hix,show s.size-fr=(s.data.toList.drop fr).length by rw [List.length_drop,size_data],List.take_length]
   simp [sj,Ei]
theorem abF:(1:Int).toNat=1:=rfl
end
section
open Go.RowKit Go
variable [GC]
theorem ad7(l:List (List UInt8)):sj l=aN (l.map bs):=by
 simp only [sj,aN,List.map_map]
 congr 1
theorem Kb(s sep:ByteArray)(h0:sep.data.toList≠[])(h1:sep.data.toList.length<=100)(hs:s.size<4294967281):cM Tryz.prog 111 none [.str s,.str sep] (aN (pieces s sep)) [] [(0,1)]:=by
 have h:=VV s sep.data.toList h0 h1 hs
 rw [ad7,J8] at h
 exact h
theorem abv{n:Nat}(h:n<1000):(61:UInt8)∉eB n:=by
 intro hm
 have:=List.all_eq_true.1 (WK h) _ hm
 simp [G6] at this
theorem IP{c:UInt8}(s:List UInt8):(Lib.cut s [c]=(s,[],false)/\Lib.split s [c]=[s])\/((Lib.cut s [c]).2.2=true/\Lib.split s [c]=(Lib.cut s [c]).1::Lib.split (Lib.cut s [c]).2.1 [c]):=by
 by_cases h:c∈s
 ·right
  obtain ⟨a,b,rfl,hn⟩:=List.eq_append_cons_of_mem h
  have e:a++c::b=a++((c::[])++b):=rfl
  rw [e,Ww hn]
  refine ⟨rfl,?_⟩
  rw [IQ (by simp) (G5 hn)]
  simp
 ·left
  exact ⟨Wy h,Ec (index_none' h)⟩
theorem adI{c:UInt8}{s:List UInt8}(h:c∉s):Lib.split s [c]=[s]:=Ec (index_none' h)
theorem abR{x:ByteArray}(h:(pieces x pP).length=2):pieces x pP=[Ij x,qz x]/\(Lib.cut x.data.toList [61]).2.2=true:=by
 have e:pieces x pP=(Lib.split x.data.toList [61]).map bs:=rfl
 rw [e] at h ⊢
 rw [List.length_map] at h
 rcases IP (c:=61) x.data.toList with ⟨h1,h2⟩|⟨h1,h2⟩
 ·rw [h2] at h;simp at h
 ·rw [h2] at h ⊢
  simp only [List.length_cons] at h
  rcases IP (c:=61) (Lib.cut x.data.toList [61]).2.1 with ⟨k1,k2⟩|⟨k1,k2⟩
  ·rw [k2];exact ⟨rfl,h1⟩
  ·exfalso
   rw [k2] at h
   have:=(G9 (sep:=[61]) (by simp) _ (Lib.cut (Lib.cut x.data.toList [61]).2.1 [61]).2.1 (Nat.le_refl _)).2
   simp only [List.length_cons] at h
   exact this (List.eq_nil_of_length_eq_zero (by omega))
theorem abQ{x:ByteArray}(h:nT x=true):(pieces x pP).length=2:=by
 have e:pieces x pP=(Lib.split x.data.toList [61]).map bs:=rfl
 unfold nT at h
 simp only [Bool.and_eq_true] at h
 obtain ⟨n,hn,hz, -⟩:=abx h.2
 rw [e,List.length_map]
 rcases IP (c:=61) x.data.toList with ⟨h1,h2⟩|⟨h1,h2⟩
 ·rw [h1] at h;simp at h
 ·rw [h2]
  have hz':(Lib.cut x.data.toList [61]).2.1=eB n:=by
   have:=congrArg (fun b:ByteArray=>b.data.toList) hz
   simpa [qz,EY] using this
  rw [hz',adI (abv hn)];rfl
theorem VS(s:ByteArray)(hs:s.size<4294967281):cM Tryz.prog 100 none [.str s] (.aC [aN (eF s).1,.bool (eF s).2]) [] [(0,2)]:=by
 refine cM.bK aih agm acC rfl ?_ (fun hfit=> ?_)
 ·exact ⟨trivial,trivial⟩
 unfold Ss
 refine aG (fun h=>aF ?_) (fun h=> ?_)
 ·simp only [E.den,aa,ai,aj,Ef] at h
  have h:s=wK:=by simpa using h
  rw [eF,if_pos h];rfl
 simp only [E.den,aa,ai,aj,Ef] at h
 have h0:s≠wK:=by simpa using h
 (refine mr ?_ (Kb s dm (by decide) (by decide) hs) (su _) ?_;(focus (simp only [VC.den,E.den,aa,aK,and_true,Ee];try exact rfl));(simp only [cA]))
 have hz:=(DT (s:=s) (sep:=dm) (by decide)).1
 have hp: ∀k,k<(pieces s dm).length->(nth (pieces s dm) k).size<4294967281:=fun k hk=>by
  have:=Pc (s:=s) (sep:=dm) (by decide) hk
  omega
 have hno: ∀k,k<(pieces s dm).length->nT (nth (pieces s dm) k)=false->(.aC [aN (eF s).1,.bool (eF s).2]:D)= .aC [aN ([]:List Cell),.bool false]:=fun k hk hb=>by
  have hn:oI s=false:=by
   cases h:oI s with
   | false=>rfl
   | true =>
    unfold oI at h
    simp only [Bool.and_eq_true] at h
    have:=List.all_eq_true.1 h.1.1 _ (uh hk)
    rw [hb] at this;cases this
  rw [eF,if_neg h0,if_neg (by simp [hn])]
 refine fp (pieces s dm).length (fun k=>[aN (((pieces s dm).take k).map Bu),.int .i64 k]) (fun k=> ∀i,i<k->nT (nth (pieces s dm) i)=true) rfl (by omega) ?_
 intro k hk hI _
 simp only [cA]
 refine aG (fun h2=> ?_) (fun h2=> ?_)
 ·simp only [E.den,aa,ai,aj] at h2
  have h2:k<(pieces s dm).length:=by simp at h2;exact h2
  (refine bh (fun hg=> ?_) ?_;(focus (simp only [bB,gE,E.den,aa,ai,aj] at hg ⊢;(try simp only [D.bool.injEq] at hg);(try simp only [D.bool.injEq]);grind)))
  (refine mr ?_ (Kb (nth (pieces s dm) k) pP (by decide) (by decide) (hp k h2)) (su _) ?_;(focus (simp only [VC.den,E.den,aa,aK,and_true,kV,ja,Int.toNat_natCast,wL];try exact rfl));(simp only [cA]))
  refine aG (fun h3=>aF ?_) (fun h3=> ?_)
  ·simp only [E.den,aa,ai,aj] at h3
   have h3:(pieces (nth (pieces s dm) k) pP).length≠2:=by simp at h3;omega
   rw [hno k h2 (by cases hb:nT (nth (pieces s dm) k) with|false=>rfl|true=>exact absurd (abQ hb) h3)];rfl
  simp only [E.den,aa,ai,aj] at h3
  have h3:(pieces (nth (pieces s dm) k) pP).length=2:=by simp at h3;omega
  obtain ⟨oG,hc⟩:=abR h3
  (refine bh (fun hg=> ?_) ?_;(focus (simp only [bB,gE,E.den,aa,ai,aj,oG] at hg ⊢;(try simp only [D.bool.injEq] at hg);(try simp only [D.bool.injEq]);grind)))
  refine bu ?_ (VU (qz (nth (pieces s dm) k))) (QP _) ?_
  ·simp only [List.map,E.den,oG,kV,ja,abF,aa,ai,aj];rfl
  simp only [cA]
  refine aG (fun h4=>aF ?_) (fun h4=> ?_)
  ·simp only [E.den,aa,ai,aj,lX] at h4
   have h4:qv (qz (nth (pieces s dm) k))=false:=by simpa using h4
   rw [hno k h2 (by unfold nT;rw [h4,Bool.and_false])];rfl
  ·simp only [E.den,aa,ai,aj,lX] at h4
   have h4:qv (qz (nth (pieces s dm) k))=true:=by simpa using h4
   (refine bh (fun hg=> ?_) ?_;(focus (simp only [bB,gE,E.den,aa,ai,aj,oG] at hg ⊢;(try simp only [D.bool.injEq] at hg);(try simp only [D.bool.injEq]);grind)))
   refine bh (fun _=> ?_) ?_
   ·simp only [E.den,aa,ai,aj];simp [maxLen];omega
   refine eH h2 ?_ fun i hi=> ?_
   ·simp only [E.den,aa,ai,aj,lX,kV,ja]
    rw [db (by omega) (by omega),DM _ h2,oG,vY]
    simp [aN,dH,Bu]
   ·rcases Nat.lt_or_ge i k with h|h
    ·exact hI i h
    ·obtain rfl:i=k:=by omega
     unfold nT
     simp [hc,h4]
 ·simp only [E.den,aa,ai,aj] at h2
  obtain rfl:k=(pieces s dm).length:=by simp at h2;omega
  have hE:(pieces s dm).take (pieces s dm).length=pieces s dm:=List.take_length
  have hp:oI s=fA (mP s):=by
   unfold oI
   have:(pieces s dm).all nT=true:=List.all_eq_true.2 fun x hx=>by
    obtain ⟨i,hi,rfl⟩:=List.getElem_of_mem hx
    have:=hI i hi
    simpa [nth,hi] using this
   rw [this,Bool.true_and]
   cases hb:fA (mP s) with
   | false=>simp
   | true =>
    have:=oW hb
    unfold mP at this
    rw [List.length_map] at this
    simp [this]
  (refine bu ?_ (E5 (mP s)) (trivial) ?_;(focus (simp only [VC.den,E.den,aa,aK,and_true,hE,mP];try exact rfl));(simp only [cA]))
  refine aG (fun h6=>aF ?_) (fun h6=>aF ?_)
  ·simp only [E.den,aa,ai,aj] at h6
   have h6:fA (mP s)=false:=by simpa using h6
   rw [eF,if_neg h0,if_neg (by rw [hp,h6];simp)];rfl
  ·simp only [E.den,aa,ai,aj] at h6
   have h6:fA (mP s)=true:=by simpa using h6
   rw [eF,if_neg h0,if_pos (by rw [hp,h6])]
   simp only [E.den,aa,ai,aj,hE]
   rfl
theorem Cu(n:Int)(h:eU n=true):aD Tryz.prog 87 none [.int .i64 n] (.int .i64 (bR n)) []:=by
 refine aD.bK aiw agP rfl ?_ (fun hfit=> ?_)
 ·exact ⟨rfl,trivial⟩
 unfold SJ
 obtain ⟨h1,h2⟩:=rS.1 h
 have e:bR n=min (n+1) 999:=by unfold bR;rw [wrap_i64 (by omega) (by omega)]
 refine aG (fun g=>aF ?_) (fun g=>aF ?_)
 ·simp only [E.den,aa,ai,aj] at g ⊢
  have g:999<=n:=by simpa using g
  rw [e];congr 1;omega
 ·simp only [E.den,aa,ai,aj] at g ⊢
  have g:n<999:=by simpa using g
  rw [db (by omega) (by omega),e];congr 1;omega
theorem V3(p:Core)(x:Call)(hp:jc p=true)(hm:di x=true):aD Tryz.prog 98 none [enc p,enc x,.bool ((dO p.kind).testBit 0)] (.aC [enc (keepD p x).1,enc (keepD p x).2]) []:=by
 refine aD.bK ait agJ rfl ?_ (fun hfit=> ?_)
 ·exact ⟨jY p,sn x,trivial,trivial⟩
 unfold SG
 obtain ⟨p1,p2,p3,p4,p5,p6⟩:=nz.1 hp
 have Dg:=oW p2
 have hpl:=abS (Ky p2) x.key
 have hil:eO p.cells x.key=true->bW p.cells x.key<p.cells.length:=fun h=>(nP.1 h).1
 have hg:(⟨#[71,101,116]⟩:ByteArray)=gm:=rfl
 (refine bu ?_ (V0 p.cells x.key) (rfl) ?_;(focus (simp only [VC.den,E.den,aa,aK,and_true,bN,bY];try exact rfl));(simp only [cA]))
 refine aG (fun h=>aF ?_) (fun h1=> ?_)
 ·simp only [E.den,aa,ai,aj,bN,bY] at h ⊢
  have hE:keepD p x=(p,rep 2 0 0 0):=by unfold keepD;rw [if_pos (by simpa using h)]
  rw [hE];rfl
 simp only [E.den,aa,ai,aj,bN,bY] at h1
 have h1: ¬((dO p.kind).testBit 0=true/\p.on=false):=by simpa using h1
 refine aG (fun h=>aF ?_) (fun h2=> ?_)
 ·simp only [E.den,aa,ai,aj,bN,bY,hg] at h ⊢
  simp only [Bool.and_eq_true,decide_eq_true_eq] at h
  have hk:eO p.cells x.key=false:=by
   cases hk:eO p.cells x.key with
   | false=>rfl
   | true=>rw [hk] at hpl;simp at hpl;omega
  have hE:keepD p x=(p,rep 4 0 0 0):=by unfold keepD;rw [if_neg h1,if_pos h.1,hk];rfl
  rw [hE];rfl
 simp only [E.den,aa,ai,aj,bN,bY,hg] at h2
 refine aG (fun h=> ?_) (fun h3=> ?_)
 ·simp only [E.den,aa,ai,aj,bN,bY,hg] at h
  have h:x.method=gm:=by simpa using h
  have hk:eO p.cells x.key=true:=by
   cases hk:eO p.cells x.key with
   | true=>rfl
   | false=>rw [hk] at hpl;simp [h] at h2;simp at hpl;omega
  have hi:=hil hk
  rw [hk] at hpl
  have hpl:wh p.cells x.key=((bW p.cells x.key:Nat):Int):=by simpa using hpl
  rw [hpl]
  (refine bh (fun hg=> ?_) ?_;(focus (simp only [bB,gE,E.den,aa,ai,aj,bN] at hg ⊢;(try simp only [D.bool.injEq] at hg);(try simp only [D.bool.injEq]);grind)))
  refine aF ?_
  simp only [E.den,aa,ai,aj,bN,gu,dH,Int.toNat_natCast]
  have hE:keepD p x=(p,rep 0 (nth p.cells (bW p.cells x.key)).val 0 0):=by unfold keepD;rw [if_neg h1,if_pos h,if_pos hk]
  rw [hE];rfl
 simp only [E.den,aa,ai,aj,bN,bY,hg] at h3
 have h3:x.method≠gm:=by simpa using h3
 refine aG (fun h=>aF ?_) (fun h4=> ?_)
 ·simp only [E.den,aa,ai,aj,bN,bY] at h ⊢
  simp only [Bool.and_eq_true,decide_eq_true_eq] at h
  have hk:eO p.cells x.key=false:=by
   cases hk:eO p.cells x.key with
   | false=>rfl
   | true=>rw [hk] at hpl;simp at hpl;omega
  have hE:keepD p x=(p,rep 5 0 0 0):=by unfold keepD;rw [if_neg h1,if_neg h3,if_pos ⟨hk,by have:=h.2;simp at this;omega⟩]
  rw [hE];rfl
 simp only [E.den,aa,ai,aj,bN,bY] at h4
 have h4: ¬(eO p.cells x.key=false/\4<=p.cells.length):=by
  rintro ⟨k1,k2⟩
  rw [k1] at hpl
  have hpl:wh p.cells x.key= -1:=by simpa using hpl
  rw [hpl] at h4
  simp at h4
  omega
 (refine mr ?_ (V4 p.cells x.key x.val (Ky p2) (by omega)) (nX _) ?_;(focus (simp only [VC.den,E.den,aa,aK,and_true,bN,bY];try exact rfl));(simp only [cA]))
 (refine bu ?_ (Cu p.count p4) (rfl) ?_;(focus (simp only [VC.den,E.den,aa,aK,and_true,bN];try exact rfl));(simp only [cA]))
 refine aF ?_
 simp only [E.den,aa,ai,aj,bN,bY]
 have hE:keepD p x=(⟨p.kind,p.on,p.broken,iD p.cells x.key x.val,bR p.count⟩,rep 0 (iD p.cells x.key x.val).length 0 0):=by unfold keepD;rw [if_neg h1,if_neg h3,if_neg h4]
 rw [hE];rfl
theorem V5(p:Core)(x:Call)(hp:jc p=true)(hm:x.method=mStart\/x.method=bZ\/x.method=eS)(hb: ¬(p.broken=true/\x.method≠eS/\x.method≠dP)):aD Tryz.prog 101 none [enc p,.str x.method] (.aC [enc (bJ p x).1,enc (bJ p x).2]) []:=by
 refine aD.bK aiv agN rfl ?_ (fun hfit=> ?_)
 ·exact ⟨jY p,trivial,trivial⟩
 unfold SI
 obtain ⟨p1,p2,p3,p4,p5,p6⟩:=nz.1 hp
 have hg:(⟨#[72,101,97,108]⟩:ByteArray)=eS:=rfl
 have hs:(⟨#[83,116,111,112]⟩:ByteArray)=bZ:=rfl
 refine aG (fun h=>aF ?_) (fun h1=> ?_)
 ·simp only [E.den,aa,ai,aj,bN,hg] at h ⊢
  have h:x.method=eS:=by simpa using h
  have hE:bJ p x=(⟨p.kind,false,false,p.cells,p.count⟩,rep 0 0 0 0):=by
   unfold bJ di;rw [if_neg hb];simp only [h];rfl
  rw [hE];rfl
 simp only [E.den,aa,ai,aj,hg] at h1
 have h1:x.method≠eS:=by simpa using h1
 refine aG (fun h=>aF ?_) (fun h2=> ?_)
 ·simp only [E.den,aa,ai,aj,bN,hs] at h ⊢
  have h:x.method=bZ/\p.on=false:=by simpa using h
  obtain ⟨h,ho⟩:=h
  have hE:bJ p x=(p,rep 2 0 0 0):=by
   unfold bJ;rw [if_neg hb,if_neg (show ¬x.method=mStart by rw [h];decide),if_pos h,if_pos ho]
  rw [hE];rfl
 simp only [E.den,aa,ai,aj,bN,hs] at h2
 refine aG (fun h=>aF ?_) (fun h3=> ?_)
 ·simp only [E.den,aa,ai,aj,bN,hs] at h ⊢
  have h:x.method=bZ:=by simpa using h
  have ho: ¬p.on=false:=by simpa [h] using h2
  have hE:bJ p x=(⟨p.kind,false,p.broken,p.cells,p.count⟩,rep 0 0 0 0):=by
   unfold bJ;rw [if_neg hb,if_neg (show ¬x.method=mStart by rw [h];decide),if_pos h,if_neg ho]
  rw [hE];rfl
 simp only [E.den,aa,ai,aj,hs] at h3
 have h3:x.method≠bZ:=by simpa using h3
 have hS:x.method=mStart:=by rcases hm with h|h|h;exact h;exact absurd h h3;exact absurd h h1
 refine aG (fun h=>aF ?_) (fun h4=> ?_)
 ·simp only [E.den,aa,ai,aj,bN] at h ⊢
  have h:p.on=true:=by simpa using h
  have hE:bJ p x=(⟨p.kind,false,true,p.cells,p.count⟩,rep 3 0 0 0):=by
   unfold bJ;rw [if_neg hb,if_pos hS,if_pos h]
  rw [hE];rfl
 simp only [E.den,aa,ai,aj,bN] at h4
 (refine bu ?_ (Cu p.count p4) (rfl) ?_;(focus (simp only [VC.den,E.den,aa,aK,and_true,bN];try exact rfl));(simp only [cA]))
 refine aF ?_
 simp only [E.den,aa,ai,aj,bN]
 have hE:bJ p x=(⟨p.kind,true,p.broken,p.cells,bR p.count⟩,rep 0 0 0 0):=by
  unfold bJ;rw [if_neg hb,if_pos hS,if_neg (by simpa using h4)]
 rw [hE];rfl
theorem ai6{x:Call}(hx:ek x=true): ∃j:Fin 6,bI x.method=((2^j.val:Nat):Int)/\x.method∈methods j.val:=Bp (xy hx)
theorem V2(p:Core)(x:Call)(hp:jc p=true)(hx:ek x=true)(ht:x.text.size<4294967281):aD Tryz.prog 86 none [enc p,enc x,.bool ((dO p.kind).testBit 0)] (.aC [enc (bJ p x).1,enc (bJ p x).2]) []:=by
 refine aD.bK ais agH rfl ?_ (fun hfit=> ?_)
 ·exact ⟨jY p,sn x,trivial,trivial⟩
 unfold SF
 have hp':=hp
 obtain ⟨p1,p2,p3,p4,p5,p6⟩:=nz.1 hp
 have e1:(⟨#[72,101,97,108]⟩:ByteArray)=eS:=rfl
 have e2:(⟨#[84,101,108,108]⟩:ByteArray)=dP:=rfl
 have e3:(⟨#[71,101,116]⟩:ByteArray)=gm:=rfl
 have e4:(⟨#[80,117,116]⟩:ByteArray)=fj:=rfl
 have e5:(⟨#[72,101,97,114]⟩:ByteArray)=eT:=rfl
 have e6:(⟨#[83,97,118,101]⟩:ByteArray)=rR:=rfl
 have e7:(⟨#[76,111,97,100]⟩:ByteArray)=jE:=rfl
 refine aG (fun h=>aF ?_) (fun h1=> ?_)
 ·simp only [E.den,aa,ai,aj,bN,bY,e1,e2] at h ⊢
  have h:p.broken=true/\x.method≠eS/\x.method≠dP:=by simpa [and_assoc] using h
  have hE:bJ p x=(p,rep 3 0 0 0):=by unfold bJ;rw [if_pos h]
  rw [hE];rfl
 simp only [E.den,aa,ai,aj,bN,bY,e1,e2] at h1
 have hb: ¬(p.broken=true/\x.method≠eS/\x.method≠dP):=by
  rintro ⟨q1,q2,q3⟩
  simp [q1,q2,q3] at h1
 have K:di x=true->bJ p x=keepD p x:=fun h=>by
  obtain ⟨k1,k2,k3,k4,k5⟩:=Bj h
  unfold bJ;rw [if_neg hb,if_neg k4,if_neg k5,if_pos h]
 have hkeep:di x=true->aD Tryz.prog 98 none [enc p,enc x,.bool ((dO p.kind).testBit 0)] (.aC [enc (bJ p x).1,enc (bJ p x).2]) []:=fun h=>by rw [K h];exact V3 p x hp h
 refine aG (fun h=> ?_) (fun h2=> ?_)
 ·simp only [E.den,aa,ai,aj,bN,bY,e3] at h
  have h:x.method=gm:=by simpa using h
  refine aG (fun _=> ?_) (fun g=> ?_)
  ·(refine bu ?_ (hkeep (lU.2 (.inl h))) (⟨jY _,sr _,trivial⟩) ?_;(focus (simp only [VC.den,E.den,aa,aK,and_true];try exact rfl));(simp only [cA]))
   refine aF ?_
   simp only [E.den,aa,ai,aj]
  ·simp only [E.den,aa,ai,aj,bY,e3] at g
   simp [h] at g
 simp only [E.den,aa,ai,aj,bN,bY,e3] at h2
 have h2:x.method≠gm:=by simpa using h2
 refine aG (fun h=> ?_) (fun h3=> ?_)
 ·simp only [E.den,aa,ai,aj,bN,bY,e4] at h
  have h:x.method=fj:=by simpa using h
  (refine bu ?_ (hkeep (lU.2 (.inr h))) (⟨jY _,sr _,trivial⟩) ?_;(focus (simp only [VC.den,E.den,aa,aK,and_true];try exact rfl));(simp only [cA]))
  refine aF ?_
  simp only [E.den,aa,ai,aj]
 simp only [E.den,aa,ai,aj,bN,bY,e4] at h3
 have h3:x.method≠fj:=by simpa using h3
 refine aG (fun h=>aF ?_) (fun h4=> ?_)
 ·simp only [E.den,aa,ai,aj,bN,bY,e2] at h ⊢
  have h:x.method=dP:=by simpa using h
  have hE:bJ p x=(p,rep 0 p.count 0 0):=by unfold bJ di;rw [if_neg hb];simp only [h];rfl
  rw [hE];rfl
 simp only [E.den,aa,ai,aj,bN,bY,e2] at h4
 have h4:x.method≠dP:=by simpa using h4
 refine aG (fun h=> ?_) (fun h5=> ?_)
 ·simp only [E.den,aa,ai,aj,bN,bY,e5] at h
  have h:x.method=eT:=by simpa using h
  (refine bu ?_ (Cu p.count p4) (rfl) ?_;(focus (simp only [VC.den,E.den,aa,aK,and_true,bN];try exact rfl));(simp only [cA]))
  refine aF ?_
  simp only [E.den,aa,ai,aj,bN,bY]
  have hE:bJ p x=(⟨p.kind,if x.val=0 then false else if x.val=1 then true else p.on,p.broken,p.cells,bR p.count⟩,rep 0 (bR p.count) 0 0):=by unfold bJ di;rw [if_neg hb];simp only [h];rfl
  have E2:((x.val==1)||(p.on&&(x.val != 0)))=(if x.val=0 then false else if x.val=1 then true else p.on):=by
   by_cases k0:x.val=0
   ·simp [k0]
   ·by_cases k1:x.val=1
    ·simp [k1]
    ·rw [if_neg k0,if_neg k1,show (x.val==1)=false from by simpa using k1,show (x.val != 0)=true from by simpa using k0];simp
  rw [hE,E2];rfl
 simp only [E.den,aa,ai,aj,bN,bY,e5] at h5
 have h5:x.method≠eT:=by simpa using h5
 refine aG (fun h=> ?_) (fun h6=> ?_)
 ·simp only [E.den,aa,ai,aj,bN,bY,e6] at h
  have h:x.method=rR:=by simpa using h
  (refine bu ?_ (VO p.cells) (trivial) ?_;(focus (simp only [VC.den,E.den,aa,aK,and_true,bN];try exact rfl));(simp only [cA]))
  refine aF ?_
  simp only [E.den,aa,ai,aj,bN,bY]
  have hE:bJ p x=(p,⟨0,0,fmtC p.cells,0,0⟩):=by unfold bJ di;rw [if_neg hb];simp only [h];rfl
  rw [hE];rfl
 simp only [E.den,aa,ai,aj,bN,bY,e6] at h6
 have h6:x.method≠rR:=by simpa using h6
 refine aG (fun h=> ?_) (fun h7=> ?_)
 ·simp only [E.den,aa,ai,aj,bN,bY,e7] at h
  have h:x.method=jE:=by simpa using h
  have hE:bJ p x=(if (eF x.text).2=true then (⟨p.kind,p.on,p.broken,(eF x.text).1,p.count⟩,rep 0 (eF x.text).1.length 0 0) else (p,rep 6 0 0 0)):=by unfold bJ di;rw [if_neg hb];simp only [h];rfl
  (refine mr ?_ (VS x.text ht) (⟨nX _,trivial,trivial⟩) ?_;(focus (simp only [VC.den,E.den,aa,aK,and_true,bY];try exact rfl));(simp only [cA]))
  refine aG (fun g=>aF ?_) (fun g=>aF ?_)
  ·simp only [E.den,aa,ai,aj,bN] at g ⊢
   have g:(eF x.text).2=false:=by simpa using g
   rw [hE,g];rfl
  ·simp only [E.den,aa,ai,aj,bN] at g ⊢
   have g:(eF x.text).2=true:=by simpa using g
   rw [hE,if_pos g];rfl
 simp only [E.den,aa,ai,aj,bN,bY,e7] at h7
 have h7:x.method≠jE:=by simpa using h7
 have hm:x.method=mStart\/x.method=bZ\/x.method=eS:=by
  obtain ⟨j, -,hj⟩:=ai6 hx
  have h0: ∀j:Fin 6,∀s:ByteArray,s∈methods j.val->s=mStart\/s=bZ\/s=eS\/s=gm\/s=fj\/s=dP\/s=eT\/s=jE\/s=rR:=by decide
  rcases h0 j _ hj with h|h|h|h|h|h|h|h|h
  ·exact .inl h
  ·exact .inr (.inl h)
  ·exact .inr (.inr h)
  ·exact absurd h h2
  ·exact absurd h h3
  ·exact absurd h h4
  ·exact absurd h h5
  ·exact absurd h h7
  ·exact absurd h h6
 (refine bu ?_ (V5 p x hp hm hb) (⟨jY _,sr _,trivial⟩) ?_;(focus (simp only [VC.den,E.den,aa,aK,and_true,bY];try exact rfl));(simp only [cA]))
 refine aF ?_
 simp only [E.den,aa,ai,aj]
theorem VL(p:Core)(x:Call)(hp:jc p=true)(hx:ek x=true)(ho:cK (dO p.kind) (bI x.method)=true)(ht:x.text.size<4294967281):aD Tryz.prog 60 none [enc p,enc x] (.aC [enc (bJ p x).1,enc (bJ p x).2]) []:=by
 refine aD.bK ah1 afU rfl ?_ (fun hfit=> ?_)
 ·exact ⟨jY p,sn x,trivial⟩
 unfold Sa
 obtain ⟨p1,p2,p3,p4,p5,p6⟩:=nz.1 hp
 have Dg:=oW p2
 (refine mr ?_ (Kp p (by omega)) (jY _) ?_;(focus (simp only [VC.den,E.den,aa,aK,and_true];try exact rfl));(simp only [cA]))
 (refine bu ?_ (Km p) (trivial) ?_;(focus (simp only [VC.den,E.den,aa,aK,and_true];try exact rfl));(simp only [cA]))
 (refine bu ?_ (Kl x) (trivial) ?_;(focus (simp only [VC.den,E.den,aa,aK,and_true];try exact rfl));(simp only [cA]))
 refine aG (fun h=> ?_) (fun h=> ?_)
 ·simp only [E.den,aa,ai,aj] at h
  rw [hp,hx] at h;cases h
 (refine bu ?_ (E6 p.kind) (⟨rfl,trivial,trivial⟩) ?_;(focus (simp only [VC.den,E.den,aa,aK,and_true,bN];try exact rfl));(simp only [cA]))
 (refine bu ?_ (Ct x.method) (rfl) ?_;(focus (simp only [VC.den,E.den,aa,aK,and_true,bY];try exact rfl));(simp only [cA]))
 (refine bu ?_ (E7 (dO p.kind) (bI x.method)) (trivial) ?_;(focus (simp only [VC.den,E.den,aa,aK,and_true];try exact rfl));(simp only [cA]))
 refine aG (fun h=> ?_) (fun h=> ?_)
 ·simp only [E.den,aa,ai,aj] at h
  rw [ho] at h;cases h
 (refine bu ?_ (zR (dO p.kind) 0 (vV _) (by omega)) (trivial) ?_;(focus (simp only [VC.den,E.den,aa,aK,and_true];try exact rfl));(simp only [cA]))
 (refine bu ?_ (V2 p x hp hx ht) (⟨jY _,sr _,trivial⟩) ?_;(focus (simp only [VC.den,E.den,aa,aK,and_true];try exact rfl));(simp only [cA]))
 refine aF ?_
 simp only [E.den,aa,ai,aj]
end
end Go.Proofs.YtimickglpboilaaGreatDoor
