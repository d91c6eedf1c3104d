/- A part as a value whose layers lie in memory of its own: where the reference's walks (l4Own, l4Do) stand. -/
import Derived.Test.YtimickglpboilaaGreatDoorG16
import Derived.Test.YtimickglpboilaaGreatDoorG15
import Derived.Deep.LoopGhost
set_option linter.unusedVariables false
set_option linter.unusedSimpArgs false
set_option linter.unusedSectionVars false
set_option maxRecDepth 100000
namespace Go.Proofs.YtimickglpboilaaGreatDoor
section
open Go.RowKit Go
variable [GC]
structure PV(K N:Nat->Prop)(w:World)(S1 S2:Value)(p:Part):Prop where
 gi:j6 w/\NG<=w.heap.size
 kb: ∀b,K b->NG<=b
 kn: ∀b,K b->N b
 nb: ∀b,N b->b<w.heap.size
 cs:R w (fun a=>N a.block) (aN p.core.cells) S1
 ly: ∃g,cu K w g S2 (fR p.af)
 ks:p.core.kind.size<=maxLen
 ct:IntKind.i64.min<=p.core.count/\p.core.count<=IntKind.i64.max
theorem cell_of_heap{w w':World}{p:Addr}(h:w'.heap[p.block]? =w.heap[p.block]?):w'.cell? p=w.cell? p:=by unfold World.cell?;rw [h]
theorem NK{w w':World}{N:Nat->Prop}(h: ∀b,¬N b->w'.heap[b]? =w.heap[b]?):bb w (fun a=>N a.block) w' (fun a=>N a.block) :=
 fun p v hc hn=>⟨by rw [cell_of_heap (h _ hn)];exact hc,hn⟩
section
variable {K N N':Nat->Prop}{w w':World}{S1 S2:Value}{p:Part}
theorem PV.lZ(h:PV K N w S1 S2 p):kf w (fun a=>N a.block):=⟨fun a ha=>h.nb _ ha,h.gi.1,h.gi.2⟩
theorem PV.new(h:PV K N w S1 S2 p)(hb:Below w.heap.size w w')(h1: ∀b,N' b->N b\/w.heap.size<=b)(h2: ∀b,N b->N' b)(h3: ∀b,N' b->b<w'.heap.size):PV K N' w' S1 S2 p:=by
 obtain ⟨g,hl⟩:=h.ly
 exact ⟨⟨h.gi.1.keep fun k hk=>hb.block k (Nat.lt_of_lt_of_le hk h.gi.2),Nat.le_trans h.gi.2 hb.size⟩,h.kb,fun b hk=>h2 b (h.kn b hk),h3,
  R.keep (bb.below hb fun q hq hn=>(h1 _ hn).elim id fun hq'=>by omega) _ _ h.cs,⟨g,hl.keep (fun b ho=>hb.block b (hl.out ho).2.2) fun _ h=>h⟩,h.ks,h.ct⟩
theorem PV.below(h:PV K N w S1 S2 p)(hb:Below w.heap.size w w'):PV K N w' S1 S2 p :=
 h.new hb (fun b hn=> .inl hn) (fun b hn=>hn) fun b hn=>Nat.lt_of_lt_of_le (h.nb b hn) hb.size
theorem PV.less(h:PV K N w S1 S2 p)(h1: ∀b,N' b->N b)(h2: ∀b,K b->N' b):PV K N' w S1 S2 p :=
 {h with kn:=h2,nb:=fun b hb=>h.nb b (h1 b hb),cs:=R.less h.cs fun _ hq=>h1 _ hq}
theorem PV.one{b:Nat}(h:PV K N w S1 S2 p)(ho:gx w w' b)(hn:N b)(hk: ¬K b)(hg:NG<=b):PV K N w' S1 S2 p:=by
 obtain ⟨g,hl⟩:=h.ly
 exact ⟨⟨h.gi.1.keep fun k hk=>ho.block k (by omega),by rw [ho.size];exact h.gi.2⟩,h.kb,h.kn,fun b hb=>by rw [ho.size];exact h.nb b hb,
  R.keep (NK fun i hi=>ho.block i fun e=>hi (e▸hn)) _ _ h.cs,⟨g,hl.keep (fun i hi=>ho.block i fun e=>hk (e▸(hl.out hi).1)) fun _ h=>h⟩,h.ks,h.ct⟩
theorem PV.len(h:PV K N w S1 S2 p): ∃a n c,S1= .slice a n c:=by
 obtain ⟨a,n,c,rfl,_⟩:=h.cs
 exact ⟨a,n,c,rfl⟩
theorem PV.gq(h:PV K N w S1 S2 p): ∀u∈(aE p S1 S2).toList,u.oneCell'=true:=by
 obtain ⟨a,n,c,rfl⟩:=h.len
 obtain ⟨g,hl⟩:=h.ly
 obtain ⟨a2,c2,rfl,_⟩:=hl.qt
 exact za _
theorem PV.lay{b o n cap k:Nat}(h:PV K N w S1 (.slice (some ⟨b,o,none⟩) n cap) p)(hk:k<p.af.length) :
  w.cell? ⟨b,o+k*2,none⟩=some (.string (nth p.af k).name)/\w.cell? ⟨b,o+k*2+1,none⟩=some (.int .i64 (nth p.af k).count)/\(∀i,w.frozen? ⟨b,i,none⟩=false)/\K b/\n=p.af.length:=by
 have hi:k<(fR p.af).length:=by rw [oJ];exact hk
 obtain ⟨g,hl⟩:=h.ly
 obtain ⟨b',o',cp,e,h1,h2,h3,h4,h5,h6,h7⟩:=hl.at hi
 simp only [Value.slice.injEq,Option.some.injEq,Addr.mk.injEq,and_true] at e
 obtain ⟨⟨rfl,rfl⟩,e2,_⟩:=e
 rw [Bx hk] at h4 h5
 exact ⟨h4,h5,fun i=>h6 i none,h1,by rw [e2,oJ]⟩
theorem PV.slot{k:Nat}(h:PV K N w S1 S2 p)(hk:k<p.af.length): ∃b o cap,S2= .slice (some ⟨b,o,none⟩) p.af.length cap:=by
 have hi:k<(fR p.af).length:=by rw [oJ];exact hk
 obtain ⟨g,hl⟩:=h.ly
 obtain ⟨b',o',cp,e,_⟩:=hl.at hi
 exact ⟨b',o',cp,by rw [e,oJ]⟩
theorem PV.bump{b o n cap k:Nat}(h:PV K N w S1 (.slice (some ⟨b,o,none⟩) n cap) p)(hk:k<p.af.length)(hv:IntKind.i64.min<=bR (nth p.af k).count/\bR (nth p.af k).count<=IntKind.i64.max) :
  PV K N (w.setCell ⟨b,o+k*2+1,none⟩ (.int .i64 (bR (nth p.af k).count))) S1 (.slice (some ⟨b,o,none⟩) n cap) (bump p k):=by
 obtain ⟨-, -, -,hKb,en⟩:=h.lay hk
 subst en
 obtain ⟨g,hl⟩:=h.ly
 have hil:k<(fR p.af).length:=by rw [oJ];exact hk
 have e0:p.af.length=(fR p.af).length:=(oJ _).symm
 rw [e0] at hl ⊢
 have hput:=hl.put hil hv
 have hset:(fR p.af).set k ((nth (fR p.af) k).1,bR (nth p.af k).count)=fR (Go.Proofs.YtimickglpboilaaGreatDoor.bump p k).af:=by
  rw [Bx hk]
  unfold fR Go.Proofs.YtimickglpboilaaGreatDoor.bump
  rw [List.map_set]
 rw [hset] at hput
 exact ⟨Af h.gi (h.kb _ hKb),h.kb,h.kn,fun i hi=>by have:=h.nb i hi;simpa using this,
  R.keep (NK fun i hi=>qj fun e=>hi (e▸h.kn _ hKb)) _ _ h.cs,⟨g,hput⟩,h.ks,h.ct⟩
structure MB(K N:Nat->Prop)(w:World)(b:Nat)(T:TypeId)(cs:Array Value):Prop where
 bl:aJ w b T cs
 n:N b
 k: ¬K b
 g:NG<=b
theorem MB.lt{b:Nat}{T:TypeId}{cs:Array Value}(h:MB K N w b T cs):b<w.heap.size:=h.bl.lt
theorem MB.bV{b:Nat}{T:TypeId}{cs:Array Value}(h:MB K N w b T cs)(hf:dY K w w'):MB K N w' b T cs:={h with bl:=h.bl.bV hf h.k}
theorem MB.below{b:Nat}{T:TypeId}{cs:Array Value}(h:MB K N w b T cs)(hb:Below w.heap.size w w'):MB K N w' b T cs:={h with bl:=h.bl.below hb h.bl.lt}
theorem MB.more{b:Nat}{T:TypeId}{cs:Array Value}(h:MB K N w b T cs)(hN: ∀b,N b->N' b):MB K N' w b T cs:={h with n:=hN _ h.n}
theorem MB.other{b b':Nat}{T:TypeId}{cs:Array Value}(h:MB K N w b T cs)(ho:gx w w' b')(hne:b≠b'):MB K N w' b T cs:={h with bl:=(ho.block _ hne).trans h.bl}
theorem MB.put{b:Nat}{T:TypeId}{cs cs':Array Value}(h:MB K N w b T cs)(hr:aJ w' b T cs'):MB K N w' b T cs':={h with bl:=hr}
theorem MB.far{b:Nat}{T:TypeId}{cs:Array Value}(h:MB K N w b T cs){a:Addr}(v:Value)(ha:K a.block):MB K N (w.setCell a v) b T cs:={h with bl:=h.bl.far (fun e=>h.k (e▸ha)) v}
theorem MB.new{b:Nat}{T:TypeId}{cs:Array Value}(h:PV K N w S1 S2 p)(hr:aJ w' b T cs)(hb:w.heap.size<=b)(hn:N' b):MB K N' w' b T cs :=
 ⟨hr,hn,fun hk=>by have:=h.nb _ (h.kn _ hk);omega,Nat.le_trans h.gi.2 hb⟩
end
theorem ach{P:Program}{fn:Func}{p u t3:Tmp}{ty jK:TypeId}(h:fn.results= #[.cell p ty,.cell u jK,.tmp t3])(tmps:Array Value)(w:World){g g2:Nat}{t t2:TypeId}{cs jv:Array Value}(d d2:TypeDesc)
  (hp:tmps.getD p undef= .pointer (some ⟨g,0,none⟩)) (hg:aJ w g t cs) (hu:P.underlying ty=some d) (hd:(match d with| .struct _| .array _ _=>true|_=>false)=true) (hi:(P.info? ty).map (·.size)=some cs.size)
  (oG:tmps.getD u undef= .pointer (some ⟨g2,0,none⟩)) (rF:aJ w g2 t2 jv) (kv:P.underlying jK=some d2) (ji:(match d2 with| .struct _| .array _ _=>true|_=>false)=true) (hi2:(P.info? jK).map (·.size)=some jv.size) :
  (results fn tmps).run P w= .ok (.tuple #[.agg cs,.agg jv,tmps.getD t3 undef]) w:=by
 have hp':tmps[p]?.getD undef= .pointer (some ⟨g,0,none⟩):=by simpa using hp
 have GI:tmps[u]?.getD undef= .pointer (some ⟨g2,0,none⟩):=by simpa using oG
 simp [results,h,hp',GI,asAddr,run_loadVar_row w g t ty cs (0,0) d hg hu hd hi,run_loadVar_row w g2 t2 jK jv (0,0) d2 rF kv ji hi2,Sem.run_bind,Result.andThen]
theorem NX.oV{n:Nat}{P:Program}{E:List (Nat×Value)}{w:World}{fn:Func}{R:Ending->World->Prop}{p u t3:Tmp}{ty jK:TypeId}{g g2:Nat}{t t2:TypeId}{cs jv:Array Value}{d d2:TypeDesc}{v:Value}(h:fn.results= #[.cell p ty,.cell u jK,.tmp t3])(hp:lk E p=some (.pointer (some ⟨g,0,none⟩)))(oG:lk E u=some (.pointer (some ⟨g2,0,none⟩)))(hv:lk E t3=some v)
  (hg:aJ w g t cs) (rF:aJ w g2 t2 jv) (hu:P.underlying ty=some d) (kv:P.underlying jK=some d2) (hd:(match d with| .struct _| .array _ _=>true|_=>false)=true) (ji:(match d2 with| .struct _| .array _ _=>true|_=>false)=true)
  (hi:(P.info? ty).map (·.size)=some cs.size) (hi2:(P.info? jK).map (·.size)=some jv.size) (hR:R (.returned (.tuple #[.agg cs,.agg jv,v])) w):NX n (bodyPost P fn R .ret) E w :=
 fun a hE=>⟨hE.df,_,ach h a.tmps w d d2 (hE.at' p _ hp) hg hu hd hi (hE.at' u _ oG) rF kv ji hi2,by rw [hE.at' t3 _ hv];exact hR⟩
end
section
open Go.RowKit Go
variable [GC]
section
variable {n:Nat}{P:Program}{Q:Exit->Act->World->Prop}{E:List (Nat×Value)}{w:World}
variable {t0 t1 t2 t3 t4 t5 t6 t7:Nat}{dA:TypeDesc}{o0 o1 o2 o3 o4 o5 o6 o7:Oper}{b' c' k':Nat}{s u s1 u1:ByteArray}
theorem BN{xl xc:Operand}{TC A1 A2 A3 A4:TypeId}{fC:Nat}
  (h0:o0.op= .move xl) (g0:o0.guard=none) (d0:o0.dst=some t0)
  (h1:o1.op= .binOp .eql A2 (.tmp t0) (.const (.string u)) A3) (g1:o1.guard=none) (d1:o1.dst=some t1)
  (h2:o2.op= .move (.tmp t1)) (g2:o2.guard=none) (d2:o2.dst=some t2)
  (h3:o3.op= .fieldAddr TC xc fC) (g3:o3.guard=some (2,true)) (d3:o3.dst=some t3)
  (h4:o4.op= .load A1 (.tmp t3)) (g4:o4.guard=some (2,true)) (d4:o4.dst=some t4)
  (h5:o5.op= .binOp .eql A2 (.tmp t4) (.const (.string u1)) A4) (g5:o5.guard=some (2,true)) (d5:o5.dst=some t5)
  (h6:o6.op= .pick (.tmp t2) (.tmp t5) (.const (.bool false))) (g6:o6.guard=none) (d6:o6.dst=some t6)
  (h7:o7.op= .assign (.tmp t6)) (g7:o7.guard=none) (d7:o7.dst=some t7)
  (hn:t0<n/\t1<n/\t2<n/\t3<n/\t4<n/\t5<n/\t6<n/\t7<n)
  (Bb: ∀z0 z1 z2,ev ((t2,z2)::(t1,z1)::(t0,z0)::E) xc=some (.pointer (some ⟨b',c',none⟩)))
  (dE:t2≠t5/\t2≠t4/\t2≠t3)
  (hxl:ev E xl=some (.string s)) (hA:P.underlying A1=some dA) (qX:uO dA=false)
  (yw:kO P TC fC=some k') (hc2:w.cell? ⟨b',c'+k',none⟩=some (.string s1))
  (h: ∀E',(∀t,t∉[t0,t1,t2,t3,t4,t5,t6,t7]->lk E' t=lk E t)->lk E' t7=some (.bool (fM .eql s u&&fM .eql s1 u1))->NX n (Q .normal) E' w) :
  WL n P #[o0,o1,o2,o3,o4,o5,o6,o7] Q [o0,o1,o2,o3,o4,o5,o6,o7] E w:=by
 obtain ⟨n0,n1,n2,n3,n4,n5,n6,n7⟩:=hn
 have bE: ∀t v (F:List (Nat×Value)),lk ((t,v)::F) t=some v:=fun t v F=>by simp [lk]
 have dc: ∀{t t' v} {F:List (Nat×Value)},t≠t'->lk ((t',v)::F) t=lk F t:=fun {t t' v F} hne=>by
  simp only [lk]
  cases hb:Nat.beq t' t with
  | false=>rfl
  | true=>exact absurd (Nat.eq_of_beq_eq_true hb).symm hne
 refine WL.vv g0 d0 (aU h0 hxl) n0 ?_
 refine WL.vv g1 d1 (rX h1 (bE _ _ _) rfl) n1 ?_
 refine WL.vv g2 d2 (aU h2 (bE _ _ _)) n2 ?_
 have fin: ∀(vs:List (Nat×Value)) (t:Nat),t∉[t0,t1,t2,t3,t4,t5,t6,t7]->(∀p∈vs,p.1∈[t0,t1,t2,t3,t4,t5,t6,t7])->lk (vs++E) t=lk E t:=by
  intro vs t ht
  induction vs with
  | nil=>intro _;rfl
  | cons p r ih =>
   intro hp
   obtain ⟨pt,pv⟩:=p
   have h1:pt∈[t0,t1,t2,t3,t4,t5,t6,t7]:=hp (pt,pv) (by simp)
   rw [List.cons_append,dc (fun e=>ht (by rw [e];exact h1))]
   exact ih fun q hq=>hp q (by simp [hq])
 cases hb:fM .eql s u with
 | false =>
  refine WL.no (b:=false) g3 (by simpa using d2) (by rw [bE]) d3 n3 ?_
  refine WL.no (b:=false) g4 (by simpa using d2) (by rw [dc dE.2.2,bE]) d4 n4 ?_
  refine WL.no (b:=false) g5 (by simpa using d2) (by rw [dc dE.2.1,dc dE.2.2,bE]) d5 n5 ?_
  refine WL.vv g6 d6 (pM h6 (by show lk _ _=_;rw [dc dE.1,dc dE.2.1,dc dE.2.2,bE]) rfl) n6 ?_
  refine WL.vv g7 d7 (cq h7 (bE _ _ _)) n7 (WL.nil (h _ (fun t ht=> ?_) (by rw [bE,hb];rfl)))
  exact fin [_,_,_,_,_,_,_,_] t ht (by simp)
 | true =>
  refine WL.vg (b:=true) g3 (by simpa using d2) (by rw [bE]) d3 (cO h3 (Bb _ _ _) yw) n3 ?_
  refine WL.vg (b:=true) g4 (by simpa using d2) (by rw [dc dE.2.2,bE]) d4 (cr h4 (bE _ _ _) hA qX hc2) n4 ?_
  refine WL.vg (b:=true) g5 (by simpa using d2) (by rw [dc dE.2.1,dc dE.2.2,bE]) d5 (rX h5 (bE _ _ _) rfl) n5 ?_
  refine WL.vv g6 d6 (wz h6 (by show lk _ _=_;rw [dc dE.1,dc dE.2.1,dc dE.2.2,bE]) (bE _ _ _)) n6 ?_
  refine WL.vv g7 d7 (cq h7 (bE _ _ _)) n7 (WL.nil (h _ (fun t ht=> ?_) (by rw [bE,hb,Bool.true_and])))
  exact fin [_,_,_,_,_,_,_,_] t ht (by simp)
theorem QF{xl xb:Operand}{bk:Bool}{A2 A3:TypeId}
  (h0:o0.op= .move xl) (g0:o0.guard=none) (d0:o0.dst=some t0)
  (h1:o1.op= .binOp .eql A2 (.tmp t0) (.const (.string u)) A3) (g1:o1.guard=none) (d1:o1.dst=some t1)
  (h2:o2.op= .move (.tmp t1)) (g2:o2.guard=none) (d2:o2.dst=some t2)
  (h3:o3.op= .move xb) (g3:o3.guard=some (2,true)) (d3:o3.dst=some t3)
  (h4:o4.op= .pick (.tmp t2) (.tmp t3) (.const (.bool false))) (g4:o4.guard=none) (d4:o4.dst=some t4)
  (h5:o5.op= .assign (.tmp t4)) (g5:o5.guard=none) (d5:o5.dst=some t5)
  (hn:t0<n/\t1<n/\t2<n/\t3<n/\t4<n/\t5<n)
  (hxb: ∀z0 z1 z2,ev ((t2,z2)::(t1,z1)::(t0,z0)::E) xb=some (.bool bk))
  (dE:t2≠t3)
  (hxl:ev E xl=some (.string s))
  (h: ∀E',(∀t,t∉[t0,t1,t2,t3,t4,t5]->lk E' t=lk E t)->lk E' t5=some (.bool (fM .eql s u&&bk))->NX n (Q .normal) E' w) :
  WL n P #[o0,o1,o2,o3,o4,o5] Q [o0,o1,o2,o3,o4,o5] E w:=by
 obtain ⟨n0,n1,n2,n3,n4,n5⟩:=hn
 have bE: ∀t v (F:List (Nat×Value)),lk ((t,v)::F) t=some v:=fun t v F=>by simp [lk]
 have dc: ∀{t t' v} {F:List (Nat×Value)},t≠t'->lk ((t',v)::F) t=lk F t:=fun {t t' v F} hne=>by
  simp only [lk]
  cases hb:Nat.beq t' t with
  | false=>rfl
  | true=>exact absurd (Nat.eq_of_beq_eq_true hb).symm hne
 refine WL.vv g0 d0 (aU h0 hxl) n0 ?_
 refine WL.vv g1 d1 (rX h1 (bE _ _ _) rfl) n1 ?_
 refine WL.vv g2 d2 (aU h2 (bE _ _ _)) n2 ?_
 have fin: ∀(vs:List (Nat×Value)) (t:Nat),t∉[t0,t1,t2,t3,t4,t5]->(∀p∈vs,p.1∈[t0,t1,t2,t3,t4,t5])->lk (vs++E) t=lk E t:=by
  intro vs t ht
  induction vs with
  | nil=>intro _;rfl
  | cons p r ih =>
   intro hp
   obtain ⟨pt,pv⟩:=p
   have h1:pt∈[t0,t1,t2,t3,t4,t5]:=hp (pt,pv) (by simp)
   rw [List.cons_append,dc (fun e=>ht (by rw [e];exact h1))]
   exact ih fun q hq=>hp q (by simp [hq])
 cases hb:fM .eql s u with
 | false =>
  refine WL.no (b:=false) g3 (by simpa using d2) (by rw [bE]) d3 n3 ?_
  refine WL.vv g4 d4 (pM h4 (by show lk _ _=_;rw [dc dE,bE]) rfl) n4 ?_
  refine WL.vv g5 d5 (cq h5 (bE _ _ _)) n5 (WL.nil (h _ (fun t ht=> ?_) (by rw [bE,hb];rfl)))
  exact fin [_,_,_,_,_,_] t ht (by simp)
 | true =>
  refine WL.vg (b:=true) g3 (by simpa using d2) (by rw [bE]) d3 (aU h3 (hxb _ _ _)) n3 ?_
  refine WL.vv g4 d4 (wz h4 (by show lk _ _=_;rw [dc dE,bE]) (bE _ _ _)) n4 ?_
  refine WL.vv g5 d5 (cq h5 (bE _ _ _)) n5 (WL.nil (h _ (fun t ht=> ?_) (by rw [bE,hb,Bool.true_and])))
  exact fin [_,_,_,_,_,_] t ht (by simp)
end
end
section
open Go.RowKit Go
variable [GC]
theorem tr(w:World)(z:Array Value)(T:TypeId):Below w.heap.size w (w.alloc (.cells z T)):=by go_grown
theorem PV.alloc{K N:Nat->Prop}{w:World}{S1 S2:Value}{p:Part}(h:PV K N w S1 S2 p)(T:TypeId)(z:Array Value) :
  ∃w' N',w'=w.alloc (.cells z T)/\Below w.heap.size w w'/\(∀b,N b->N' b)/\PV K N' w' S1 S2 p/\MB K N' w' w.heap.size T z/\w'.heap.size=w.heap.size+1:=by
 have hb:=tr w z T
 have hs:(w.alloc (.cells z T)).heap.size=w.heap.size+1:=by simp [World.size_alloc]
 have hN:PV K (fun i=>N i\/i=w.heap.size) (w.alloc (.cells z T)) S1 S2 p:=h.new hb (fun b hb=>hb.imp id fun e=>by omega) (fun b hb=> .inl hb) fun b hb=>by
  rcases hb with hb|hb
  ·have:=h.nb b hb;omega
  ·omega
 exact ⟨_,_,rfl,hb,fun b hb=> .inl hb,hN,MB.new h (aJ.new w T z) (Nat.le_refl _) (.inr rfl),hs⟩
def wU(K N:Nat->Prop)(w:World)(S2:Value)(y:Part×da)(e:Ending)(w':World):Prop :=
 ∃lF,e= .returned (.tuple #[.agg (aE y.1 lF S2),.agg (dV y.2)])/\PV K N w' lF S2 y.1/\dY K w w'
def wW(k:Nat):Prop:= ∀(K N:Nat->Prop) (w:World) (S1 S2:Value) (p:Part) (x:Call),PV K N w S1 S2 p->ni x->eV p=true->ek x=true->k<=p.af.length->cK (eC p k) (bI x.method)=true ->
 Calls Tryz.prog 32 #[.agg (aE p S1 S2),.int .i64 ((k:Nat):Int),dL x] w (wU K N w S2 (aA k p x))
def mf(K N:Nat->Prop)(w:World)(S2:Value)(k:Nat)(p:Part)(x:Call)(e:Ending)(w':World):Prop :=
 ∃lF q r own,e= .returned (.tuple #[.agg (aE q lF S2),.agg (dV r),.bool own])/\PV K N w' lF S2 q/\dY K w w'/\(own=true->aA (k+1) p x=(q,r))/\(own=false->q=p/\aA (k+1) p x=aA k p x/\cK (eC p k) (bI x.method)=true)
def JJ(k:Nat):Prop:= ∀(K N:Nat->Prop) (w:World) (S1 S2:Value) (p:Part) (x:Call),PV K N w S1 S2 p->ni x->eV p=true->ek x=true->k+1<=p.af.length->cK (eC p (k+1)) (bI x.method)=true ->
 Calls Tryz.prog 61 #[.agg (aE p S1 S2),.int .i64 ((k+1:Nat):Int),dL x] w (mf K N w S2 k p x)
theorem mf.mk{K N N':Nat->Prop}{w w':World}{S1 S2:Value}{k:Nat}{p q:Part}{x:Call}{r:da}{own:Bool}{e:Ending}(he:e= .returned (.tuple #[.agg (aE q S1 S2),.agg (dV r),.bool own]))(H:PV K N' w' S1 S2 q)(hN: ∀b,N b->N' b)(hK: ∀b,K b->N b)(hF:dY K w w')
  (h1:own=true->aA (k+1) p x=(q,r)) (h2:own=false->q=p/\aA (k+1) p x=aA k p x/\cK (eC p k) (bI x.method)=true):mf K N w S2 k p x e w' :=
 ⟨S1,q,r,own,he,H.less hN hK,hF,h1,h2⟩
theorem SX{K N:Nat->Prop}{w:World}{S1 S2:Value}{p:Part}(h:PV K N w S1 S2 p)(n:Int)(hn:eU n=true) :
  Calls Tryz.prog 87 #[.int .i64 n] w fun e w'=>e= .returned (.int .i64 (bR n))/\Below w.heap.size w w':=by
 have hn':=rS.1 hn
 refine (aD.calls (Cu n hn) (vs:=[.int .i64 n]) h.lZ ⟨_,[],rfl,⟨rfl,by have:IntKind.i64.min= -9223372036854775808/\IntKind.i64.max=9223372036854775807:=(by decide);omega⟩,rfl⟩).mono ?_
 rintro e w' ⟨v,rfl,⟨rfl,h1⟩,h3⟩
 exact ⟨rfl,h3⟩
theorem VY(a b:Int):aD Tryz.prog 88 none [.int .i64 a,.int .i64 b] (.int .i64 (if a<b then a else b)) []:=by
 refine aD.bK ain agy rfl ?_ (fun hfit=> ?_)
 ·exact ⟨rfl,rfl,trivial⟩
 unfold Sz
 refine aG (fun h=>aF ?_) (fun h=>aF ?_)
 ·simp only [E.den,aa,ai,aj] at h ⊢
  have h:a<b:=by simpa using h
  rw [if_pos h]
 ·simp only [E.den,aa,ai,aj] at h ⊢
  have h: ¬a<b:=by simpa using h
  rw [if_neg h]
theorem ai4{K N:Nat->Prop}{w:World}{S1 S2:Value}{p:Part}(h:PV K N w S1 S2 p)(a:Int)(ha:IntKind.i64.min<=a/\a<=IntKind.i64.max) :
  Calls Tryz.prog 88 #[.int .i64 a,.int .i64 999] w fun e w'=>e= .returned (.int .i64 (min a 999))/\Below w.heap.size w w':=by
 refine (aD.calls (VY a 999) (vs:=[.int .i64 a,.int .i64 999]) h.lZ ⟨_,_,rfl,⟨rfl,ha⟩,_,[],rfl,⟨rfl,by decide⟩,rfl⟩).mono ?_
 rintro e w' ⟨v,rfl,⟨rfl,h1⟩,h3⟩
 refine ⟨?_,h3⟩
 congr 2
 split<;>congr 1<;>omega
theorem ai2{K N:Nat->Prop}{w:World}{S1 S2:Value}{p:Part}(h:PV K N w S1 S2 p)(x:Call)(hx:ni x)(hp:eV p=true)(hc:ek x=true)(ho:cK (eC p 0) (bI x.method)=true) :
  Calls Tryz.prog 60 #[.agg #[.string p.core.kind,.bool p.core.on,.bool p.core.broken,S1,.int .i64 p.core.count],dL x] w fun e w' =>
   ∃lF,e= .returned (.tuple #[.agg #[.string (bJ p.core x).1.kind,.bool (bJ p.core x).1.on,.bool (bJ p.core x).1.broken,lF,.int .i64 (bJ p.core x).1.count],.agg (dV (bJ p.core x).2)])/\PV K N w' lF S2 ⟨(bJ p.core x).1,p.af⟩/\Below w.heap.size w w':=by
 have Ds:=(nS.1 hp).1
 have hk:eC p 0=dO p.core.kind:=by unfold eC;rw [if_pos rfl]
 rw [hk] at ho
 refine (aD.calls (VL p.core x Ds hc ho hx.text) (vs:=[.agg #[.string p.core.kind,.bool p.core.on,.bool p.core.broken,S1,.int .i64 p.core.count],dL x]) h.lZ ⟨_,_,rfl,⟨_,rfl,_,_,rfl,⟨rfl,h.ks⟩,_,_,rfl,rfl,_,_,rfl,rfl,_,_,rfl,h.cs,_,_,rfl,⟨rfl,h.ct⟩,rfl⟩,_,[],rfl,
  ⟨_,rfl,_,_,rfl,⟨rfl,hx.method⟩,_,_,rfl,⟨rfl,hx.key⟩,_,_,rfl,⟨rfl,hx.val⟩,_,_,rfl,⟨rfl,by have:=hx.text;unfold maxLen;omega⟩,rfl⟩,rfl⟩).mono ?_
 rintro e w' ⟨v,rfl,⟨cs,rfl,v0,r0,e0,⟨c0,rfl,y0,q0,e1,⟨rfl,k0⟩,y1,q1,rfl,rfl,y2,q2,rfl,rfl,y3,q3,rfl,h3,y4,q4,rfl,⟨rfl,k4⟩,rfl⟩,v1,r1,rfl,⟨c1,rfl,z0,s0,e2,⟨rfl,_⟩,z1,s1,rfl,⟨rfl,_⟩,z2,s2,rfl,⟨rfl,_⟩,z3,s3,rfl,⟨rfl,_⟩,z4,s4,rfl,⟨rfl,_⟩,rfl⟩,rfl⟩,hb⟩
 have hc0:c0=_:=Array.toList_inj.1 (e1.trans (rfl:_=(#[_,_,_,_,_]:Array Value).toList))
 have hc1:c1=_:=Array.toList_inj.1 (e2.trans (rfl:_=(#[_,_,_,_,_]:Array Value).toList))
 have hcs:cs=_:=Array.toList_inj.1 (e0.trans (rfl:_=(#[_,_]:Array Value).toList))
 subst hc0 hc1 hcs
 have hB:=h.below hb
 exact ⟨y3,rfl,{hB with cs:=h3,ks:=k0,ct:=k4},hb⟩
theorem uT(m:ByteArray):uU Tryz.prog 43 [(0,.string m)]=some #[.string m,.string cI,.int .i64 0,.string cI]:=by kernel_rfl
theorem UU:uU Tryz.prog 39 []=some (dV (rep 0 0 0 0)):=by kernel_rfl
end
section
open Go.RowKit Go
variable [GC]
section
variable {n:Nat}{P:Program}{Q:Exit->Act->World->Prop}{E:List (Nat×Value)}{w:World}
end
section
variable {n:Nat}{P:Program}{ops:Array Oper}{Q:Exit->Act->World->Prop}{S:World->Prop}{s k:Nat}{L L':Array Bool}{E E':List (Nat×Value)}{w w':World}{i j d:Nat}{o:Oper}{v:Value}
def dX(n:Nat)(P:Program)(ops:Array Oper)(Q:Exit->Act->World->Prop)(S:World->Prop)(s k:Nat)(L:Array Bool)(E:List (Nat×Value))(w:World)(i:Nat):Prop:= ∀a,Env n a E->wpOp P ops Q i (fun a' w'=>(i≠s->S w')/\ko P .any ops Q S s k (L.setIfInBounds i true) a' w') a w
theorem AU.m1(hr:Region.ready .any ops L=[i])(h:dX n P ops Q S s k L E w i):AU n P ops Q S s (k+1) L E w:=fun a hE=>⟨fun e=>(by rw [hr] at e;cases e),fun x hx=>by
 rw [hr] at hx
 cases List.mem_singleton.1 hx
 exact h a hE⟩
theorem AU.m2(hr:Region.ready .any ops L=[i,j])(h:dX n P ops Q S s k L E w i)(h2:dX n P ops Q S s k L E w j):AU n P ops Q S s (k+1) L E w:=fun a hE=>⟨fun e=>(by rw [hr] at e;cases e),fun x hx=>by
 rw [hr] at hx
 rcases List.mem_cons.1 hx with rfl|hx
 ·exact h a hE
 ·cases List.mem_singleton.1 hx
  exact h2 a hE⟩
theorem AU.m3{l:Nat}(hr:Region.ready .any ops L=[i,j,l])(h:dX n P ops Q S s k L E w i)(h2:dX n P ops Q S s k L E w j)(h3:dX n P ops Q S s k L E w l):AU n P ops Q S s (k+1) L E w:=fun a hE=>⟨fun e=>(by rw [hr] at e;cases e),fun x hx=>by
 rw [hr] at hx
 rcases List.mem_cons.1 hx with rfl|hx
 ·exact h a hE
 rcases List.mem_cons.1 hx with rfl|hx
 ·exact h2 a hE
 ·cases List.mem_singleton.1 hx
  exact h3 a hE⟩
theorem dX.vv(hi:ops.toList[i]? =some o)(hg:o.guard=none)(hd:o.dst=some d)(hrun:fk n P E o w v w')(fP:d<n)(hS:S w')(h:AU n P ops Q S s k (L.setIfInBounds i true) ((d,v)::E) w'):dX n P ops Q S s k L E w i:=fun a hE =>
 uN.op (by rw [<-Array.getElem?_toList];exact hi) fun K' hK=>by
  rw [if_pos (wR hg _)]
  unfold Oper.wp
  rw [hrun a hE,Oper.upon_value,hd]
  exact hK _ _ (fun _=>hS) fun _=>h _ (hE.put fP v)
theorem dX.c{f:FuncId}{args:Array Value}{R:Ending->World->Prop}(hi:ops.toList[i]? =some o)(hg:o.guard=none)(hd:o.dst=some d)(hrun:xn n P E o w f args)(fP:d<n)(hC:Calls P f args w R)
  (h: ∀e w',R e w'-> ∃v,e= .returned v/\S w'/\AU n P ops Q S s k (L.setIfInBounds i true) ((d,v)::E) w'):dX n P ops Q S s k L E w i:=fun a hE =>
 uN.op (by rw [<-Array.getElem?_toList];exact hi) fun K' hK=>by
  rw [if_pos (wR hg _)]
  unfold Oper.wp
  rw [hrun a hE]
  refine hC.mono fun e w' he=> ?_
  obtain ⟨v,rfl,hS,hv⟩:=h e w' he
  rw [hd]
  exact hK _ _ (fun _=>hS) fun _=>hv _ (hE.put fP v)
theorem AU.re(hL:L=L')(hs:eK E E')(h:AU n P ops Q S s k L' E' w):AU n P ops Q S s k L E w:=fun a hE=>hL▸h a (hE.sub hs)
def regs:Code->List (Nat×Array Oper)
 | .region id ops _=>[(id,ops)]
 | .seq a b=>regs a++regs b
 | .cond _ a b=>regs a++regs b
 | .block _ c=>regs c
 | .loop c=>regs c
 | _=>[]
def aca(fn:Func)(id:Nat):Array Oper:=match fn.body with
 | some c=>(((regs c).find? fun p=>Nat.beq p.1 id).map (·.2)).getD #[]
 | none=> #[]
def abu:Oper:={dst:=none,op:= .move (.const (.bool true)),type:=0,pos:= "",after:= #[],guard:=none}
def opAt(ops:Array Oper)(i:Nat):Oper:=(ops.toList[i]?).getD abu
theorem dQ{x:Operand}{i:Nat}{vs:Array Value}(ho:o.op= .extract x i)(hx:ev E x=some (.tuple vs))(hv:vs[i]? =some v):fk n P E o w v w:=fun a hE=>by
 simp [execOp,ho,hE.ev hx,Instr.extract,hv]
end
end
section
open Go.RowKit Go
variable [GC]
abbrev PH(b:Nat):Value:= .pointer (some ⟨b,0,none⟩)
def lh(l:List Nat):Array Bool:=((List.range 17).map fun i=>l.any (Nat.beq i)).toArray
theorem DV{n:Nat}{P:Program}{E:List (Nat×Value)}{o:Oper}{w:World}{T e:TypeId}{i:TypeInfo}{x y:Operand}{s t z:ByteArray}(ho:o.op= .buildSlice T 2 #[(0,x),(1,y)])(hx:ev E x=some (.string s))(hy:ev E y=some (.string t))(hT:P.underlying T=some (.slice e))(hi:P.info? e=some i)(hsz:i.size=1)(hz:i.zero=some (.string z)) :
  fk n P E o w (.slice (some ⟨w.heap.size,0,none⟩) 2 2) (w.alloc (.cells #[.string s,.string t] e)):=fun a hE=>by
 have hr:Array.range 2= #[0,1]:=rfl
 simp [execOp,ho,hE.ev hx,hE.ev hy,Instr.buildSlice,run_underlying hT,run_sizeOf hi,hsz,zeroValue,run_typeInfo hi,hz,Value.cells,Instr.fill,newRow,hr]
structure HS(K N:Nat->Prop)(w:World)(S2:Value)(N':Nat->Prop)(W:World)(S1:Value)(q:Part):Prop where
 h:PV K N' W S1 S2 q
 hf:dY K w W
 hn: ∀i,N i->N' i
structure BX(K N':Nat->Prop)(W:World)(p:Part)(x:Call)(S1 S2:Value)(lo g3 g5 g6 g7 g15:Nat):Prop where
 m3:MB K N' W g3 37 (aE p S1 S2)
 m5:MB K N' W g5 43 #[.string x.method,.string x.key,.int .i64 x.val,.string x.text]
 m6:MB K N' W g6 37 bF
 m7:MB K N' W g7 39 aY
 m15:MB K N' W g15 37 (aE p S1 S2)
 lt:g3<lo/\g5<lo/\g6<lo/\g7<lo/\g15<lo
section
variable {K N N' cU:Nat->Prop}{w W W':World}{p q:Part}{x:Call}{S1 S2 U:Value}{lo g3 g5 g6 g7 g15:Nat}
theorem BX.map(h:BX K N' W p x S1 S2 lo g3 g5 g6 g7 g15)(f: ∀b T cs,b<lo->MB K N' W b T cs->MB K cU W' b T cs):BX K cU W' p x S1 S2 lo g3 g5 g6 g7 g15 :=
 ⟨f _ _ _ h.lt.1 h.m3,f _ _ _ h.lt.2.1 h.m5,f _ _ _ h.lt.2.2.1 h.m6,f _ _ _ h.lt.2.2.2.1 h.m7,f _ _ _ h.lt.2.2.2.2 h.m15,h.lt⟩
theorem HS.below(h:HS K N w S2 N' W U q)(hb:Below W.heap.size W W'):HS K N w S2 N' W' U q:=⟨h.h.below hb,h.hf.bQ hb,h.hn⟩
theorem HS.one{b:Nat}(h:HS K N w S2 N' W U q){T:TypeId}{cs:Array Value}(hm:MB K N' W b T cs)(ho:gx W W' b)(hw:w.heap.size<=b):HS K N w S2 N' W' U q:=⟨h.h.one ho hm.n hm.k hm.g,h.hf.one ho (.inr hw),h.hn⟩
end
noncomputable def bC:Array Oper:=aca Tryz.f61 22
noncomputable def Cz:Go.Call:=match (opAt bC 9).op with
 | .call c=>c
 | _=>{callee:= .value (.const (.bool true)),args:= #[],argTypes:= #[]}
def sH(q:Part)(x:Call)(S1 S2:Value)(g5 g15:Nat):World->Prop:=fun W=>aJ W g15 37 (aE q S1 S2)/\aJ W g5 43 #[.string x.method,.string x.key,.int .i64 x.val,.string x.text]
theorem BX.s{K N':Nat->Prop}{W:World}{p:Part}{x:Call}{S1 S2:Value}{lo g3 g5 g6 g7 g15:Nat}(h:BX K N' W p x S1 S2 lo g3 g5 g6 g7 g15):sH p x S1 S2 g5 g15 W:=⟨h.m15.bl,h.m5.bl⟩
theorem CP:CO Tryz.prog 114=some 1:=by kernel_rfl
theorem DD: ∃i,Tryz.prog.info? 9=some i/\i.size=1/\i.zero=some (.string ⟨#[]⟩):=⟨_,rfl,rfl,rfl⟩
set_option maxHeartbeats 8000000 in
theorem ab9{k:Nat}(IH:wW k){K N:Nat->Prop}{w:World}{q:Part}{x:Call}{S1 S2:Value}{m:ByteArray}{j lo g3 g5 g6 g7 g15:Nat}{Q:Exit->Act->World->Prop}(hQ: ∀c a t v w,Q (.panic c) (Act.put a t v) w->Q (.panic c) a w)
  (hj:(#[Value.string bZ,.string mStart])[j]? =some (.string m)) (hj2:j<2) (mM:x.val=(j:Int)) (Dk:ni (br m)) (yF:ek (br m)=true) (hq:eV q=true) (hk:k<=q.af.length) (hmo:cK (eC q k) (bI (br m).method)=true) (hlw:w.heap.size<=lo)
  (fin: ∀(N':Nat->Prop) (W:World) (U:Value) (b16 b17:Nat),HS K N w S2 N' W U (aA k q (br m)).1->BX K N' W q x S1 S2 lo g3 g5 g6 g7 g15->MB K N' W b16 37 (aE (aA k q (br m)).1 U S2)->MB K N' W b17 39 (dV (aA k q (br m)).2)->lo<=b16->lo<=b17->b16≠b17->lo<=W.heap.size ->
   NX 235 (Q .normal) [(6,PH g6),(7,PH g7),(16,PH b16),(17,PH b17)] W)
  (N':Nat->Prop) (W:World) (H:HS K N w S2 N' W S1 q) (X:BX K N' W q x S1 S2 lo g3 g5 g6 g7 g15) (hlo:lo<=W.heap.size) :
  AU 235 Tryz.prog bC Q (sH q x S1 S2 g5 g15) 16 17 (Array.replicate 17 false) [(1,.int .i64 ((k+1:Nat):Int)),(5,PH g5),(6,PH g6),(7,PH g7),(15,PH g15)] W:=by
 have hw:cv .sub .i64 ((k+1:Nat):Int) 1=(k:Int):=by
  have:=(nS.1 hq).2.1
  rw [jO (by omega) (by omega)];omega
 have IE: ∀(N':Nat->Prop) (W:World) (U:Value) (b16:Nat) (b17:Nat),HS K N w S2 N' W U (aA k q (br m)).1->BX K N' W q x S1 S2 lo g3 g5 g6 g7 g15->lo<=W.heap.size->MB K N' W b16 37 bF/\lo<=b16->MB K N' W b17 39 aY/\lo<=b17->b16≠b17->AU 235 Tryz.prog bC Q (sH q x S1 S2 g5 g15) 16 2 (lh [0,1,2,3,4,5,6,7,8,9,10,11,12,13,14]) [(6,PH g6),(7,PH g7),(177,.agg (aE (aA k q (br m)).1 U S2)),(178,.agg (dV (aA k q (br m)).2)),(16,PH b16),(17,PH b17)] W:=by
  intro N' W U b16 b17 H X hlo dz dG hne
  obtain ⟨l3,l5,l6,l7,l15⟩:=X.lt
  refine AU.st (o:=opAt bC 15) 15 (by kernel_rfl) (by kernel_rfl) (by kernel_rfl) (by kernel_rfl) (T:=37) (x:= .tmp 16) (y:= .tmp 177) (C:=bF) (by kernel_rfl) rfl rfl dz.1.bl rfl H.h.gq aW (fun w' ho _=>⟨(ho.block _ (by omega)).trans X.m15.bl,(ho.block _ (by omega)).trans X.m5.bl⟩) fun W1 R1 O1=> ?_
  have H1:=H.one dz.1 O1 (by omega)
  have X1:=X.map fun b T cs hb hm=>hm.other O1 (by omega)
  have F5:=dG.1.other O1 (by omega)
  have XI:=dz.1.put R1
  refine AU.st (o:=opAt bC 16) 16 (by kernel_rfl) (by kernel_rfl) (by kernel_rfl) (by kernel_rfl) (T:=39) (x:= .tmp 17) (y:= .tmp 178) (C:=aY) (by kernel_rfl) rfl rfl F5.bl rfl (cX _) bn (fun _ _ h=>absurd rfl h) fun W2 R2 O2=> ?_
  have H2:=H1.one F5 O2 (by omega)
  have X2:=X1.map fun b T cs hb hm=>hm.other O2 (by omega)
  have XJ:=XI.other O2 (by omega)
  have XK:=F5.put R2
  refine AU.done (by kernel_rfl) ?_
  exact fun ac hE=>fin _ _ _ _ _ H2 X2 XJ XK dz.2 dG.2 hne (by have:=O1.size;have:=O2.size;omega) ac (hE.sub ⟨rfl,rfl,rfl,rfl,trivial⟩)
 have Qb: ∀(N':Nat->Prop) (W:World) (U:Value) (b16:Nat),HS K N w S2 N' W U (aA k q (br m)).1->BX K N' W q x S1 S2 lo g3 g5 g6 g7 g15->lo<=W.heap.size->MB K N' W b16 37 bF/\lo<=b16->AU 235 Tryz.prog bC Q (sH q x S1 S2 g5 g15) 16 3 (lh [0,1,2,3,4,5,6,7,8,9,10,11,12,13]) [(6,PH g6),(7,PH g7),(177,.agg (aE (aA k q (br m)).1 U S2)),(178,.agg (dV (aA k q (br m)).2)),(16,PH b16)] W:=by
  intro N' W U b16 H X hlo dz
  refine AU.m1 (show Region.ready .any bC (lh [0,1,2,3,4,5,6,7,8,9,10,11,12,13])=[14] by kernel_rfl) ?_
  ·obtain ⟨W',cU,eW,hb,hN,H',M,hsz⟩:=H.h.alloc 39 aY
   have X':BX K cU W' q x S1 S2 lo g3 g5 g6 g7 g15:=X.map fun b T cs _ hm=>(hm.below hb).more hN
   have HH:HS K N w S2 cU W' _ _:=⟨H',H.hf.bQ hb,fun i hi=>hN i (H.hn i hi)⟩
   refine dX.vv (o:=opAt bC 14) (d:=17) (w':=W') (by kernel_rfl) (by kernel_rfl) (by kernel_rfl) (by rw [eW];exact cJ (z:= .agg aY) (by kernel_rfl) gK) (by decide) X'.s ?_
   exact AU.re (by kernel_rfl) (show eK _ [(6,PH g6),(7,PH g7),(177,.agg (aE (aA k q (br m)).1 U S2)),(178,.agg (dV (aA k q (br m)).2)),(16,PH b16),(17,PH W.heap.size)] from ⟨rfl,rfl,rfl,rfl,rfl,rfl,trivial⟩) (IE _ _ _ _ _ HH  X'  (by omega)  ⟨(dz.1.below hb).more hN,dz.2⟩  ⟨M,hlo⟩  (by have:=dz.1.lt;omega))
 have Qa: ∀(N':Nat->Prop) (W:World) (U:Value) (b17:Nat),HS K N w S2 N' W U (aA k q (br m)).1->BX K N' W q x S1 S2 lo g3 g5 g6 g7 g15->lo<=W.heap.size->MB K N' W b17 39 aY/\lo<=b17->AU 235 Tryz.prog bC Q (sH q x S1 S2 g5 g15) 16 3 (lh [0,1,2,3,4,5,6,7,8,9,10,11,12,14]) [(6,PH g6),(7,PH g7),(177,.agg (aE (aA k q (br m)).1 U S2)),(178,.agg (dV (aA k q (br m)).2)),(17,PH b17)] W:=by
  intro N' W U b17 H X hlo dG
  refine AU.m1 (show Region.ready .any bC (lh [0,1,2,3,4,5,6,7,8,9,10,11,12,14])=[13] by kernel_rfl) ?_
  ·obtain ⟨W',cU,eW,hb,hN,H',M,hsz⟩:=H.h.alloc 37 bF
   have X':BX K cU W' q x S1 S2 lo g3 g5 g6 g7 g15:=X.map fun b T cs _ hm=>(hm.below hb).more hN
   have HH:HS K N w S2 cU W' _ _:=⟨H',H.hf.bQ hb,fun i hi=>hN i (H.hn i hi)⟩
   refine dX.vv (o:=opAt bC 13) (d:=16) (w':=W') (by kernel_rfl) (by kernel_rfl) (by kernel_rfl) (by rw [eW];exact cJ (z:= .agg bF) (by kernel_rfl) gJ) (by decide) X'.s ?_
   exact AU.re (by kernel_rfl) (show eK _ [(6,PH g6),(7,PH g7),(177,.agg (aE (aA k q (br m)).1 U S2)),(178,.agg (dV (aA k q (br m)).2)),(16,PH W.heap.size),(17,PH b17)] from ⟨rfl,rfl,rfl,rfl,rfl,rfl,trivial⟩) (IE _ _ _ _ _ HH  X'  (by omega)  ⟨M,hlo⟩  ⟨(dG.1.below hb).more hN,dG.2⟩  (by have:=dG.1.lt;omega))
 have acS: ∀(N':Nat->Prop) (W:World) (U:Value),HS K N w S2 N' W U (aA k q (br m)).1->BX K N' W q x S1 S2 lo g3 g5 g6 g7 g15->lo<=W.heap.size->AU 235 Tryz.prog bC Q (sH q x S1 S2 g5 g15) 16 4 (lh [0,1,2,3,4,5,6,7,8,9,10,11,12]) [(6,PH g6),(7,PH g7),(177,.agg (aE (aA k q (br m)).1 U S2)),(178,.agg (dV (aA k q (br m)).2))] W:=by
  intro N' W U H X hlo
  refine AU.m2 (show Region.ready .any bC (lh [0,1,2,3,4,5,6,7,8,9,10,11,12])=[13,14] by kernel_rfl) ?_ ?_
  ·obtain ⟨W',cU,eW,hb,hN,H',M,hsz⟩:=H.h.alloc 37 bF
   have X':BX K cU W' q x S1 S2 lo g3 g5 g6 g7 g15:=X.map fun b T cs _ hm=>(hm.below hb).more hN
   have HH:HS K N w S2 cU W' _ _:=⟨H',H.hf.bQ hb,fun i hi=>hN i (H.hn i hi)⟩
   refine dX.vv (o:=opAt bC 13) (d:=16) (w':=W') (by kernel_rfl) (by kernel_rfl) (by kernel_rfl) (by rw [eW];exact cJ (z:= .agg bF) (by kernel_rfl) gJ) (by decide) X'.s ?_
   exact AU.re (by kernel_rfl) (show eK _ [(6,PH g6),(7,PH g7),(177,.agg (aE (aA k q (br m)).1 U S2)),(178,.agg (dV (aA k q (br m)).2)),(16,PH W.heap.size)] from ⟨rfl,rfl,rfl,rfl,rfl,trivial⟩) (Qb _ _ _ _ HH  X'  (by omega)  ⟨M,hlo⟩)
  ·obtain ⟨W',cU,eW,hb,hN,H',M,hsz⟩:=H.h.alloc 39 aY
   have X':BX K cU W' q x S1 S2 lo g3 g5 g6 g7 g15:=X.map fun b T cs _ hm=>(hm.below hb).more hN
   have HH:HS K N w S2 cU W' _ _:=⟨H',H.hf.bQ hb,fun i hi=>hN i (H.hn i hi)⟩
   refine dX.vv (o:=opAt bC 14) (d:=17) (w':=W') (by kernel_rfl) (by kernel_rfl) (by kernel_rfl) (by rw [eW];exact cJ (z:= .agg aY) (by kernel_rfl) gK) (by decide) X'.s ?_
   exact AU.re (by kernel_rfl) (show eK _ [(6,PH g6),(7,PH g7),(177,.agg (aE (aA k q (br m)).1 U S2)),(178,.agg (dV (aA k q (br m)).2)),(17,PH W.heap.size)] from ⟨rfl,rfl,rfl,rfl,rfl,trivial⟩) (Qa _ _ _ _ HH  X'  (by omega)  ⟨M,hlo⟩)
 have ID: ∀(N':Nat->Prop) (W:World) (b16:Nat) (b17:Nat),HS K N w S2 N' W S1 q->BX K N' W q x S1 S2 lo g3 g5 g6 g7 g15->lo<=W.heap.size->MB K N' W b16 37 bF/\lo<=b16->MB K N' W b17 39 aY/\lo<=b17->b16≠b17->AU 235 Tryz.prog bC Q (sH q x S1 S2 g5 g15) 16 6 (lh [0,1,2,3,4,5,6,7,8,13,14]) [(6,PH g6),(7,PH g7),(167,.agg (aE q S1 S2)),(169,.int .i64 ((k:Nat):Int)),(175,.agg #[.string m,.string cI,.int .i64 0,.string cI]),(16,PH b16),(17,PH b17)] W:=by
  intro N' W b16 b17 H X hlo dz dG hne
  refine AU.m1 (show Region.ready .any bC (lh [0,1,2,3,4,5,6,7,8,13,14])=[9] by kernel_rfl) ?_
  ·refine dX.c (o:=opAt bC 9) (d:=176) (by kernel_rfl) (by kernel_rfl) (by kernel_rfl) (bT (cl:=Cz) (args:= #[.agg (aE q S1 S2),.int .i64 ((k:Nat):Int),.agg #[.string m,.string cI,.int .i64 0,.string cI]]) (by kernel_rfl) (by kernel_rfl) (by kernel_rfl) rfl) (by decide) (IH K N' W S1 S2 q (br m) H.h Dk hq yF hk hmo) ?_
   rintro _ W' ⟨U,rfl,H',hf⟩
   have X:=X.map fun b T cs _ hm=>hm.bV hf
   have hsz:=hf.size
   refine ⟨_,rfl,X.s,?_⟩
   refine AU.tk (o:=opAt bC 10) (d:=166) 10 (by kernel_rfl) (by kernel_rfl) (fun _ _ _ h=>hQ _ _ _ _ _ h) (by kernel_rfl) (by kernel_rfl) (fun W hW=>aU (x:= .tmp 176) (by kernel_rfl) rfl) (by decide) X.s ?_
   refine AU.tk (o:=opAt bC 11) (d:=177) 11 (by kernel_rfl) (by kernel_rfl) (fun _ _ _ h=>hQ _ _ _ _ _ h) (by kernel_rfl) (by kernel_rfl) (fun W hW=>dQ (x:= .tmp 166) (i:=0) (by kernel_rfl) rfl rfl) (by decide) X.s ?_
   refine AU.tk (o:=opAt bC 12) (d:=178) 12 (by kernel_rfl) (by kernel_rfl) (fun _ _ _ h=>hQ _ _ _ _ _ h) (by kernel_rfl) (by kernel_rfl) (fun W hW=>dQ (x:= .tmp 166) (i:=1) (by kernel_rfl) rfl rfl) (by decide) X.s ?_
   exact AU.re (by kernel_rfl) (show eK _ [(6,PH g6),(7,PH g7),(177,.agg (aE (aA k q (br m)).1 U S2)),(178,.agg (dV (aA k q (br m)).2)),(16,PH b16),(17,PH b17)] from ⟨rfl,rfl,rfl,rfl,rfl,rfl,trivial⟩) (IE _ _ _ _ _ ⟨H',H.hf.mY hf,H.hn⟩ X (by omega) ⟨dz.1.bV hf,dz.2⟩ ⟨dG.1.bV hf,dG.2⟩ hne)
 have P9: ∀(N':Nat->Prop) (W:World) (b16:Nat),HS K N w S2 N' W S1 q->BX K N' W q x S1 S2 lo g3 g5 g6 g7 g15->lo<=W.heap.size->MB K N' W b16 37 bF/\lo<=b16->AU 235 Tryz.prog bC Q (sH q x S1 S2 g5 g15) 16 7 (lh [0,1,2,3,4,5,6,7,8,13]) [(6,PH g6),(7,PH g7),(167,.agg (aE q S1 S2)),(169,.int .i64 ((k:Nat):Int)),(175,.agg #[.string m,.string cI,.int .i64 0,.string cI]),(16,PH b16)] W:=by
  intro N' W b16 H X hlo dz
  refine AU.m2 (show Region.ready .any bC (lh [0,1,2,3,4,5,6,7,8,13])=[9,14] by kernel_rfl) ?_ ?_
  ·refine dX.c (o:=opAt bC 9) (d:=176) (by kernel_rfl) (by kernel_rfl) (by kernel_rfl) (bT (cl:=Cz) (args:= #[.agg (aE q S1 S2),.int .i64 ((k:Nat):Int),.agg #[.string m,.string cI,.int .i64 0,.string cI]]) (by kernel_rfl) (by kernel_rfl) (by kernel_rfl) rfl) (by decide) (IH K N' W S1 S2 q (br m) H.h Dk hq yF hk hmo) ?_
   rintro _ W' ⟨U,rfl,H',hf⟩
   have X:=X.map fun b T cs _ hm=>hm.bV hf
   have hsz:=hf.size
   refine ⟨_,rfl,X.s,?_⟩
   refine AU.tk (o:=opAt bC 10) (d:=166) 10 (by kernel_rfl) (by kernel_rfl) (fun _ _ _ h=>hQ _ _ _ _ _ h) (by kernel_rfl) (by kernel_rfl) (fun W hW=>aU (x:= .tmp 176) (by kernel_rfl) rfl) (by decide) X.s ?_
   refine AU.tk (o:=opAt bC 11) (d:=177) 11 (by kernel_rfl) (by kernel_rfl) (fun _ _ _ h=>hQ _ _ _ _ _ h) (by kernel_rfl) (by kernel_rfl) (fun W hW=>dQ (x:= .tmp 166) (i:=0) (by kernel_rfl) rfl rfl) (by decide) X.s ?_
   refine AU.tk (o:=opAt bC 12) (d:=178) 12 (by kernel_rfl) (by kernel_rfl) (fun _ _ _ h=>hQ _ _ _ _ _ h) (by kernel_rfl) (by kernel_rfl) (fun W hW=>dQ (x:= .tmp 166) (i:=1) (by kernel_rfl) rfl rfl) (by decide) X.s ?_
   exact AU.re (by kernel_rfl) (show eK _ [(6,PH g6),(7,PH g7),(177,.agg (aE (aA k q (br m)).1 U S2)),(178,.agg (dV (aA k q (br m)).2)),(16,PH b16)] from ⟨rfl,rfl,rfl,rfl,rfl,trivial⟩) (Qb _ _ _ _ ⟨H',H.hf.mY hf,H.hn⟩ X (by omega) ⟨dz.1.bV hf,dz.2⟩)
  ·obtain ⟨W',cU,eW,hb,hN,H',M,hsz⟩:=H.h.alloc 39 aY
   have X':BX K cU W' q x S1 S2 lo g3 g5 g6 g7 g15:=X.map fun b T cs _ hm=>(hm.below hb).more hN
   have HH:HS K N w S2 cU W' _ _:=⟨H',H.hf.bQ hb,fun i hi=>hN i (H.hn i hi)⟩
   refine dX.vv (o:=opAt bC 14) (d:=17) (w':=W') (by kernel_rfl) (by kernel_rfl) (by kernel_rfl) (by rw [eW];exact cJ (z:= .agg aY) (by kernel_rfl) gK) (by decide) X'.s ?_
   exact AU.re (by kernel_rfl) (show eK _ [(6,PH g6),(7,PH g7),(167,.agg (aE q S1 S2)),(169,.int .i64 ((k:Nat):Int)),(175,.agg #[.string m,.string cI,.int .i64 0,.string cI]),(16,PH b16),(17,PH W.heap.size)] from ⟨rfl,rfl,rfl,rfl,rfl,rfl,rfl,trivial⟩) (ID _ _ _ _ HH  X'  (by omega)  ⟨(dz.1.below hb).more hN,dz.2⟩  ⟨M,hlo⟩  (by have:=dz.1.lt;omega))
 have P8: ∀(N':Nat->Prop) (W:World) (b17:Nat),HS K N w S2 N' W S1 q->BX K N' W q x S1 S2 lo g3 g5 g6 g7 g15->lo<=W.heap.size->MB K N' W b17 39 aY/\lo<=b17->AU 235 Tryz.prog bC Q (sH q x S1 S2 g5 g15) 16 7 (lh [0,1,2,3,4,5,6,7,8,14]) [(6,PH g6),(7,PH g7),(167,.agg (aE q S1 S2)),(169,.int .i64 ((k:Nat):Int)),(175,.agg #[.string m,.string cI,.int .i64 0,.string cI]),(17,PH b17)] W:=by
  intro N' W b17 H X hlo dG
  refine AU.m2 (show Region.ready .any bC (lh [0,1,2,3,4,5,6,7,8,14])=[9,13] by kernel_rfl) ?_ ?_
  ·refine dX.c (o:=opAt bC 9) (d:=176) (by kernel_rfl) (by kernel_rfl) (by kernel_rfl) (bT (cl:=Cz) (args:= #[.agg (aE q S1 S2),.int .i64 ((k:Nat):Int),.agg #[.string m,.string cI,.int .i64 0,.string cI]]) (by kernel_rfl) (by kernel_rfl) (by kernel_rfl) rfl) (by decide) (IH K N' W S1 S2 q (br m) H.h Dk hq yF hk hmo) ?_
   rintro _ W' ⟨U,rfl,H',hf⟩
   have X:=X.map fun b T cs _ hm=>hm.bV hf
   have hsz:=hf.size
   refine ⟨_,rfl,X.s,?_⟩
   refine AU.tk (o:=opAt bC 10) (d:=166) 10 (by kernel_rfl) (by kernel_rfl) (fun _ _ _ h=>hQ _ _ _ _ _ h) (by kernel_rfl) (by kernel_rfl) (fun W hW=>aU (x:= .tmp 176) (by kernel_rfl) rfl) (by decide) X.s ?_
   refine AU.tk (o:=opAt bC 11) (d:=177) 11 (by kernel_rfl) (by kernel_rfl) (fun _ _ _ h=>hQ _ _ _ _ _ h) (by kernel_rfl) (by kernel_rfl) (fun W hW=>dQ (x:= .tmp 166) (i:=0) (by kernel_rfl) rfl rfl) (by decide) X.s ?_
   refine AU.tk (o:=opAt bC 12) (d:=178) 12 (by kernel_rfl) (by kernel_rfl) (fun _ _ _ h=>hQ _ _ _ _ _ h) (by kernel_rfl) (by kernel_rfl) (fun W hW=>dQ (x:= .tmp 166) (i:=1) (by kernel_rfl) rfl rfl) (by decide) X.s ?_
   exact AU.re (by kernel_rfl) (show eK _ [(6,PH g6),(7,PH g7),(177,.agg (aE (aA k q (br m)).1 U S2)),(178,.agg (dV (aA k q (br m)).2)),(17,PH b17)] from ⟨rfl,rfl,rfl,rfl,rfl,trivial⟩) (Qa _ _ _ _ ⟨H',H.hf.mY hf,H.hn⟩ X (by omega) ⟨dG.1.bV hf,dG.2⟩)
  ·obtain ⟨W',cU,eW,hb,hN,H',M,hsz⟩:=H.h.alloc 37 bF
   have X':BX K cU W' q x S1 S2 lo g3 g5 g6 g7 g15:=X.map fun b T cs _ hm=>(hm.below hb).more hN
   have HH:HS K N w S2 cU W' _ _:=⟨H',H.hf.bQ hb,fun i hi=>hN i (H.hn i hi)⟩
   refine dX.vv (o:=opAt bC 13) (d:=16) (w':=W') (by kernel_rfl) (by kernel_rfl) (by kernel_rfl) (by rw [eW];exact cJ (z:= .agg bF) (by kernel_rfl) gJ) (by decide) X'.s ?_
   exact AU.re (by kernel_rfl) (show eK _ [(6,PH g6),(7,PH g7),(167,.agg (aE q S1 S2)),(169,.int .i64 ((k:Nat):Int)),(175,.agg #[.string m,.string cI,.int .i64 0,.string cI]),(16,PH W.heap.size),(17,PH b17)] from ⟨rfl,rfl,rfl,rfl,rfl,rfl,rfl,trivial⟩) (ID _ _ _ _ HH  X'  (by omega)  ⟨M,hlo⟩  ⟨(dG.1.below hb).more hN,dG.2⟩  (by have:=dG.1.lt;omega))
 have acR: ∀(N':Nat->Prop) (W:World),HS K N w S2 N' W S1 q->BX K N' W q x S1 S2 lo g3 g5 g6 g7 g15->lo<=W.heap.size->AU 235 Tryz.prog bC Q (sH q x S1 S2 g5 g15) 16 8 (lh [0,1,2,3,4,5,6,7,8]) [(6,PH g6),(7,PH g7),(167,.agg (aE q S1 S2)),(169,.int .i64 ((k:Nat):Int)),(175,.agg #[.string m,.string cI,.int .i64 0,.string cI])] W:=by
  intro N' W H X hlo
  refine AU.m3 (show Region.ready .any bC (lh [0,1,2,3,4,5,6,7,8])=[9,13,14] by kernel_rfl) ?_ ?_ ?_
  ·refine dX.c (o:=opAt bC 9) (d:=176) (by kernel_rfl) (by kernel_rfl) (by kernel_rfl) (bT (cl:=Cz) (args:= #[.agg (aE q S1 S2),.int .i64 ((k:Nat):Int),.agg #[.string m,.string cI,.int .i64 0,.string cI]]) (by kernel_rfl) (by kernel_rfl) (by kernel_rfl) rfl) (by decide) (IH K N' W S1 S2 q (br m) H.h Dk hq yF hk hmo) ?_
   rintro _ W' ⟨U,rfl,H',hf⟩
   have X:=X.map fun b T cs _ hm=>hm.bV hf
   have hsz:=hf.size
   refine ⟨_,rfl,X.s,?_⟩
   refine AU.tk (o:=opAt bC 10) (d:=166) 10 (by kernel_rfl) (by kernel_rfl) (fun _ _ _ h=>hQ _ _ _ _ _ h) (by kernel_rfl) (by kernel_rfl) (fun W hW=>aU (x:= .tmp 176) (by kernel_rfl) rfl) (by decide) X.s ?_
   refine AU.tk (o:=opAt bC 11) (d:=177) 11 (by kernel_rfl) (by kernel_rfl) (fun _ _ _ h=>hQ _ _ _ _ _ h) (by kernel_rfl) (by kernel_rfl) (fun W hW=>dQ (x:= .tmp 166) (i:=0) (by kernel_rfl) rfl rfl) (by decide) X.s ?_
   refine AU.tk (o:=opAt bC 12) (d:=178) 12 (by kernel_rfl) (by kernel_rfl) (fun _ _ _ h=>hQ _ _ _ _ _ h) (by kernel_rfl) (by kernel_rfl) (fun W hW=>dQ (x:= .tmp 166) (i:=1) (by kernel_rfl) rfl rfl) (by decide) X.s ?_
   exact AU.re (by kernel_rfl) (show eK _ [(6,PH g6),(7,PH g7),(177,.agg (aE (aA k q (br m)).1 U S2)),(178,.agg (dV (aA k q (br m)).2))] from ⟨rfl,rfl,rfl,rfl,trivial⟩) (acS _ _ _ ⟨H',H.hf.mY hf,H.hn⟩ X (by omega))
  ·obtain ⟨W',cU,eW,hb,hN,H',M,hsz⟩:=H.h.alloc 37 bF
   have X':BX K cU W' q x S1 S2 lo g3 g5 g6 g7 g15:=X.map fun b T cs _ hm=>(hm.below hb).more hN
   have HH:HS K N w S2 cU W' _ _:=⟨H',H.hf.bQ hb,fun i hi=>hN i (H.hn i hi)⟩
   refine dX.vv (o:=opAt bC 13) (d:=16) (w':=W') (by kernel_rfl) (by kernel_rfl) (by kernel_rfl) (by rw [eW];exact cJ (z:= .agg bF) (by kernel_rfl) gJ) (by decide) X'.s ?_
   exact AU.re (by kernel_rfl) (show eK _ [(6,PH g6),(7,PH g7),(167,.agg (aE q S1 S2)),(169,.int .i64 ((k:Nat):Int)),(175,.agg #[.string m,.string cI,.int .i64 0,.string cI]),(16,PH W.heap.size)] from ⟨rfl,rfl,rfl,rfl,rfl,rfl,trivial⟩) (P9 _ _ _ HH  X'  (by omega)  ⟨M,hlo⟩)
  ·obtain ⟨W',cU,eW,hb,hN,H',M,hsz⟩:=H.h.alloc 39 aY
   have X':BX K cU W' q x S1 S2 lo g3 g5 g6 g7 g15:=X.map fun b T cs _ hm=>(hm.below hb).more hN
   have HH:HS K N w S2 cU W' _ _:=⟨H',H.hf.bQ hb,fun i hi=>hN i (H.hn i hi)⟩
   refine dX.vv (o:=opAt bC 14) (d:=17) (w':=W') (by kernel_rfl) (by kernel_rfl) (by kernel_rfl) (by rw [eW];exact cJ (z:= .agg aY) (by kernel_rfl) gK) (by decide) X'.s ?_
   exact AU.re (by kernel_rfl) (show eK _ [(6,PH g6),(7,PH g7),(167,.agg (aE q S1 S2)),(169,.int .i64 ((k:Nat):Int)),(175,.agg #[.string m,.string cI,.int .i64 0,.string cI]),(17,PH W.heap.size)] from ⟨rfl,rfl,rfl,rfl,rfl,rfl,trivial⟩) (P8 _ _ _ HH  X'  (by omega)  ⟨M,hlo⟩)
 have IC: ∀(N':Nat->Prop) (W:World) (b3:Nat) (b16:Nat) (b17:Nat),HS K N w S2 N' W S1 q->BX K N' W q x S1 S2 lo g3 g5 g6 g7 g15->lo<=W.heap.size->(W.cell? ⟨b3,j,none⟩=some (.string m)/\ ¬K b3)->MB K N' W b16 37 bF/\lo<=b16->MB K N' W b17 39 aY/\lo<=b17->b16≠b17->AU 235 Tryz.prog bC Q (sH q x S1 S2 g5 g15) 16 8 (lh [0,1,2,3,4,5,6,13,14]) [(6,PH g6),(7,PH g7),(167,.agg (aE q S1 S2)),(169,.int .i64 ((k:Nat):Int)),(173,.pointer (some ⟨b3,j,none⟩)),(16,PH b16),(17,PH b17)] W:=by
  intro N' W b3 b16 b17 H X hlo h3 dz dG hne
  refine AU.m1 (show Region.ready .any bC (lh [0,1,2,3,4,5,6,13,14])=[7] by kernel_rfl) ?_
  ·refine dX.vv (o:=opAt bC 7) (d:=174) (by kernel_rfl) (by kernel_rfl) (by kernel_rfl) (cr (T:=9) (x:= .tmp 173) (by kernel_rfl) rfl Tryz.underlying9 rfl h3.1) (by decide) X.s ?_
   refine AU.tk (o:=opAt bC 8) (d:=175) 8 (by kernel_rfl) (by kernel_rfl) (fun _ _ _ h=>hQ _ _ _ _ _ h) (by kernel_rfl) (by kernel_rfl) (fun W hW=>jn (T:=43) (parts:= #[(0,.tmp 174)]) (vs:=[(0,.string m)]) (by kernel_rfl) rfl (uT _)) (by decide) X.s ?_
   exact AU.re (by kernel_rfl) (show eK _ [(6,PH g6),(7,PH g7),(167,.agg (aE q S1 S2)),(169,.int .i64 ((k:Nat):Int)),(175,.agg #[.string m,.string cI,.int .i64 0,.string cI]),(16,PH b16),(17,PH b17)] from ⟨rfl,rfl,rfl,rfl,rfl,rfl,rfl,trivial⟩) (ID _ _ _ _ H X hlo dz dG hne)
 have P5: ∀(N':Nat->Prop) (W:World) (b3:Nat) (b16:Nat),HS K N w S2 N' W S1 q->BX K N' W q x S1 S2 lo g3 g5 g6 g7 g15->lo<=W.heap.size->(W.cell? ⟨b3,j,none⟩=some (.string m)/\ ¬K b3)->MB K N' W b16 37 bF/\lo<=b16->AU 235 Tryz.prog bC Q (sH q x S1 S2 g5 g15) 16 9 (lh [0,1,2,3,4,5,6,13]) [(6,PH g6),(7,PH g7),(167,.agg (aE q S1 S2)),(169,.int .i64 ((k:Nat):Int)),(173,.pointer (some ⟨b3,j,none⟩)),(16,PH b16)] W:=by
  intro N' W b3 b16 H X hlo h3 dz
  refine AU.m2 (show Region.ready .any bC (lh [0,1,2,3,4,5,6,13])=[7,14] by kernel_rfl) ?_ ?_
  ·refine dX.vv (o:=opAt bC 7) (d:=174) (by kernel_rfl) (by kernel_rfl) (by kernel_rfl) (cr (T:=9) (x:= .tmp 173) (by kernel_rfl) rfl Tryz.underlying9 rfl h3.1) (by decide) X.s ?_
   refine AU.tk (o:=opAt bC 8) (d:=175) 8 (by kernel_rfl) (by kernel_rfl) (fun _ _ _ h=>hQ _ _ _ _ _ h) (by kernel_rfl) (by kernel_rfl) (fun W hW=>jn (T:=43) (parts:= #[(0,.tmp 174)]) (vs:=[(0,.string m)]) (by kernel_rfl) rfl (uT _)) (by decide) X.s ?_
   exact AU.re (by kernel_rfl) (show eK _ [(6,PH g6),(7,PH g7),(167,.agg (aE q S1 S2)),(169,.int .i64 ((k:Nat):Int)),(175,.agg #[.string m,.string cI,.int .i64 0,.string cI]),(16,PH b16)] from ⟨rfl,rfl,rfl,rfl,rfl,rfl,trivial⟩) (P9 _ _ _ H X hlo dz)
  ·obtain ⟨W',cU,eW,hb,hN,H',M,hsz⟩:=H.h.alloc 39 aY
   have X':BX K cU W' q x S1 S2 lo g3 g5 g6 g7 g15:=X.map fun b T cs _ hm=>(hm.below hb).more hN
   have HH:HS K N w S2 cU W' _ _:=⟨H',H.hf.bQ hb,fun i hi=>hN i (H.hn i hi)⟩
   refine dX.vv (o:=opAt bC 14) (d:=17) (w':=W') (by kernel_rfl) (by kernel_rfl) (by kernel_rfl) (by rw [eW];exact cJ (z:= .agg aY) (by kernel_rfl) gK) (by decide) X'.s ?_
   exact AU.re (by kernel_rfl) (show eK _ [(6,PH g6),(7,PH g7),(167,.agg (aE q S1 S2)),(169,.int .i64 ((k:Nat):Int)),(173,.pointer (some ⟨b3,j,none⟩)),(16,PH b16),(17,PH W.heap.size)] from ⟨rfl,rfl,rfl,rfl,rfl,rfl,rfl,trivial⟩) (IC _ _ _ _ _ HH  X'  (by omega)  ⟨ax hb h3.1,h3.2⟩  ⟨(dz.1.below hb).more hN,dz.2⟩  ⟨M,hlo⟩  (by have:=dz.1.lt;omega))
 have P4: ∀(N':Nat->Prop) (W:World) (b3:Nat) (b17:Nat),HS K N w S2 N' W S1 q->BX K N' W q x S1 S2 lo g3 g5 g6 g7 g15->lo<=W.heap.size->(W.cell? ⟨b3,j,none⟩=some (.string m)/\ ¬K b3)->MB K N' W b17 39 aY/\lo<=b17->AU 235 Tryz.prog bC Q (sH q x S1 S2 g5 g15) 16 9 (lh [0,1,2,3,4,5,6,14]) [(6,PH g6),(7,PH g7),(167,.agg (aE q S1 S2)),(169,.int .i64 ((k:Nat):Int)),(173,.pointer (some ⟨b3,j,none⟩)),(17,PH b17)] W:=by
  intro N' W b3 b17 H X hlo h3 dG
  refine AU.m2 (show Region.ready .any bC (lh [0,1,2,3,4,5,6,14])=[7,13] by kernel_rfl) ?_ ?_
  ·refine dX.vv (o:=opAt bC 7) (d:=174) (by kernel_rfl) (by kernel_rfl) (by kernel_rfl) (cr (T:=9) (x:= .tmp 173) (by kernel_rfl) rfl Tryz.underlying9 rfl h3.1) (by decide) X.s ?_
   refine AU.tk (o:=opAt bC 8) (d:=175) 8 (by kernel_rfl) (by kernel_rfl) (fun _ _ _ h=>hQ _ _ _ _ _ h) (by kernel_rfl) (by kernel_rfl) (fun W hW=>jn (T:=43) (parts:= #[(0,.tmp 174)]) (vs:=[(0,.string m)]) (by kernel_rfl) rfl (uT _)) (by decide) X.s ?_
   exact AU.re (by kernel_rfl) (show eK _ [(6,PH g6),(7,PH g7),(167,.agg (aE q S1 S2)),(169,.int .i64 ((k:Nat):Int)),(175,.agg #[.string m,.string cI,.int .i64 0,.string cI]),(17,PH b17)] from ⟨rfl,rfl,rfl,rfl,rfl,rfl,trivial⟩) (P8 _ _ _ H X hlo dG)
  ·obtain ⟨W',cU,eW,hb,hN,H',M,hsz⟩:=H.h.alloc 37 bF
   have X':BX K cU W' q x S1 S2 lo g3 g5 g6 g7 g15:=X.map fun b T cs _ hm=>(hm.below hb).more hN
   have HH:HS K N w S2 cU W' _ _:=⟨H',H.hf.bQ hb,fun i hi=>hN i (H.hn i hi)⟩
   refine dX.vv (o:=opAt bC 13) (d:=16) (w':=W') (by kernel_rfl) (by kernel_rfl) (by kernel_rfl) (by rw [eW];exact cJ (z:= .agg bF) (by kernel_rfl) gJ) (by decide) X'.s ?_
   exact AU.re (by kernel_rfl) (show eK _ [(6,PH g6),(7,PH g7),(167,.agg (aE q S1 S2)),(169,.int .i64 ((k:Nat):Int)),(173,.pointer (some ⟨b3,j,none⟩)),(16,PH W.heap.size),(17,PH b17)] from ⟨rfl,rfl,rfl,rfl,rfl,rfl,rfl,trivial⟩) (IC _ _ _ _ _ HH  X'  (by omega)  ⟨ax hb h3.1,h3.2⟩  ⟨M,hlo⟩  ⟨(dG.1.below hb).more hN,dG.2⟩  (by have:=dG.1.lt;omega))
 have acO: ∀(N':Nat->Prop) (W:World) (b3:Nat),HS K N w S2 N' W S1 q->BX K N' W q x S1 S2 lo g3 g5 g6 g7 g15->lo<=W.heap.size->(W.cell? ⟨b3,j,none⟩=some (.string m)/\ ¬K b3)->AU 235 Tryz.prog bC Q (sH q x S1 S2 g5 g15) 16 10 (lh [0,1,2,3,4,5,6]) [(6,PH g6),(7,PH g7),(167,.agg (aE q S1 S2)),(169,.int .i64 ((k:Nat):Int)),(173,.pointer (some ⟨b3,j,none⟩))] W:=by
  intro N' W b3 H X hlo h3
  refine AU.m3 (show Region.ready .any bC (lh [0,1,2,3,4,5,6])=[7,13,14] by kernel_rfl) ?_ ?_ ?_
  ·refine dX.vv (o:=opAt bC 7) (d:=174) (by kernel_rfl) (by kernel_rfl) (by kernel_rfl) (cr (T:=9) (x:= .tmp 173) (by kernel_rfl) rfl Tryz.underlying9 rfl h3.1) (by decide) X.s ?_
   refine AU.tk (o:=opAt bC 8) (d:=175) 8 (by kernel_rfl) (by kernel_rfl) (fun _ _ _ h=>hQ _ _ _ _ _ h) (by kernel_rfl) (by kernel_rfl) (fun W hW=>jn (T:=43) (parts:= #[(0,.tmp 174)]) (vs:=[(0,.string m)]) (by kernel_rfl) rfl (uT _)) (by decide) X.s ?_
   exact AU.re (by kernel_rfl) (show eK _ [(6,PH g6),(7,PH g7),(167,.agg (aE q S1 S2)),(169,.int .i64 ((k:Nat):Int)),(175,.agg #[.string m,.string cI,.int .i64 0,.string cI])] from ⟨rfl,rfl,rfl,rfl,rfl,trivial⟩) (acR _ _ H X hlo)
  ·obtain ⟨W',cU,eW,hb,hN,H',M,hsz⟩:=H.h.alloc 37 bF
   have X':BX K cU W' q x S1 S2 lo g3 g5 g6 g7 g15:=X.map fun b T cs _ hm=>(hm.below hb).more hN
   have HH:HS K N w S2 cU W' _ _:=⟨H',H.hf.bQ hb,fun i hi=>hN i (H.hn i hi)⟩
   refine dX.vv (o:=opAt bC 13) (d:=16) (w':=W') (by kernel_rfl) (by kernel_rfl) (by kernel_rfl) (by rw [eW];exact cJ (z:= .agg bF) (by kernel_rfl) gJ) (by decide) X'.s ?_
   exact AU.re (by kernel_rfl) (show eK _ [(6,PH g6),(7,PH g7),(167,.agg (aE q S1 S2)),(169,.int .i64 ((k:Nat):Int)),(173,.pointer (some ⟨b3,j,none⟩)),(16,PH W.heap.size)] from ⟨rfl,rfl,rfl,rfl,rfl,rfl,trivial⟩) (P5 _ _ _ _ HH  X'  (by omega)  ⟨ax hb h3.1,h3.2⟩  ⟨M,hlo⟩)
  ·obtain ⟨W',cU,eW,hb,hN,H',M,hsz⟩:=H.h.alloc 39 aY
   have X':BX K cU W' q x S1 S2 lo g3 g5 g6 g7 g15:=X.map fun b T cs _ hm=>(hm.below hb).more hN
   have HH:HS K N w S2 cU W' _ _:=⟨H',H.hf.bQ hb,fun i hi=>hN i (H.hn i hi)⟩
   refine dX.vv (o:=opAt bC 14) (d:=17) (w':=W') (by kernel_rfl) (by kernel_rfl) (by kernel_rfl) (by rw [eW];exact cJ (z:= .agg aY) (by kernel_rfl) gK) (by decide) X'.s ?_
   exact AU.re (by kernel_rfl) (show eK _ [(6,PH g6),(7,PH g7),(167,.agg (aE q S1 S2)),(169,.int .i64 ((k:Nat):Int)),(173,.pointer (some ⟨b3,j,none⟩)),(17,PH W.heap.size)] from ⟨rfl,rfl,rfl,rfl,rfl,rfl,trivial⟩) (P4 _ _ _ _ HH  X'  (by omega)  ⟨ax hb h3.1,h3.2⟩  ⟨M,hlo⟩)
 have P0: ∀(N':Nat->Prop) (W:World) (b16:Nat) (b17:Nat),HS K N w S2 N' W S1 q->BX K N' W q x S1 S2 lo g3 g5 g6 g7 g15->lo<=W.heap.size->MB K N' W b16 37 bF/\lo<=b16->MB K N' W b17 39 aY/\lo<=b17->b16≠b17->AU 235 Tryz.prog bC Q (sH q x S1 S2 g5 g15) 16 10 (lh [0,1,2,4,5,13,14]) [(6,PH g6),(7,PH g7),(167,.agg (aE q S1 S2)),(169,.int .i64 ((k:Nat):Int)),(172,.int .i64 x.val),(16,PH b16),(17,PH b17)] W:=by
  intro N' W b16 b17 H X hlo dz dG hne
  refine AU.m1 (show Region.ready .any bC (lh [0,1,2,4,5,13,14])=[3] by kernel_rfl) ?_
  ·have hb:=tr W #[.string bZ,.string mStart] 9
   have hc3:(W.alloc (.cells #[.string bZ,.string mStart] 9)).cell? ⟨W.heap.size,j,none⟩=some (.string m):=by rw [(aJ.new W 9 #[.string bZ,.string mStart]).cell];exact hj
   have vE: ¬K W.heap.size:=fun hk=>by have:=H.h.nb _ (H.h.kn _ hk);omega
   have hsz:(W.alloc (.cells #[.string bZ,.string mStart] 9)).heap.size=W.heap.size+1:=by simp [World.size_alloc]
   have X:=X.map fun b T cs _ hm=>hm.below hb
   have HH:=H.below hb
   obtain ⟨ti,ht1,vN,vO⟩:=DD
   refine dX.vv (o:=opAt bC 3) (d:=170) (by kernel_rfl) (by kernel_rfl) (by kernel_rfl) (DV (e:=9) (x:= .const (.string bZ)) (y:= .const (.string mStart)) (s:=bZ) (t:=mStart) (by kernel_rfl) rfl rfl Tryz.underlying114 ht1 vN vO) (by decide) X.s ?_
   refine AU.tk (o:=opAt bC 6) (d:=173) 6 (by kernel_rfl) (by kernel_rfl) (fun _ _ _ h=>hQ _ _ _ _ _ h) (by kernel_rfl) (by kernel_rfl) (fun W hW=>oK (T:=114) (x:= .tmp 170) (i:= .tmp 172) (by kernel_rfl) rfl (show ev _ _=some (.int .i64 x.val) from rfl) (by omega) (by omega) CP) (by decide) X.s ?_
   exact AU.re (by kernel_rfl) (show eK _ [(6,PH g6),(7,PH g7),(167,.agg (aE q S1 S2)),(169,.int .i64 ((k:Nat):Int)),(173,.pointer (some ⟨W.heap.size,j,none⟩)),(16,PH b16),(17,PH b17)] from by rw [mM];exact ⟨rfl,rfl,rfl,rfl,by simp [lk],rfl,rfl,trivial⟩) (IC _ _ W.heap.size _ _ HH X (by omega) ⟨hc3,vE⟩ ⟨dz.1.below hb,dz.2⟩ ⟨dG.1.below hb,dG.2⟩ hne)
 have acN: ∀(N':Nat->Prop) (W:World) (b16:Nat),HS K N w S2 N' W S1 q->BX K N' W q x S1 S2 lo g3 g5 g6 g7 g15->lo<=W.heap.size->MB K N' W b16 37 bF/\lo<=b16->AU 235 Tryz.prog bC Q (sH q x S1 S2 g5 g15) 16 11 (lh [0,1,2,4,5,13]) [(6,PH g6),(7,PH g7),(167,.agg (aE q S1 S2)),(169,.int .i64 ((k:Nat):Int)),(172,.int .i64 x.val),(16,PH b16)] W:=by
  intro N' W b16 H X hlo dz
  refine AU.m2 (show Region.ready .any bC (lh [0,1,2,4,5,13])=[3,14] by kernel_rfl) ?_ ?_
  ·have hb:=tr W #[.string bZ,.string mStart] 9
   have hc3:(W.alloc (.cells #[.string bZ,.string mStart] 9)).cell? ⟨W.heap.size,j,none⟩=some (.string m):=by rw [(aJ.new W 9 #[.string bZ,.string mStart]).cell];exact hj
   have vE: ¬K W.heap.size:=fun hk=>by have:=H.h.nb _ (H.h.kn _ hk);omega
   have hsz:(W.alloc (.cells #[.string bZ,.string mStart] 9)).heap.size=W.heap.size+1:=by simp [World.size_alloc]
   have X:=X.map fun b T cs _ hm=>hm.below hb
   have HH:=H.below hb
   obtain ⟨ti,ht1,vN,vO⟩:=DD
   refine dX.vv (o:=opAt bC 3) (d:=170) (by kernel_rfl) (by kernel_rfl) (by kernel_rfl) (DV (e:=9) (x:= .const (.string bZ)) (y:= .const (.string mStart)) (s:=bZ) (t:=mStart) (by kernel_rfl) rfl rfl Tryz.underlying114 ht1 vN vO) (by decide) X.s ?_
   refine AU.tk (o:=opAt bC 6) (d:=173) 6 (by kernel_rfl) (by kernel_rfl) (fun _ _ _ h=>hQ _ _ _ _ _ h) (by kernel_rfl) (by kernel_rfl) (fun W hW=>oK (T:=114) (x:= .tmp 170) (i:= .tmp 172) (by kernel_rfl) rfl (show ev _ _=some (.int .i64 x.val) from rfl) (by omega) (by omega) CP) (by decide) X.s ?_
   exact AU.re (by kernel_rfl) (show eK _ [(6,PH g6),(7,PH g7),(167,.agg (aE q S1 S2)),(169,.int .i64 ((k:Nat):Int)),(173,.pointer (some ⟨W.heap.size,j,none⟩)),(16,PH b16)] from by rw [mM];exact ⟨rfl,rfl,rfl,rfl,by simp [lk],rfl,trivial⟩) (P5 _ _ W.heap.size _ HH X (by omega) ⟨hc3,vE⟩ ⟨dz.1.below hb,dz.2⟩)
  ·obtain ⟨W',cU,eW,hb,hN,H',M,hsz⟩:=H.h.alloc 39 aY
   have X':BX K cU W' q x S1 S2 lo g3 g5 g6 g7 g15:=X.map fun b T cs _ hm=>(hm.below hb).more hN
   have HH:HS K N w S2 cU W' _ _:=⟨H',H.hf.bQ hb,fun i hi=>hN i (H.hn i hi)⟩
   refine dX.vv (o:=opAt bC 14) (d:=17) (w':=W') (by kernel_rfl) (by kernel_rfl) (by kernel_rfl) (by rw [eW];exact cJ (z:= .agg aY) (by kernel_rfl) gK) (by decide) X'.s ?_
   exact AU.re (by kernel_rfl) (show eK _ [(6,PH g6),(7,PH g7),(167,.agg (aE q S1 S2)),(169,.int .i64 ((k:Nat):Int)),(172,.int .i64 x.val),(16,PH b16),(17,PH W.heap.size)] from ⟨rfl,rfl,rfl,rfl,rfl,rfl,rfl,trivial⟩) (P0 _ _ _ _ HH  X'  (by omega)  ⟨(dz.1.below hb).more hN,dz.2⟩  ⟨M,hlo⟩  (by have:=dz.1.lt;omega))
 have acM: ∀(N':Nat->Prop) (W:World) (b17:Nat),HS K N w S2 N' W S1 q->BX K N' W q x S1 S2 lo g3 g5 g6 g7 g15->lo<=W.heap.size->MB K N' W b17 39 aY/\lo<=b17->AU 235 Tryz.prog bC Q (sH q x S1 S2 g5 g15) 16 11 (lh [0,1,2,4,5,14]) [(6,PH g6),(7,PH g7),(167,.agg (aE q S1 S2)),(169,.int .i64 ((k:Nat):Int)),(172,.int .i64 x.val),(17,PH b17)] W:=by
  intro N' W b17 H X hlo dG
  refine AU.m2 (show Region.ready .any bC (lh [0,1,2,4,5,14])=[3,13] by kernel_rfl) ?_ ?_
  ·have hb:=tr W #[.string bZ,.string mStart] 9
   have hc3:(W.alloc (.cells #[.string bZ,.string mStart] 9)).cell? ⟨W.heap.size,j,none⟩=some (.string m):=by rw [(aJ.new W 9 #[.string bZ,.string mStart]).cell];exact hj
   have vE: ¬K W.heap.size:=fun hk=>by have:=H.h.nb _ (H.h.kn _ hk);omega
   have hsz:(W.alloc (.cells #[.string bZ,.string mStart] 9)).heap.size=W.heap.size+1:=by simp [World.size_alloc]
   have X:=X.map fun b T cs _ hm=>hm.below hb
   have HH:=H.below hb
   obtain ⟨ti,ht1,vN,vO⟩:=DD
   refine dX.vv (o:=opAt bC 3) (d:=170) (by kernel_rfl) (by kernel_rfl) (by kernel_rfl) (DV (e:=9) (x:= .const (.string bZ)) (y:= .const (.string mStart)) (s:=bZ) (t:=mStart) (by kernel_rfl) rfl rfl Tryz.underlying114 ht1 vN vO) (by decide) X.s ?_
   refine AU.tk (o:=opAt bC 6) (d:=173) 6 (by kernel_rfl) (by kernel_rfl) (fun _ _ _ h=>hQ _ _ _ _ _ h) (by kernel_rfl) (by kernel_rfl) (fun W hW=>oK (T:=114) (x:= .tmp 170) (i:= .tmp 172) (by kernel_rfl) rfl (show ev _ _=some (.int .i64 x.val) from rfl) (by omega) (by omega) CP) (by decide) X.s ?_
   exact AU.re (by kernel_rfl) (show eK _ [(6,PH g6),(7,PH g7),(167,.agg (aE q S1 S2)),(169,.int .i64 ((k:Nat):Int)),(173,.pointer (some ⟨W.heap.size,j,none⟩)),(17,PH b17)] from by rw [mM];exact ⟨rfl,rfl,rfl,rfl,by simp [lk],rfl,trivial⟩) (P4 _ _ W.heap.size _ HH X (by omega) ⟨hc3,vE⟩ ⟨dG.1.below hb,dG.2⟩)
  ·obtain ⟨W',cU,eW,hb,hN,H',M,hsz⟩:=H.h.alloc 37 bF
   have X':BX K cU W' q x S1 S2 lo g3 g5 g6 g7 g15:=X.map fun b T cs _ hm=>(hm.below hb).more hN
   have HH:HS K N w S2 cU W' _ _:=⟨H',H.hf.bQ hb,fun i hi=>hN i (H.hn i hi)⟩
   refine dX.vv (o:=opAt bC 13) (d:=16) (w':=W') (by kernel_rfl) (by kernel_rfl) (by kernel_rfl) (by rw [eW];exact cJ (z:= .agg bF) (by kernel_rfl) gJ) (by decide) X'.s ?_
   exact AU.re (by kernel_rfl) (show eK _ [(6,PH g6),(7,PH g7),(167,.agg (aE q S1 S2)),(169,.int .i64 ((k:Nat):Int)),(172,.int .i64 x.val),(16,PH W.heap.size),(17,PH b17)] from ⟨rfl,rfl,rfl,rfl,rfl,rfl,rfl,trivial⟩) (P0 _ _ _ _ HH  X'  (by omega)  ⟨M,hlo⟩  ⟨(dG.1.below hb).more hN,dG.2⟩  (by have:=dG.1.lt;omega))
 have acL: ∀(N':Nat->Prop) (W:World),HS K N w S2 N' W S1 q->BX K N' W q x S1 S2 lo g3 g5 g6 g7 g15->lo<=W.heap.size->AU 235 Tryz.prog bC Q (sH q x S1 S2 g5 g15) 16 12 (lh [0,1,2,4,5]) [(6,PH g6),(7,PH g7),(167,.agg (aE q S1 S2)),(169,.int .i64 ((k:Nat):Int)),(172,.int .i64 x.val)] W:=by
  intro N' W H X hlo
  refine AU.m3 (show Region.ready .any bC (lh [0,1,2,4,5])=[3,13,14] by kernel_rfl) ?_ ?_ ?_
  ·have hb:=tr W #[.string bZ,.string mStart] 9
   have hc3:(W.alloc (.cells #[.string bZ,.string mStart] 9)).cell? ⟨W.heap.size,j,none⟩=some (.string m):=by rw [(aJ.new W 9 #[.string bZ,.string mStart]).cell];exact hj
   have vE: ¬K W.heap.size:=fun hk=>by have:=H.h.nb _ (H.h.kn _ hk);omega
   have hsz:(W.alloc (.cells #[.string bZ,.string mStart] 9)).heap.size=W.heap.size+1:=by simp [World.size_alloc]
   have X:=X.map fun b T cs _ hm=>hm.below hb
   have HH:=H.below hb
   obtain ⟨ti,ht1,vN,vO⟩:=DD
   refine dX.vv (o:=opAt bC 3) (d:=170) (by kernel_rfl) (by kernel_rfl) (by kernel_rfl) (DV (e:=9) (x:= .const (.string bZ)) (y:= .const (.string mStart)) (s:=bZ) (t:=mStart) (by kernel_rfl) rfl rfl Tryz.underlying114 ht1 vN vO) (by decide) X.s ?_
   refine AU.tk (o:=opAt bC 6) (d:=173) 6 (by kernel_rfl) (by kernel_rfl) (fun _ _ _ h=>hQ _ _ _ _ _ h) (by kernel_rfl) (by kernel_rfl) (fun W hW=>oK (T:=114) (x:= .tmp 170) (i:= .tmp 172) (by kernel_rfl) rfl (show ev _ _=some (.int .i64 x.val) from rfl) (by omega) (by omega) CP) (by decide) X.s ?_
   exact AU.re (by kernel_rfl) (show eK _ [(6,PH g6),(7,PH g7),(167,.agg (aE q S1 S2)),(169,.int .i64 ((k:Nat):Int)),(173,.pointer (some ⟨W.heap.size,j,none⟩))] from by rw [mM];exact ⟨rfl,rfl,rfl,rfl,by simp [lk],trivial⟩) (acO _ _ W.heap.size HH X (by omega) ⟨hc3,vE⟩)
  ·obtain ⟨W',cU,eW,hb,hN,H',M,hsz⟩:=H.h.alloc 37 bF
   have X':BX K cU W' q x S1 S2 lo g3 g5 g6 g7 g15:=X.map fun b T cs _ hm=>(hm.below hb).more hN
   have HH:HS K N w S2 cU W' _ _:=⟨H',H.hf.bQ hb,fun i hi=>hN i (H.hn i hi)⟩
   refine dX.vv (o:=opAt bC 13) (d:=16) (w':=W') (by kernel_rfl) (by kernel_rfl) (by kernel_rfl) (by rw [eW];exact cJ (z:= .agg bF) (by kernel_rfl) gJ) (by decide) X'.s ?_
   exact AU.re (by kernel_rfl) (show eK _ [(6,PH g6),(7,PH g7),(167,.agg (aE q S1 S2)),(169,.int .i64 ((k:Nat):Int)),(172,.int .i64 x.val),(16,PH W.heap.size)] from ⟨rfl,rfl,rfl,rfl,rfl,rfl,trivial⟩) (acN _ _ _ HH  X'  (by omega)  ⟨M,hlo⟩)
  ·obtain ⟨W',cU,eW,hb,hN,H',M,hsz⟩:=H.h.alloc 39 aY
   have X':BX K cU W' q x S1 S2 lo g3 g5 g6 g7 g15:=X.map fun b T cs _ hm=>(hm.below hb).more hN
   have HH:HS K N w S2 cU W' _ _:=⟨H',H.hf.bQ hb,fun i hi=>hN i (H.hn i hi)⟩
   refine dX.vv (o:=opAt bC 14) (d:=17) (w':=W') (by kernel_rfl) (by kernel_rfl) (by kernel_rfl) (by rw [eW];exact cJ (z:= .agg aY) (by kernel_rfl) gK) (by decide) X'.s ?_
   exact AU.re (by kernel_rfl) (show eK _ [(6,PH g6),(7,PH g7),(167,.agg (aE q S1 S2)),(169,.int .i64 ((k:Nat):Int)),(172,.int .i64 x.val),(17,PH W.heap.size)] from ⟨rfl,rfl,rfl,rfl,rfl,rfl,trivial⟩) (acM _ _ _ HH  X'  (by omega)  ⟨M,hlo⟩)
 refine AU.tk (o:=opAt bC 0) (d:=167) 0 (by kernel_rfl) (by kernel_rfl) (fun _ _ _ h=>hQ _ _ _ _ _ h) (by kernel_rfl) (by kernel_rfl) (fun W hW=>bz (T:=37) (x:= .tmp 15) (by kernel_rfl) rfl Tryz.underlying37 rfl hW.1 aW) (by decide) X.s ?_
 refine AU.tk (o:=opAt bC 1) (d:=168) 1 (by kernel_rfl) (by kernel_rfl) (fun _ _ _ h=>hQ _ _ _ _ _ h) (by kernel_rfl) (by kernel_rfl) (fun W hW=>aU (x:= .tmp 1) (by kernel_rfl) rfl) (by decide) X.s ?_
 refine AU.tk (o:=opAt bC 2) (d:=169) 2 (by kernel_rfl) (by kernel_rfl) (fun _ _ _ h=>hQ _ _ _ _ _ h) (by kernel_rfl) (by kernel_rfl) (fun W hW=>iE (op:= .sub) (T:=3) (U:=3) (x:= .tmp 168) (y:= .const (.int .i64 1)) (by kernel_rfl) rfl rfl rfl hw) (by decide) X.s ?_
 refine AU.tk (o:=opAt bC 4) (d:=171) 4 (by kernel_rfl) (by kernel_rfl) (fun _ _ _ h=>hQ _ _ _ _ _ h) (by kernel_rfl) (by kernel_rfl) (fun W hW=>cO (x:= .tmp 5) (by kernel_rfl) rfl CY) (by decide) X.s ?_
 refine AU.tk (o:=opAt bC 5) (d:=172) 5 (by kernel_rfl) (by kernel_rfl) (fun _ _ _ h=>hQ _ _ _ _ _ h) (by kernel_rfl) (by kernel_rfl) (fun W hW=>cr (T:=3) (x:= .tmp 171) (by kernel_rfl) rfl Tryz.underlying3 rfl ((hW.2.cell 2).trans rfl)) (by decide) X.s ?_
 exact AU.re (by kernel_rfl) (show eK _ [(6,PH g6),(7,PH g7),(167,.agg (aE q S1 S2)),(169,.int .i64 ((k:Nat):Int)),(172,.int .i64 x.val)] from ⟨rfl,rfl,rfl,rfl,rfl,trivial⟩) (acL _ _ H X hlo)
end
end Go.Proofs.YtimickglpboilaaGreatDoor
