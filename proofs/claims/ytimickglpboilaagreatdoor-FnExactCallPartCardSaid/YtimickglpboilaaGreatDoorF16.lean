/- A part as a value whose layers lie in memory of its own: where the reference's walks (l4Own, l4Do) stand. -/
import Derived.Test.YtimickglpboilaaGreatDoorF15
import Derived.Test.YtimickglpboilaaGreatDoorF14
import Derived.Deep.LoopGhost
set_option linter.unusedVariables false
set_option linter.unusedSimpArgs false
set_option linter.unusedSectionVars false
set_option maxRecDepth 100000
namespace Go.Proofs.YtimickglpboilaaGreatDoor
section
open Go.RowKit Go
variable [GC]
structure PV(K N:Nat->Prop)(w:World)(S1 S2:Value)(p:Part):Prop where
 gi:kp w/\NG<=w.heap.size
 kb: ∀b,K b->NG<=b
 kn: ∀b,K b->N b
 nb: ∀b,N b->b<w.heap.size
 cs:R w (fun a=>N a.block) (bg p.core.cells) S1
 ly: ∃g,cB K w g S2 (fX p.af)
 ks:p.core.kind.size<=maxLen
 ct:IntKind.i64.min<=p.core.count/\p.core.count<=IntKind.i64.max
theorem cell_of_heap{w w':World}{p:Addr}(h:w'.heap[p.block]? =w.heap[p.block]?):w'.cell? p=w.cell? p:=by unfold World.cell?;rw [h]
theorem Ho{w w':World}{N:Nat->Prop}(h: ∀b,¬N b->w'.heap[b]? =w.heap[b]?):bo w (fun a=>N a.block) w' (fun a=>N a.block) :=
 fun p v hc hn=>⟨by rw [cell_of_heap (h _ hn)];exact hc,hn⟩
section
variable {K N N':Nat->Prop}{w w':World}{S1 S2:Value}{p:Part}
theorem PV.je(h:PV K N w S1 S2 p):jU w (fun a=>N a.block):=⟨fun a ha=>h.nb _ ha,h.gi.1,h.gi.2⟩
theorem PV.new(h:PV K N w S1 S2 p)(hb:Below w.heap.size w w')(h1: ∀b,N' b->N b\/w.heap.size<=b)(h2: ∀b,N b->N' b)(h3: ∀b,N' b->b<w'.heap.size):PV K N' w' S1 S2 p:=by
 obtain ⟨g,hl⟩:=h.ly
 exact ⟨⟨h.gi.1.keep fun k hk=>hb.block k (Nat.lt_of_lt_of_le hk h.gi.2),Nat.le_trans h.gi.2 hb.size⟩,h.kb,fun b hk=>h2 b (h.kn b hk),h3,
  R.keep (bo.below hb fun q hq hn=>(h1 _ hn).elim id fun hq'=>by omega) _ _ h.cs,⟨g,hl.keep (fun b ho=>hb.block b (hl.out ho).2.2) fun _ h=>h⟩,h.ks,h.ct⟩
theorem PV.below(h:PV K N w S1 S2 p)(hb:Below w.heap.size w w'):PV K N w' S1 S2 p :=
 h.new hb (fun b hn=> .inl hn) (fun b hn=>hn) fun b hn=>Nat.lt_of_lt_of_le (h.nb b hn) hb.size
theorem PV.less(h:PV K N w S1 S2 p)(h1: ∀b,N' b->N b)(h2: ∀b,K b->N' b):PV K N' w S1 S2 p :=
 {h with kn:=h2,nb:=fun b hb=>h.nb b (h1 b hb),cs:=R.less h.cs fun _ hq=>h1 _ hq}
theorem PV.one{b:Nat}(h:PV K N w S1 S2 p)(ho:fD w w' b)(hn:N b)(hk: ¬K b)(hg:NG<=b):PV K N w' S1 S2 p:=by
 obtain ⟨g,hl⟩:=h.ly
 exact ⟨⟨h.gi.1.keep fun k hk=>ho.block k (by omega),by rw [ho.size];exact h.gi.2⟩,h.kb,h.kn,fun b hb=>by rw [ho.size];exact h.nb b hb,
  R.keep (Ho fun i hi=>ho.block i fun e=>hi (e▸hn)) _ _ h.cs,⟨g,hl.keep (fun i hi=>ho.block i fun e=>hk (e▸(hl.out hi).1)) fun _ h=>h⟩,h.ks,h.ct⟩
theorem PV.len(h:PV K N w S1 S2 p): ∃a n c,S1= .slice a n c:=by
 obtain ⟨a,n,c,rfl,_⟩:=h.cs
 exact ⟨a,n,c,rfl⟩
theorem PV.gz(h:PV K N w S1 S2 p): ∀u∈(aF p S1 S2).toList,u.oneCell'=true:=by
 obtain ⟨a,n,c,rfl⟩:=h.len
 obtain ⟨g,hl⟩:=h.ly
 obtain ⟨a2,c2,rfl,_⟩:=hl.ou
 exact vW _
theorem PV.lay{b o n cap k:Nat}(h:PV K N w S1 (.slice (some ⟨b,o,none⟩) n cap) p)(hk:k<p.af.length) :
  w.cell? ⟨b,o+k*2,none⟩=some (.string (nth p.af k).name)/\w.cell? ⟨b,o+k*2+1,none⟩=some (.int .i64 (nth p.af k).count)/\(∀i,w.frozen? ⟨b,i,none⟩=false)/\K b/\n=p.af.length:=by
 have hi:k<(fX p.af).length:=by rw [oz];exact hk
 obtain ⟨g,hl⟩:=h.ly
 obtain ⟨b',o',cp,e,h1,h2,h3,h4,h5,h6,h7⟩:=hl.at hi
 simp only [Value.slice.injEq,Option.some.injEq,Addr.mk.injEq,and_true] at e
 obtain ⟨⟨rfl,rfl⟩,e2,_⟩:=e
 rw [Bz hk] at h4 h5
 exact ⟨h4,h5,fun i=>h6 i none,h1,by rw [e2,oz]⟩
theorem PV.slot{k:Nat}(h:PV K N w S1 S2 p)(hk:k<p.af.length): ∃b o cap,S2= .slice (some ⟨b,o,none⟩) p.af.length cap:=by
 have hi:k<(fX p.af).length:=by rw [oz];exact hk
 obtain ⟨g,hl⟩:=h.ly
 obtain ⟨b',o',cp,e,_⟩:=hl.at hi
 exact ⟨b',o',cp,by rw [e,oz]⟩
theorem PV.bump{b o n cap k:Nat}(h:PV K N w S1 (.slice (some ⟨b,o,none⟩) n cap) p)(hk:k<p.af.length)(hv:IntKind.i64.min<=bU (nth p.af k).count/\bU (nth p.af k).count<=IntKind.i64.max) :
  PV K N (w.setCell ⟨b,o+k*2+1,none⟩ (.int .i64 (bU (nth p.af k).count))) S1 (.slice (some ⟨b,o,none⟩) n cap) (bump p k):=by
 obtain ⟨-, -, -,hKb,en⟩:=h.lay hk
 subst en
 obtain ⟨g,hl⟩:=h.ly
 have hil:k<(fX p.af).length:=by rw [oz];exact hk
 have e0:p.af.length=(fX p.af).length:=(oz _).symm
 rw [e0] at hl ⊢
 have hput:=hl.put hil hv
 have hset:(fX p.af).set k ((nth (fX p.af) k).1,bU (nth p.af k).count)=fX (Go.Proofs.YtimickglpboilaaGreatDoor.bump p k).af:=by
  rw [Bz hk]
  unfold fX Go.Proofs.YtimickglpboilaaGreatDoor.bump
  rw [List.map_set]
 rw [hset] at hput
 exact ⟨Ad h.gi (h.kb _ hKb),h.kb,h.kn,fun i hi=>by have:=h.nb i hi;simpa using this,
  R.keep (Ho fun i hi=>p8 fun e=>hi (e▸h.kn _ hKb)) _ _ h.cs,⟨g,hput⟩,h.ks,h.ct⟩
structure MB(K N:Nat->Prop)(w:World)(b:Nat)(T:TypeId)(cs:Array Value):Prop where
 bl:ai w b T cs
 n:N b
 k: ¬K b
 g:NG<=b
theorem MB.lt{b:Nat}{T:TypeId}{cs:Array Value}(h:MB K N w b T cs):b<w.heap.size:=h.bl.lt
theorem MB.bY{b:Nat}{T:TypeId}{cs:Array Value}(h:MB K N w b T cs)(hf:eE K w w'):MB K N w' b T cs:={h with bl:=h.bl.bY hf h.k}
theorem MB.below{b:Nat}{T:TypeId}{cs:Array Value}(h:MB K N w b T cs)(hb:Below w.heap.size w w'):MB K N w' b T cs:={h with bl:=h.bl.below hb h.bl.lt}
theorem MB.more{b:Nat}{T:TypeId}{cs:Array Value}(h:MB K N w b T cs)(hN: ∀b,N b->N' b):MB K N' w b T cs:={h with n:=hN _ h.n}
theorem MB.other{b b':Nat}{T:TypeId}{cs:Array Value}(h:MB K N w b T cs)(ho:fD w w' b')(hne:b≠b'):MB K N w' b T cs:={h with bl:=(ho.block _ hne).trans h.bl}
theorem MB.put{b:Nat}{T:TypeId}{cs cs':Array Value}(h:MB K N w b T cs)(hr:ai w' b T cs'):MB K N w' b T cs':={h with bl:=hr}
theorem MB.far{b:Nat}{T:TypeId}{cs:Array Value}(h:MB K N w b T cs){a:Addr}(v:Value)(ha:K a.block):MB K N (w.setCell a v) b T cs:={h with bl:=h.bl.far (fun e=>h.k (e▸ha)) v}
theorem MB.new{b:Nat}{T:TypeId}{cs:Array Value}(h:PV K N w S1 S2 p)(hr:ai w' b T cs)(hb:w.heap.size<=b)(hn:N' b):MB K N' w' b T cs :=
 ⟨hr,hn,fun hk=>by have:=h.nb _ (h.kn _ hk);omega,Nat.le_trans h.gi.2 hb⟩
end
theorem abR{P:Program}{fn:Func}{p u t3:Tmp}{ty jQ:TypeId}(h:fn.results= #[.cell p ty,.cell u jQ,.tmp t3])(tmps:Array Value)(w:World){g g2:Nat}{t t2:TypeId}{cs jD:Array Value}(d d2:TypeDesc)
  (hp:tmps.getD p undef= .pointer (some ⟨g,0,none⟩)) (hg:ai w g t cs) (hu:P.underlying ty=some d) (hd:(match d with| .struct _| .array _ _=>true|_=>false)=true) (hi:(P.info? ty).map (·.size)=some cs.size)
  (oq:tmps.getD u undef= .pointer (some ⟨g2,0,none⟩)) (rn:ai w g2 t2 jD) (jX:P.underlying jQ=some d2) (jn:(match d2 with| .struct _| .array _ _=>true|_=>false)=true) (hi2:(P.info? jQ).map (·.size)=some jD.size) :
  (results fn tmps).run P w= .ok (.tuple #[.agg cs,.agg jD,tmps.getD t3 undef]) w:=by
 have hp':tmps[p]?.getD undef= .pointer (some ⟨g,0,none⟩):=by simpa using hp
 have GR:tmps[u]?.getD undef= .pointer (some ⟨g2,0,none⟩):=by simpa using oq
 simp [results,h,hp',GR,asAddr,run_loadVar_row w g t ty cs (0,0) d hg hu hd hi,run_loadVar_row w g2 t2 jQ jD (0,0) d2 rn jX jn hi2,Sem.run_bind,Result.andThen]
theorem NX.oL{n:Nat}{P:Program}{E:List (Nat×Value)}{w:World}{fn:Func}{R:Ending->World->Prop}{p u t3:Tmp}{ty jQ:TypeId}{g g2:Nat}{t t2:TypeId}{cs jD:Array Value}{d d2:TypeDesc}{v:Value}(h:fn.results= #[.cell p ty,.cell u jQ,.tmp t3])(hp:lk E p=some (.pointer (some ⟨g,0,none⟩)))(oq:lk E u=some (.pointer (some ⟨g2,0,none⟩)))(hv:lk E t3=some v)
  (hg:ai w g t cs) (rn:ai w g2 t2 jD) (hu:P.underlying ty=some d) (jX:P.underlying jQ=some d2) (hd:(match d with| .struct _| .array _ _=>true|_=>false)=true) (jn:(match d2 with| .struct _| .array _ _=>true|_=>false)=true)
  (hi:(P.info? ty).map (·.size)=some cs.size) (hi2:(P.info? jQ).map (·.size)=some jD.size) (hR:R (.returned (.tuple #[.agg cs,.agg jD,v])) w):NX n (bodyPost P fn R .ret) E w :=
 fun a hE=>⟨hE.df,_,abR h a.tmps w d d2 (hE.at' p _ hp) hg hu hd hi (hE.at' u _ oq) rn jX jn hi2,by rw [hE.at' t3 _ hv];exact hR⟩
end
section
open Go.RowKit Go
variable [GC]
section
variable {n:Nat}{P:Program}{Q:Exit->Act->World->Prop}{E:List (Nat×Value)}{w:World}
variable {t0 t1 t2 t3 t4 t5 t6 t7:Nat}{dA:TypeDesc}{o0 o1 o2 o3 o4 o5 o6 o7:Oper}{b' c' k':Nat}{s u s1 u1:ByteArray}
theorem BQ{xl xc:Operand}{TC A1 A2 A3 A4:TypeId}{fC:Nat}
  (h0:o0.op= .move xl) (g0:o0.guard=none) (d0:o0.dst=some t0)
  (h1:o1.op= .binOp .eql A2 (.tmp t0) (.const (.string u)) A3) (g1:o1.guard=none) (d1:o1.dst=some t1)
  (h2:o2.op= .move (.tmp t1)) (g2:o2.guard=none) (d2:o2.dst=some t2)
  (h3:o3.op= .fieldAddr TC xc fC) (g3:o3.guard=some (2,true)) (d3:o3.dst=some t3)
  (h4:o4.op= .load A1 (.tmp t3)) (g4:o4.guard=some (2,true)) (d4:o4.dst=some t4)
  (h5:o5.op= .binOp .eql A2 (.tmp t4) (.const (.string u1)) A4) (g5:o5.guard=some (2,true)) (d5:o5.dst=some t5)
  (h6:o6.op= .pick (.tmp t2) (.tmp t5) (.const (.bool false))) (g6:o6.guard=none) (d6:o6.dst=some t6)
  (h7:o7.op= .assign (.tmp t6)) (g7:o7.guard=none) (d7:o7.dst=some t7)
  (hn:t0<n/\t1<n/\t2<n/\t3<n/\t4<n/\t5<n/\t6<n/\t7<n)
  (Ba: ∀z0 z1 z2,ev ((t2,z2)::(t1,z1)::(t0,z0)::E) xc=some (.pointer (some ⟨b',c',none⟩)))
  (dN:t2≠t5/\t2≠t4/\t2≠t3)
  (hxl:ev E xl=some (.string s)) (hA:P.underlying A1=some dA) (qN:uH dA=false)
  (yt:kS P TC fC=some k') (hc2:w.cell? ⟨b',c'+k',none⟩=some (.string s1))
  (h: ∀E',(∀t,t∉[t0,t1,t2,t3,t4,t5,t6,t7]->lk E' t=lk E t)->lk E' t7=some (.bool (fQ .eql s u&&fQ .eql s1 u1))->NX n (Q .normal) E' w) :
  WL n P #[o0,o1,o2,o3,o4,o5,o6,o7] Q [o0,o1,o2,o3,o4,o5,o6,o7] E w:=by
 obtain ⟨n0,n1,n2,n3,n4,n5,n6,n7⟩:=hn
 have bI: ∀t v (F:List (Nat×Value)),lk ((t,v)::F) t=some v:=fun t v F=>by simp [lk]
 have du: ∀{t t' v} {F:List (Nat×Value)},t≠t'->lk ((t',v)::F) t=lk F t:=fun {t t' v F} hne=>by
  simp only [lk]
  cases hb:Nat.beq t' t with
  | false=>rfl
  | true=>exact absurd (Nat.eq_of_beq_eq_true hb).symm hne
 refine WL.vv g0 d0 (bf h0 hxl) n0 ?_
 refine WL.vv g1 d1 (rN h1 (bI _ _ _) rfl) n1 ?_
 refine WL.vv g2 d2 (bf h2 (bI _ _ _)) n2 ?_
 have fin: ∀(vs:List (Nat×Value)) (t:Nat),t∉[t0,t1,t2,t3,t4,t5,t6,t7]->(∀p∈vs,p.1∈[t0,t1,t2,t3,t4,t5,t6,t7])->lk (vs++E) t=lk E t:=by
  intro vs t ht
  induction vs with
  | nil=>intro _;rfl
  | cons p r ih =>
   intro hp
   obtain ⟨pt,pv⟩:=p
   have h1:pt∈[t0,t1,t2,t3,t4,t5,t6,t7]:=hp (pt,pv) (by simp)
   rw [List.cons_append,du (fun e=>ht (by rw [e];exact h1))]
   exact ih fun q hq=>hp q (by simp [hq])
 cases hb:fQ .eql s u with
 | false =>
  refine WL.no (b:=false) g3 (by simpa using d2) (by rw [bI]) d3 n3 ?_
  refine WL.no (b:=false) g4 (by simpa using d2) (by rw [du dN.2.2,bI]) d4 n4 ?_
  refine WL.no (b:=false) g5 (by simpa using d2) (by rw [du dN.2.1,du dN.2.2,bI]) d5 n5 ?_
  refine WL.vv g6 d6 (pg h6 (by show lk _ _=_;rw [du dN.1,du dN.2.1,du dN.2.2,bI]) rfl) n6 ?_
  refine WL.vv g7 d7 (cO h7 (bI _ _ _)) n7 (WL.nil (h _ (fun t ht=> ?_) (by rw [bI,hb];rfl)))
  exact fin [_,_,_,_,_,_,_,_] t ht (by simp)
 | true =>
  refine WL.vg (b:=true) g3 (by simpa using d2) (by rw [bI]) d3 (cY h3 (Ba _ _ _) yt) n3 ?_
  refine WL.vg (b:=true) g4 (by simpa using d2) (by rw [du dN.2.2,bI]) d4 (cz h4 (bI _ _ _) hA qN hc2) n4 ?_
  refine WL.vg (b:=true) g5 (by simpa using d2) (by rw [du dN.2.1,du dN.2.2,bI]) d5 (rN h5 (bI _ _ _) rfl) n5 ?_
  refine WL.vv g6 d6 (wh h6 (by show lk _ _=_;rw [du dN.1,du dN.2.1,du dN.2.2,bI]) (bI _ _ _)) n6 ?_
  refine WL.vv g7 d7 (cO h7 (bI _ _ _)) n7 (WL.nil (h _ (fun t ht=> ?_) (by rw [bI,hb,Bool.true_and])))
  exact fin [_,_,_,_,_,_,_,_] t ht (by simp)
theorem QC{xl xb:Operand}{bk:Bool}{A2 A3:TypeId}
  (h0:o0.op= .move xl) (g0:o0.guard=none) (d0:o0.dst=some t0)
  (h1:o1.op= .binOp .eql A2 (.tmp t0) (.const (.string u)) A3) (g1:o1.guard=none) (d1:o1.dst=some t1)
  (h2:o2.op= .move (.tmp t1)) (g2:o2.guard=none) (d2:o2.dst=some t2)
  (h3:o3.op= .move xb) (g3:o3.guard=some (2,true)) (d3:o3.dst=some t3)
  (h4:o4.op= .pick (.tmp t2) (.tmp t3) (.const (.bool false))) (g4:o4.guard=none) (d4:o4.dst=some t4)
  (h5:o5.op= .assign (.tmp t4)) (g5:o5.guard=none) (d5:o5.dst=some t5)
  (hn:t0<n/\t1<n/\t2<n/\t3<n/\t4<n/\t5<n)
  (hxb: ∀z0 z1 z2,ev ((t2,z2)::(t1,z1)::(t0,z0)::E) xb=some (.bool bk))
  (dN:t2≠t3)
  (hxl:ev E xl=some (.string s))
  (h: ∀E',(∀t,t∉[t0,t1,t2,t3,t4,t5]->lk E' t=lk E t)->lk E' t5=some (.bool (fQ .eql s u&&bk))->NX n (Q .normal) E' w) :
  WL n P #[o0,o1,o2,o3,o4,o5] Q [o0,o1,o2,o3,o4,o5] E w:=by
 obtain ⟨n0,n1,n2,n3,n4,n5⟩:=hn
 have bI: ∀t v (F:List (Nat×Value)),lk ((t,v)::F) t=some v:=fun t v F=>by simp [lk]
 have du: ∀{t t' v} {F:List (Nat×Value)},t≠t'->lk ((t',v)::F) t=lk F t:=fun {t t' v F} hne=>by
  simp only [lk]
  cases hb:Nat.beq t' t with
  | false=>rfl
  | true=>exact absurd (Nat.eq_of_beq_eq_true hb).symm hne
 refine WL.vv g0 d0 (bf h0 hxl) n0 ?_
 refine WL.vv g1 d1 (rN h1 (bI _ _ _) rfl) n1 ?_
 refine WL.vv g2 d2 (bf h2 (bI _ _ _)) n2 ?_
 have fin: ∀(vs:List (Nat×Value)) (t:Nat),t∉[t0,t1,t2,t3,t4,t5]->(∀p∈vs,p.1∈[t0,t1,t2,t3,t4,t5])->lk (vs++E) t=lk E t:=by
  intro vs t ht
  induction vs with
  | nil=>intro _;rfl
  | cons p r ih =>
   intro hp
   obtain ⟨pt,pv⟩:=p
   have h1:pt∈[t0,t1,t2,t3,t4,t5]:=hp (pt,pv) (by simp)
   rw [List.cons_append,du (fun e=>ht (by rw [e];exact h1))]
   exact ih fun q hq=>hp q (by simp [hq])
 cases hb:fQ .eql s u with
 | false =>
  refine WL.no (b:=false) g3 (by simpa using d2) (by rw [bI]) d3 n3 ?_
  refine WL.vv g4 d4 (pg h4 (by show lk _ _=_;rw [du dN,bI]) rfl) n4 ?_
  refine WL.vv g5 d5 (cO h5 (bI _ _ _)) n5 (WL.nil (h _ (fun t ht=> ?_) (by rw [bI,hb];rfl)))
  exact fin [_,_,_,_,_,_] t ht (by simp)
 | true =>
  refine WL.vg (b:=true) g3 (by simpa using d2) (by rw [bI]) d3 (bf h3 (hxb _ _ _)) n3 ?_
  refine WL.vv g4 d4 (wh h4 (by show lk _ _=_;rw [du dN,bI]) (bI _ _ _)) n4 ?_
  refine WL.vv g5 d5 (cO h5 (bI _ _ _)) n5 (WL.nil (h _ (fun t ht=> ?_) (by rw [bI,hb,Bool.true_and])))
  exact fin [_,_,_,_,_,_] t ht (by simp)
end
end
section
open Go.RowKit Go
variable [GC]
theorem cU(w:World)(z:Array Value)(T:TypeId):Below w.heap.size w (w.alloc (.cells z T)):=by go_grown
theorem PV.alloc{K N:Nat->Prop}{w:World}{S1 S2:Value}{p:Part}(h:PV K N w S1 S2 p)(T:TypeId)(z:Array Value) :
  ∃w' N',w'=w.alloc (.cells z T)/\Below w.heap.size w w'/\(∀b,N b->N' b)/\PV K N' w' S1 S2 p/\MB K N' w' w.heap.size T z/\w'.heap.size=w.heap.size+1:=by
 have hb:=cU w z T
 have hs:(w.alloc (.cells z T)).heap.size=w.heap.size+1:=by simp [World.size_alloc]
 have hN:PV K (fun i=>N i\/i=w.heap.size) (w.alloc (.cells z T)) S1 S2 p:=h.new hb (fun b hb=>hb.imp id fun e=>by omega) (fun b hb=> .inl hb) fun b hb=>by
  rcases hb with hb|hb
  ·have:=h.nb b hb;omega
  ·omega
 exact ⟨_,_,rfl,hb,fun b hb=> .inl hb,hN,MB.new h (ai.new w T z) (Nat.le_refl _) (.inr rfl),hs⟩
def wV(K N:Nat->Prop)(w:World)(S2:Value)(y:Part×dW)(e:Ending)(w':World):Prop :=
 ∃lL,e= .returned (.tuple #[.agg (aF y.1 lL S2),.agg (cK y.2)])/\PV K N w' lL S2 y.1/\eE K w w'
def wX(k:Nat):Prop:= ∀(K N:Nat->Prop) (w:World) (S1 S2:Value) (p:Part) (x:Call),PV K N w S1 S2 p->mS x->fj p=true->eH x=true->k<=p.af.length->cV (eQ p k) (bK x.method)=true ->
 Calls Tryz.prog 32 #[.agg (aF p S1 S2),.int .i64 ((k:Nat):Int),cm x] w (wV K N w S2 (aA k p x))
def mf(K N:Nat->Prop)(w:World)(S2:Value)(k:Nat)(p:Part)(x:Call)(e:Ending)(w':World):Prop :=
 ∃lL q r own,e= .returned (.tuple #[.agg (aF q lL S2),.agg (cK r),.bool own])/\PV K N w' lL S2 q/\eE K w w'/\(own=true->aA (k+1) p x=(q,r))/\(own=false->q=p/\aA (k+1) p x=aA k p x/\cV (eQ p k) (bK x.method)=true)
def JH(k:Nat):Prop:= ∀(K N:Nat->Prop) (w:World) (S1 S2:Value) (p:Part) (x:Call),PV K N w S1 S2 p->mS x->fj p=true->eH x=true->k+1<=p.af.length->cV (eQ p (k+1)) (bK x.method)=true ->
 Calls Tryz.prog 61 #[.agg (aF p S1 S2),.int .i64 ((k+1:Nat):Int),cm x] w (mf K N w S2 k p x)
theorem mf.mk{K N N':Nat->Prop}{w w':World}{S1 S2:Value}{k:Nat}{p q:Part}{x:Call}{r:dW}{own:Bool}{e:Ending}(he:e= .returned (.tuple #[.agg (aF q S1 S2),.agg (cK r),.bool own]))(H:PV K N' w' S1 S2 q)(hN: ∀b,N b->N' b)(hK: ∀b,K b->N b)(hF:eE K w w')
  (h1:own=true->aA (k+1) p x=(q,r)) (h2:own=false->q=p/\aA (k+1) p x=aA k p x/\cV (eQ p k) (bK x.method)=true):mf K N w S2 k p x e w' :=
 ⟨S1,q,r,own,he,H.less hN hK,hF,h1,h2⟩
theorem SH{K N:Nat->Prop}{w:World}{S1 S2:Value}{p:Part}(h:PV K N w S1 S2 p)(n:Int)(hn:fg n=true) :
  Calls Tryz.prog 87 #[.int .i64 n] w fun e w'=>e= .returned (.int .i64 (bU n))/\Below w.heap.size w w':=by
 have hn':=rJ.1 hn
 refine (aG.calls (Cu n hn) (vs:=[.int .i64 n]) h.je ⟨_,[],rfl,⟨rfl,by have:IntKind.i64.min= -9223372036854775808/\IntKind.i64.max=9223372036854775807:=(by decide);omega⟩,rfl⟩).mono ?_
 rintro e w' ⟨v,rfl,⟨rfl,h1⟩,h3⟩
 exact ⟨rfl,h3⟩
theorem VE(a b:Int):aG Tryz.prog 88 none [.int .i64 a,.int .i64 b] (.int .i64 (if a<b then a else b)) []:=by
 refine aG.bV ahq afH rfl ?_ (fun hfit=> ?_)
 ·exact ⟨rfl,rfl,trivial⟩
 unfold Sn
 refine aL (fun h=>aK ?_) (fun h=>aK ?_)
 ·simp only [E.den,aa,aj,ak] at h ⊢
  have h:a<b:=by simpa using h
  rw [if_pos h]
 ·simp only [E.den,aa,aj,ak] at h ⊢
  have h: ¬a<b:=by simpa using h
  rw [if_neg h]
theorem ahZ{K N:Nat->Prop}{w:World}{S1 S2:Value}{p:Part}(h:PV K N w S1 S2 p)(a:Int)(ha:IntKind.i64.min<=a/\a<=IntKind.i64.max) :
  Calls Tryz.prog 88 #[.int .i64 a,.int .i64 999] w fun e w'=>e= .returned (.int .i64 (min a 999))/\Below w.heap.size w w':=by
 refine (aG.calls (VE a 999) (vs:=[.int .i64 a,.int .i64 999]) h.je ⟨_,_,rfl,⟨rfl,ha⟩,_,[],rfl,⟨rfl,by decide⟩,rfl⟩).mono ?_
 rintro e w' ⟨v,rfl,⟨rfl,h1⟩,h3⟩
 refine ⟨?_,h3⟩
 congr 2
 split<;>congr 1<;>omega
theorem ahW{K N:Nat->Prop}{w:World}{S1 S2:Value}{p:Part}(h:PV K N w S1 S2 p)(x:Call)(hx:mS x)(hp:fj p=true)(hc:eH x=true)(ho:cV (eQ p 0) (bK x.method)=true) :
  Calls Tryz.prog 60 #[.agg #[.string p.core.kind,.bool p.core.on,.bool p.core.broken,S1,.int .i64 p.core.count],cm x] w fun e w' =>
   ∃lL,e= .returned (.tuple #[.agg #[.string (bL p.core x).1.kind,.bool (bL p.core x).1.on,.bool (bL p.core x).1.broken,lL,.int .i64 (bL p.core x).1.count],.agg (cK (bL p.core x).2)])/\PV K N w' lL S2 ⟨(bL p.core x).1,p.af⟩/\Below w.heap.size w w':=by
 have DF:=(nH.1 hp).1
 have hk:eQ p 0=ek p.core.kind:=by unfold eQ;rw [if_pos rfl]
 rw [hk] at ho
 refine (aG.calls (Vs p.core x DF hc ho hx.text) (vs:=[.agg #[.string p.core.kind,.bool p.core.on,.bool p.core.broken,S1,.int .i64 p.core.count],cm x]) h.je ⟨_,_,rfl,⟨_,rfl,_,_,rfl,⟨rfl,h.ks⟩,_,_,rfl,rfl,_,_,rfl,rfl,_,_,rfl,h.cs,_,_,rfl,⟨rfl,h.ct⟩,rfl⟩,_,[],rfl,
  ⟨_,rfl,_,_,rfl,⟨rfl,hx.method⟩,_,_,rfl,⟨rfl,hx.key⟩,_,_,rfl,⟨rfl,hx.val⟩,_,_,rfl,⟨rfl,by have:=hx.text;unfold maxLen;omega⟩,rfl⟩,rfl⟩).mono ?_
 rintro e w' ⟨v,rfl,⟨cs,rfl,v0,r0,e0,⟨c0,rfl,y0,q0,e1,⟨rfl,k0⟩,y1,q1,rfl,rfl,y2,q2,rfl,rfl,y3,q3,rfl,h3,y4,q4,rfl,⟨rfl,k4⟩,rfl⟩,v1,r1,rfl,⟨c1,rfl,z0,s0,e2,⟨rfl,_⟩,z1,s1,rfl,⟨rfl,_⟩,z2,s2,rfl,⟨rfl,_⟩,z3,s3,rfl,⟨rfl,_⟩,z4,s4,rfl,⟨rfl,_⟩,rfl⟩,rfl⟩,hb⟩
 have hc0:c0=_:=Array.toList_inj.1 (e1.trans (rfl:_=(#[_,_,_,_,_]:Array Value).toList))
 have hc1:c1=_:=Array.toList_inj.1 (e2.trans (rfl:_=(#[_,_,_,_,_]:Array Value).toList))
 have hcs:cs=_:=Array.toList_inj.1 (e0.trans (rfl:_=(#[_,_]:Array Value).toList))
 subst hc0 hc1 hcs
 have hB:=h.below hb
 exact ⟨y3,rfl,{hB with cs:=h3,ks:=k0,ct:=k4},hb⟩
theorem uN(m:ByteArray):uO Tryz.prog 43 [(0,.string m)]=some #[.string m,.string cS,.int .i64 0,.string cS]:=by kernel_rfl
theorem UJ:uO Tryz.prog 39 []=some (cK (rep 0 0 0 0)):=by kernel_rfl
end
section
open Go.RowKit Go
variable [GC]
section
variable {n:Nat}{P:Program}{Q:Exit->Act->World->Prop}{E:List (Nat×Value)}{w:World}
end
section
variable {n:Nat}{P:Program}{ops:Array Oper}{Q:Exit->Act->World->Prop}{S:World->Prop}{s k:Nat}{L L':Array Bool}{E E':List (Nat×Value)}{w w':World}{i j d:Nat}{o:Oper}{v:Value}
def aV(n:Nat)(P:Program)(ops:Array Oper)(Q:Exit->Act->World->Prop)(S:World->Prop)(s k:Nat)(L:Array Bool)(E:List (Nat×Value))(w:World)(i:Nat):Prop:= ∀a,Env n a E->wpOp P ops Q i (fun a' w'=>(i≠s->S w')/\kv P .any ops Q S s k (L.setIfInBounds i true) a' w') a w
theorem AU.m1(hr:Region.ready .any ops L=[i])(h:aV n P ops Q S s k L E w i):AU n P ops Q S s (k+1) L E w:=fun a hE=>⟨fun e=>(by rw [hr] at e;cases e),fun x hx=>by
 rw [hr] at hx
 cases List.mem_singleton.1 hx
 exact h a hE⟩
theorem AU.m2(hr:Region.ready .any ops L=[i,j])(h:aV n P ops Q S s k L E w i)(h2:aV n P ops Q S s k L E w j):AU n P ops Q S s (k+1) L E w:=fun a hE=>⟨fun e=>(by rw [hr] at e;cases e),fun x hx=>by
 rw [hr] at hx
 rcases List.mem_cons.1 hx with rfl|hx
 ·exact h a hE
 ·cases List.mem_singleton.1 hx
  exact h2 a hE⟩
theorem AU.m3{l:Nat}(hr:Region.ready .any ops L=[i,j,l])(h:aV n P ops Q S s k L E w i)(h2:aV n P ops Q S s k L E w j)(h3:aV n P ops Q S s k L E w l):AU n P ops Q S s (k+1) L E w:=fun a hE=>⟨fun e=>(by rw [hr] at e;cases e),fun x hx=>by
 rw [hr] at hx
 rcases List.mem_cons.1 hx with rfl|hx
 ·exact h a hE
 rcases List.mem_cons.1 hx with rfl|hx
 ·exact h2 a hE
 ·cases List.mem_singleton.1 hx
  exact h3 a hE⟩
theorem aV.vv(hi:ops.toList[i]? =some o)(hg:o.guard=none)(hd:o.dst=some d)(hrun:fz n P E o w v w')(fV:d<n)(hS:S w')(h:AU n P ops Q S s k (L.setIfInBounds i true) ((d,v)::E) w'):aV n P ops Q S s k L E w i:=fun a hE =>
 uG.op (by rw [<-Array.getElem?_toList];exact hi) fun K' hK=>by
  rw [if_pos (wS hg _)]
  unfold Oper.wp
  rw [hrun a hE,Oper.upon_value,hd]
  exact hK _ _ (fun _=>hS) fun _=>h _ (hE.put fV v)
theorem aV.c{f:FuncId}{args:Array Value}{R:Ending->World->Prop}(hi:ops.toList[i]? =some o)(hg:o.guard=none)(hd:o.dst=some d)(hrun:xm n P E o w f args)(fV:d<n)(hC:Calls P f args w R)
  (h: ∀e w',R e w'-> ∃v,e= .returned v/\S w'/\AU n P ops Q S s k (L.setIfInBounds i true) ((d,v)::E) w'):aV n P ops Q S s k L E w i:=fun a hE =>
 uG.op (by rw [<-Array.getElem?_toList];exact hi) fun K' hK=>by
  rw [if_pos (wS hg _)]
  unfold Oper.wp
  rw [hrun a hE]
  refine hC.mono fun e w' he=> ?_
  obtain ⟨v,rfl,hS,hv⟩:=h e w' he
  rw [hd]
  exact hK _ _ (fun _=>hS) fun _=>hv _ (hE.put fV v)
theorem AU.re(hL:L=L')(hs:aW E E')(h:AU n P ops Q S s k L' E' w):AU n P ops Q S s k L E w:=fun a hE=>hL▸h a (hE.sub hs)
def regs:Code->List (Nat×Array Oper)
 | .region id ops _=>[(id,ops)]
 | .seq a b=>regs a++regs b
 | .cond _ a b=>regs a++regs b
 | .block _ c=>regs c
 | .loop c=>regs c
 | _=>[]
def Ec(fn:Func)(id:Nat):Array Oper:=match fn.body with
 | some c=>(((regs c).find? fun p=>Nat.beq p.1 id).map (·.2)).getD #[]
 | none=> #[]
def aa5:Oper:={dst:=none,op:= .move (.const (.bool true)),type:=0,pos:= "",after:= #[],guard:=none}
def opAt(ops:Array Oper)(i:Nat):Oper:=(ops.toList[i]?).getD aa5
theorem cJ{x:Operand}{i:Nat}{vs:Array Value}(ho:o.op= .extract x i)(hx:ev E x=some (.tuple vs))(hv:vs[i]? =some v):fz n P E o w v w:=fun a hE=>by
 simp [execOp,ho,hE.ev hx,Instr.extract,hv]
end
end
section
open Go.RowKit Go
variable [GC]
abbrev PH(b:Nat):Value:= .pointer (some ⟨b,0,none⟩)
def lh(l:List Nat):Array Bool:=((List.range 17).map fun i=>l.any (Nat.beq i)).toArray
theorem Eb{n:Nat}{P:Program}{E:List (Nat×Value)}{o:Oper}{w:World}{T e:TypeId}{i:TypeInfo}{x y:Operand}{s t z:ByteArray}(ho:o.op= .buildSlice T 2 #[(0,x),(1,y)])(hx:ev E x=some (.string s))(hy:ev E y=some (.string t))(hT:P.underlying T=some (.slice e))(hi:P.info? e=some i)(hsz:i.size=1)(hz:i.zero=some (.string z)) :
  fz n P E o w (.slice (some ⟨w.heap.size,0,none⟩) 2 2) (w.alloc (.cells #[.string s,.string t] e)):=fun a hE=>by
 have hr:Array.range 2= #[0,1]:=rfl
 simp [execOp,ho,hE.ev hx,hE.ev hy,Instr.buildSlice,run_underlying hT,run_sizeOf hi,hsz,zeroValue,run_typeInfo hi,hz,Value.cells,Instr.fill,newRow,hr]
structure HS(K N:Nat->Prop)(w:World)(S2:Value)(N':Nat->Prop)(W:World)(S1:Value)(q:Part):Prop where
 h:PV K N' W S1 S2 q
 hf:eE K w W
 hn: ∀i,N i->N' i
structure BX(K N':Nat->Prop)(W:World)(p:Part)(x:Call)(S1 S2:Value)(lo g3 g5 g6 g7 g15:Nat):Prop where
 m3:MB K N' W g3 37 (aF p S1 S2)
 m5:MB K N' W g5 43 #[.string x.method,.string x.key,.int .i64 x.val,.string x.text]
 m6:MB K N' W g6 37 aH
 m7:MB K N' W g7 39 aC
 m15:MB K N' W g15 37 (aF p S1 S2)
 lt:g3<lo/\g5<lo/\g6<lo/\g7<lo/\g15<lo
section
variable {K N N' di:Nat->Prop}{w W W':World}{p q:Part}{x:Call}{S1 S2 U:Value}{lo g3 g5 g6 g7 g15:Nat}
theorem BX.map(h:BX K N' W p x S1 S2 lo g3 g5 g6 g7 g15)(f: ∀b T cs,b<lo->MB K N' W b T cs->MB K di W' b T cs):BX K di W' p x S1 S2 lo g3 g5 g6 g7 g15 :=
 ⟨f _ _ _ h.lt.1 h.m3,f _ _ _ h.lt.2.1 h.m5,f _ _ _ h.lt.2.2.1 h.m6,f _ _ _ h.lt.2.2.2.1 h.m7,f _ _ _ h.lt.2.2.2.2 h.m15,h.lt⟩
theorem HS.below(h:HS K N w S2 N' W U q)(hb:Below W.heap.size W W'):HS K N w S2 N' W' U q:=⟨h.h.below hb,h.hf.bT hb,h.hn⟩
theorem HS.one{b:Nat}(h:HS K N w S2 N' W U q){T:TypeId}{cs:Array Value}(hm:MB K N' W b T cs)(ho:fD W W' b)(hw:w.heap.size<=b):HS K N w S2 N' W' U q:=⟨h.h.one ho hm.n hm.k hm.g,h.hf.one ho (.inr hw),h.hn⟩
end
noncomputable def bB:Array Oper:=Ec Tryz.f61 22
noncomputable def CB:Go.Call:=match (opAt bB 9).op with
 | .call c=>c
 | _=>{callee:= .value (.const (.bool true)),args:= #[],argTypes:= #[]}
def sH(q:Part)(x:Call)(S1 S2:Value)(g5 g15:Nat):World->Prop:=fun W=>ai W g15 37 (aF q S1 S2)/\ai W g5 43 #[.string x.method,.string x.key,.int .i64 x.val,.string x.text]
theorem BX.s{K N':Nat->Prop}{W:World}{p:Part}{x:Call}{S1 S2:Value}{lo g3 g5 g6 g7 g15:Nat}(h:BX K N' W p x S1 S2 lo g3 g5 g6 g7 g15):sH p x S1 S2 g5 g15 W:=⟨h.m15.bl,h.m5.bl⟩
theorem C4:C3 Tryz.prog 114=some 1:=by kernel_rfl
theorem DT: ∃i,Tryz.prog.info? 9=some i/\i.size=1/\i.zero=some (.string ⟨#[]⟩):=⟨_,rfl,rfl,rfl⟩
set_option maxHeartbeats 8000000 in
theorem abJ{k:Nat}(IH:wX k){K N:Nat->Prop}{w:World}{q:Part}{x:Call}{S1 S2:Value}{m:ByteArray}{j lo g3 g5 g6 g7 g15:Nat}{Q:Exit->Act->World->Prop}(hQ: ∀c a t v w,Q (.panic c) (Act.put a t v) w->Q (.panic c) a w)
  (hj:(#[Value.string cj,.string mStart])[j]? =some (.string m)) (hj2:j<2) (mF:x.val=(j:Int)) (Dy:mS (br m)) (yD:eH (br m)=true) (hq:fj q=true) (hk:k<=q.af.length) (hmo:cV (eQ q k) (bK (br m).method)=true) (hlw:w.heap.size<=lo)
  (fin: ∀(N':Nat->Prop) (W:World) (U:Value) (b16 b17:Nat),HS K N w S2 N' W U (aA k q (br m)).1->BX K N' W q x S1 S2 lo g3 g5 g6 g7 g15->MB K N' W b16 37 (aF (aA k q (br m)).1 U S2)->MB K N' W b17 39 (cK (aA k q (br m)).2)->lo<=b16->lo<=b17->b16≠b17->lo<=W.heap.size ->
   NX 235 (Q .normal) [(6,PH g6),(7,PH g7),(16,PH b16),(17,PH b17)] W)
  (N':Nat->Prop) (W:World) (H:HS K N w S2 N' W S1 q) (X:BX K N' W q x S1 S2 lo g3 g5 g6 g7 g15) (hlo:lo<=W.heap.size) :
  AU 235 Tryz.prog bB Q (sH q x S1 S2 g5 g15) 16 17 (Array.replicate 17 false) [(1,.int .i64 ((k+1:Nat):Int)),(5,PH g5),(6,PH g6),(7,PH g7),(15,PH g15)] W:=by
 have hw:cP .sub .i64 ((k+1:Nat):Int) 1=(k:Int):=by
  have:=(nH.1 hq).2.1
  rw [kA (by omega) (by omega)];omega
 have pG: ∀(N':Nat->Prop) (W:World) (U:Value) (b16:Nat) (b17:Nat),HS K N w S2 N' W U (aA k q (br m)).1->BX K N' W q x S1 S2 lo g3 g5 g6 g7 g15->lo<=W.heap.size->MB K N' W b16 37 aH/\lo<=b16->MB K N' W b17 39 aC/\lo<=b17->b16≠b17->AU 235 Tryz.prog bB Q (sH q x S1 S2 g5 g15) 16 2 (lh [0,1,2,3,4,5,6,7,8,9,10,11,12,13,14]) [(6,PH g6),(7,PH g7),(177,.agg (aF (aA k q (br m)).1 U S2)),(178,.agg (cK (aA k q (br m)).2)),(16,PH b16),(17,PH b17)] W:=by
  intro N' W U b16 b17 H X hlo dJ dQ hne
  obtain ⟨l3,l5,l6,l7,l15⟩:=X.lt
  refine AU.st (o:=opAt bB 15) 15 (by kernel_rfl) (by kernel_rfl) (by kernel_rfl) (by kernel_rfl) (T:=37) (x:= .tmp 16) (y:= .tmp 177) (C:=aH) (by kernel_rfl) rfl rfl dJ.1.bl rfl H.h.gz aY (fun w' ho _=>⟨(ho.block _ (by omega)).trans X.m15.bl,(ho.block _ (by omega)).trans X.m5.bl⟩) fun W1 R1 O1=> ?_
  have H1:=H.one dJ.1 O1 (by omega)
  have X1:=X.map fun b T cs hb hm=>hm.other O1 (by omega)
  have Gf:=dQ.1.other O1 (by omega)
  have Xt:=dJ.1.put R1
  refine AU.st (o:=opAt bB 16) 16 (by kernel_rfl) (by kernel_rfl) (by kernel_rfl) (by kernel_rfl) (T:=39) (x:= .tmp 17) (y:= .tmp 178) (C:=aC) (by kernel_rfl) rfl rfl Gf.bl rfl (da _) aZ (fun _ _ h=>absurd rfl h) fun W2 R2 O2=> ?_
  have H2:=H1.one Gf O2 (by omega)
  have X2:=X1.map fun b T cs hb hm=>hm.other O2 (by omega)
  have Xu:=Xt.other O2 (by omega)
  have Xv:=Gf.put R2
  refine AU.done (by kernel_rfl) ?_
  exact fun ac hE=>fin _ _ _ _ _ H2 X2 Xu Xv dJ.2 dQ.2 hne (by have:=O1.size;have:=O2.size;omega) ac (hE.sub ⟨rfl,rfl,rfl,rfl,trivial⟩)
 have uh: ∀(N':Nat->Prop) (W:World) (U:Value) (b16:Nat),HS K N w S2 N' W U (aA k q (br m)).1->BX K N' W q x S1 S2 lo g3 g5 g6 g7 g15->lo<=W.heap.size->MB K N' W b16 37 aH/\lo<=b16->AU 235 Tryz.prog bB Q (sH q x S1 S2 g5 g15) 16 3 (lh [0,1,2,3,4,5,6,7,8,9,10,11,12,13]) [(6,PH g6),(7,PH g7),(177,.agg (aF (aA k q (br m)).1 U S2)),(178,.agg (cK (aA k q (br m)).2)),(16,PH b16)] W:=by
  intro N' W U b16 H X hlo dJ
  refine AU.m1 (show Region.ready .any bB (lh [0,1,2,3,4,5,6,7,8,9,10,11,12,13])=[14] by kernel_rfl) ?_
  ·obtain ⟨W',di,eW,hb,hN,H',M,hsz⟩:=H.h.alloc 39 aC
   have X':BX K di W' q x S1 S2 lo g3 g5 g6 g7 g15:=X.map fun b T cs _ hm=>(hm.below hb).more hN
   have HH:HS K N w S2 di W' _ _:=⟨H',H.hf.bT hb,fun i hi=>hN i (H.hn i hi)⟩
   refine aV.vv (o:=opAt bB 14) (d:=17) (w':=W') (by kernel_rfl) (by kernel_rfl) (by kernel_rfl) (by rw [eW];exact bp (z:= .agg aC) (by kernel_rfl) dr) (by decide) X'.s ?_
   exact AU.re (by kernel_rfl) (show aW _ [(6,PH g6),(7,PH g7),(177,.agg (aF (aA k q (br m)).1 U S2)),(178,.agg (cK (aA k q (br m)).2)),(16,PH b16),(17,PH W.heap.size)] from ⟨rfl,rfl,rfl,rfl,rfl,rfl,trivial⟩) (pG _ _ _ _ _ HH  X'  (by omega)  ⟨(dJ.1.below hb).more hN,dJ.2⟩  ⟨M,hlo⟩  (by have:=dJ.1.lt;omega))
 have ug: ∀(N':Nat->Prop) (W:World) (U:Value) (b17:Nat),HS K N w S2 N' W U (aA k q (br m)).1->BX K N' W q x S1 S2 lo g3 g5 g6 g7 g15->lo<=W.heap.size->MB K N' W b17 39 aC/\lo<=b17->AU 235 Tryz.prog bB Q (sH q x S1 S2 g5 g15) 16 3 (lh [0,1,2,3,4,5,6,7,8,9,10,11,12,14]) [(6,PH g6),(7,PH g7),(177,.agg (aF (aA k q (br m)).1 U S2)),(178,.agg (cK (aA k q (br m)).2)),(17,PH b17)] W:=by
  intro N' W U b17 H X hlo dQ
  refine AU.m1 (show Region.ready .any bB (lh [0,1,2,3,4,5,6,7,8,9,10,11,12,14])=[13] by kernel_rfl) ?_
  ·obtain ⟨W',di,eW,hb,hN,H',M,hsz⟩:=H.h.alloc 37 aH
   have X':BX K di W' q x S1 S2 lo g3 g5 g6 g7 g15:=X.map fun b T cs _ hm=>(hm.below hb).more hN
   have HH:HS K N w S2 di W' _ _:=⟨H',H.hf.bT hb,fun i hi=>hN i (H.hn i hi)⟩
   refine aV.vv (o:=opAt bB 13) (d:=16) (w':=W') (by kernel_rfl) (by kernel_rfl) (by kernel_rfl) (by rw [eW];exact bp (z:= .agg aH) (by kernel_rfl) dH) (by decide) X'.s ?_
   exact AU.re (by kernel_rfl) (show aW _ [(6,PH g6),(7,PH g7),(177,.agg (aF (aA k q (br m)).1 U S2)),(178,.agg (cK (aA k q (br m)).2)),(16,PH W.heap.size),(17,PH b17)] from ⟨rfl,rfl,rfl,rfl,rfl,rfl,trivial⟩) (pG _ _ _ _ _ HH  X'  (by omega)  ⟨M,hlo⟩  ⟨(dQ.1.below hb).more hN,dQ.2⟩  (by have:=dQ.1.lt;omega))
 have BF: ∀(N':Nat->Prop) (W:World) (U:Value),HS K N w S2 N' W U (aA k q (br m)).1->BX K N' W q x S1 S2 lo g3 g5 g6 g7 g15->lo<=W.heap.size->AU 235 Tryz.prog bB Q (sH q x S1 S2 g5 g15) 16 4 (lh [0,1,2,3,4,5,6,7,8,9,10,11,12]) [(6,PH g6),(7,PH g7),(177,.agg (aF (aA k q (br m)).1 U S2)),(178,.agg (cK (aA k q (br m)).2))] W:=by
  intro N' W U H X hlo
  refine AU.m2 (show Region.ready .any bB (lh [0,1,2,3,4,5,6,7,8,9,10,11,12])=[13,14] by kernel_rfl) ?_ ?_
  ·obtain ⟨W',di,eW,hb,hN,H',M,hsz⟩:=H.h.alloc 37 aH
   have X':BX K di W' q x S1 S2 lo g3 g5 g6 g7 g15:=X.map fun b T cs _ hm=>(hm.below hb).more hN
   have HH:HS K N w S2 di W' _ _:=⟨H',H.hf.bT hb,fun i hi=>hN i (H.hn i hi)⟩
   refine aV.vv (o:=opAt bB 13) (d:=16) (w':=W') (by kernel_rfl) (by kernel_rfl) (by kernel_rfl) (by rw [eW];exact bp (z:= .agg aH) (by kernel_rfl) dH) (by decide) X'.s ?_
   exact AU.re (by kernel_rfl) (show aW _ [(6,PH g6),(7,PH g7),(177,.agg (aF (aA k q (br m)).1 U S2)),(178,.agg (cK (aA k q (br m)).2)),(16,PH W.heap.size)] from ⟨rfl,rfl,rfl,rfl,rfl,trivial⟩) (uh _ _ _ _ HH  X'  (by omega)  ⟨M,hlo⟩)
  ·obtain ⟨W',di,eW,hb,hN,H',M,hsz⟩:=H.h.alloc 39 aC
   have X':BX K di W' q x S1 S2 lo g3 g5 g6 g7 g15:=X.map fun b T cs _ hm=>(hm.below hb).more hN
   have HH:HS K N w S2 di W' _ _:=⟨H',H.hf.bT hb,fun i hi=>hN i (H.hn i hi)⟩
   refine aV.vv (o:=opAt bB 14) (d:=17) (w':=W') (by kernel_rfl) (by kernel_rfl) (by kernel_rfl) (by rw [eW];exact bp (z:= .agg aC) (by kernel_rfl) dr) (by decide) X'.s ?_
   exact AU.re (by kernel_rfl) (show aW _ [(6,PH g6),(7,PH g7),(177,.agg (aF (aA k q (br m)).1 U S2)),(178,.agg (cK (aA k q (br m)).2)),(17,PH W.heap.size)] from ⟨rfl,rfl,rfl,rfl,rfl,trivial⟩) (ug _ _ _ _ HH  X'  (by omega)  ⟨M,hlo⟩)
 have ma: ∀(N':Nat->Prop) (W:World) (b16:Nat) (b17:Nat),HS K N w S2 N' W S1 q->BX K N' W q x S1 S2 lo g3 g5 g6 g7 g15->lo<=W.heap.size->MB K N' W b16 37 aH/\lo<=b16->MB K N' W b17 39 aC/\lo<=b17->b16≠b17->AU 235 Tryz.prog bB Q (sH q x S1 S2 g5 g15) 16 6 (lh [0,1,2,3,4,5,6,7,8,13,14]) [(6,PH g6),(7,PH g7),(167,.agg (aF q S1 S2)),(169,.int .i64 ((k:Nat):Int)),(175,.agg #[.string m,.string cS,.int .i64 0,.string cS]),(16,PH b16),(17,PH b17)] W:=by
  intro N' W b16 b17 H X hlo dJ dQ hne
  refine AU.m1 (show Region.ready .any bB (lh [0,1,2,3,4,5,6,7,8,13,14])=[9] by kernel_rfl) ?_
  ·refine aV.c (o:=opAt bB 9) (d:=176) (by kernel_rfl) (by kernel_rfl) (by kernel_rfl) (bu (cl:=CB) (args:= #[.agg (aF q S1 S2),.int .i64 ((k:Nat):Int),.agg #[.string m,.string cS,.int .i64 0,.string cS]]) (by kernel_rfl) (by kernel_rfl) (by kernel_rfl) rfl) (by decide) (IH K N' W S1 S2 q (br m) H.h Dy hq yD hk hmo) ?_
   rintro _ W' ⟨U,rfl,H',hf⟩
   have X:=X.map fun b T cs _ hm=>hm.bY hf
   have hsz:=hf.size
   refine ⟨_,rfl,X.s,?_⟩
   refine AU.tk (o:=opAt bB 10) (d:=166) 10 (by kernel_rfl) (by kernel_rfl) (fun _ _ _ h=>hQ _ _ _ _ _ h) (by kernel_rfl) (by kernel_rfl) (fun W hW=>bf (x:= .tmp 176) (by kernel_rfl) rfl) (by decide) X.s ?_
   refine AU.tk (o:=opAt bB 11) (d:=177) 11 (by kernel_rfl) (by kernel_rfl) (fun _ _ _ h=>hQ _ _ _ _ _ h) (by kernel_rfl) (by kernel_rfl) (fun W hW=>cJ (x:= .tmp 166) (i:=0) (by kernel_rfl) rfl rfl) (by decide) X.s ?_
   refine AU.tk (o:=opAt bB 12) (d:=178) 12 (by kernel_rfl) (by kernel_rfl) (fun _ _ _ h=>hQ _ _ _ _ _ h) (by kernel_rfl) (by kernel_rfl) (fun W hW=>cJ (x:= .tmp 166) (i:=1) (by kernel_rfl) rfl rfl) (by decide) X.s ?_
   exact AU.re (by kernel_rfl) (show aW _ [(6,PH g6),(7,PH g7),(177,.agg (aF (aA k q (br m)).1 U S2)),(178,.agg (cK (aA k q (br m)).2)),(16,PH b16),(17,PH b17)] from ⟨rfl,rfl,rfl,rfl,rfl,rfl,trivial⟩) (pG _ _ _ _ _ ⟨H',H.hf.mQ hf,H.hn⟩ X (by omega) ⟨dJ.1.bY hf,dJ.2⟩ ⟨dQ.1.bY hf,dQ.2⟩ hne)
 have pF: ∀(N':Nat->Prop) (W:World) (b16:Nat),HS K N w S2 N' W S1 q->BX K N' W q x S1 S2 lo g3 g5 g6 g7 g15->lo<=W.heap.size->MB K N' W b16 37 aH/\lo<=b16->AU 235 Tryz.prog bB Q (sH q x S1 S2 g5 g15) 16 7 (lh [0,1,2,3,4,5,6,7,8,13]) [(6,PH g6),(7,PH g7),(167,.agg (aF q S1 S2)),(169,.int .i64 ((k:Nat):Int)),(175,.agg #[.string m,.string cS,.int .i64 0,.string cS]),(16,PH b16)] W:=by
  intro N' W b16 H X hlo dJ
  refine AU.m2 (show Region.ready .any bB (lh [0,1,2,3,4,5,6,7,8,13])=[9,14] by kernel_rfl) ?_ ?_
  ·refine aV.c (o:=opAt bB 9) (d:=176) (by kernel_rfl) (by kernel_rfl) (by kernel_rfl) (bu (cl:=CB) (args:= #[.agg (aF q S1 S2),.int .i64 ((k:Nat):Int),.agg #[.string m,.string cS,.int .i64 0,.string cS]]) (by kernel_rfl) (by kernel_rfl) (by kernel_rfl) rfl) (by decide) (IH K N' W S1 S2 q (br m) H.h Dy hq yD hk hmo) ?_
   rintro _ W' ⟨U,rfl,H',hf⟩
   have X:=X.map fun b T cs _ hm=>hm.bY hf
   have hsz:=hf.size
   refine ⟨_,rfl,X.s,?_⟩
   refine AU.tk (o:=opAt bB 10) (d:=166) 10 (by kernel_rfl) (by kernel_rfl) (fun _ _ _ h=>hQ _ _ _ _ _ h) (by kernel_rfl) (by kernel_rfl) (fun W hW=>bf (x:= .tmp 176) (by kernel_rfl) rfl) (by decide) X.s ?_
   refine AU.tk (o:=opAt bB 11) (d:=177) 11 (by kernel_rfl) (by kernel_rfl) (fun _ _ _ h=>hQ _ _ _ _ _ h) (by kernel_rfl) (by kernel_rfl) (fun W hW=>cJ (x:= .tmp 166) (i:=0) (by kernel_rfl) rfl rfl) (by decide) X.s ?_
   refine AU.tk (o:=opAt bB 12) (d:=178) 12 (by kernel_rfl) (by kernel_rfl) (fun _ _ _ h=>hQ _ _ _ _ _ h) (by kernel_rfl) (by kernel_rfl) (fun W hW=>cJ (x:= .tmp 166) (i:=1) (by kernel_rfl) rfl rfl) (by decide) X.s ?_
   exact AU.re (by kernel_rfl) (show aW _ [(6,PH g6),(7,PH g7),(177,.agg (aF (aA k q (br m)).1 U S2)),(178,.agg (cK (aA k q (br m)).2)),(16,PH b16)] from ⟨rfl,rfl,rfl,rfl,rfl,trivial⟩) (uh _ _ _ _ ⟨H',H.hf.mQ hf,H.hn⟩ X (by omega) ⟨dJ.1.bY hf,dJ.2⟩)
  ·obtain ⟨W',di,eW,hb,hN,H',M,hsz⟩:=H.h.alloc 39 aC
   have X':BX K di W' q x S1 S2 lo g3 g5 g6 g7 g15:=X.map fun b T cs _ hm=>(hm.below hb).more hN
   have HH:HS K N w S2 di W' _ _:=⟨H',H.hf.bT hb,fun i hi=>hN i (H.hn i hi)⟩
   refine aV.vv (o:=opAt bB 14) (d:=17) (w':=W') (by kernel_rfl) (by kernel_rfl) (by kernel_rfl) (by rw [eW];exact bp (z:= .agg aC) (by kernel_rfl) dr) (by decide) X'.s ?_
   exact AU.re (by kernel_rfl) (show aW _ [(6,PH g6),(7,PH g7),(167,.agg (aF q S1 S2)),(169,.int .i64 ((k:Nat):Int)),(175,.agg #[.string m,.string cS,.int .i64 0,.string cS]),(16,PH b16),(17,PH W.heap.size)] from ⟨rfl,rfl,rfl,rfl,rfl,rfl,rfl,trivial⟩) (ma _ _ _ _ HH  X'  (by omega)  ⟨(dJ.1.below hb).more hN,dJ.2⟩  ⟨M,hlo⟩  (by have:=dJ.1.lt;omega))
 have pE: ∀(N':Nat->Prop) (W:World) (b17:Nat),HS K N w S2 N' W S1 q->BX K N' W q x S1 S2 lo g3 g5 g6 g7 g15->lo<=W.heap.size->MB K N' W b17 39 aC/\lo<=b17->AU 235 Tryz.prog bB Q (sH q x S1 S2 g5 g15) 16 7 (lh [0,1,2,3,4,5,6,7,8,14]) [(6,PH g6),(7,PH g7),(167,.agg (aF q S1 S2)),(169,.int .i64 ((k:Nat):Int)),(175,.agg #[.string m,.string cS,.int .i64 0,.string cS]),(17,PH b17)] W:=by
  intro N' W b17 H X hlo dQ
  refine AU.m2 (show Region.ready .any bB (lh [0,1,2,3,4,5,6,7,8,14])=[9,13] by kernel_rfl) ?_ ?_
  ·refine aV.c (o:=opAt bB 9) (d:=176) (by kernel_rfl) (by kernel_rfl) (by kernel_rfl) (bu (cl:=CB) (args:= #[.agg (aF q S1 S2),.int .i64 ((k:Nat):Int),.agg #[.string m,.string cS,.int .i64 0,.string cS]]) (by kernel_rfl) (by kernel_rfl) (by kernel_rfl) rfl) (by decide) (IH K N' W S1 S2 q (br m) H.h Dy hq yD hk hmo) ?_
   rintro _ W' ⟨U,rfl,H',hf⟩
   have X:=X.map fun b T cs _ hm=>hm.bY hf
   have hsz:=hf.size
   refine ⟨_,rfl,X.s,?_⟩
   refine AU.tk (o:=opAt bB 10) (d:=166) 10 (by kernel_rfl) (by kernel_rfl) (fun _ _ _ h=>hQ _ _ _ _ _ h) (by kernel_rfl) (by kernel_rfl) (fun W hW=>bf (x:= .tmp 176) (by kernel_rfl) rfl) (by decide) X.s ?_
   refine AU.tk (o:=opAt bB 11) (d:=177) 11 (by kernel_rfl) (by kernel_rfl) (fun _ _ _ h=>hQ _ _ _ _ _ h) (by kernel_rfl) (by kernel_rfl) (fun W hW=>cJ (x:= .tmp 166) (i:=0) (by kernel_rfl) rfl rfl) (by decide) X.s ?_
   refine AU.tk (o:=opAt bB 12) (d:=178) 12 (by kernel_rfl) (by kernel_rfl) (fun _ _ _ h=>hQ _ _ _ _ _ h) (by kernel_rfl) (by kernel_rfl) (fun W hW=>cJ (x:= .tmp 166) (i:=1) (by kernel_rfl) rfl rfl) (by decide) X.s ?_
   exact AU.re (by kernel_rfl) (show aW _ [(6,PH g6),(7,PH g7),(177,.agg (aF (aA k q (br m)).1 U S2)),(178,.agg (cK (aA k q (br m)).2)),(17,PH b17)] from ⟨rfl,rfl,rfl,rfl,rfl,trivial⟩) (ug _ _ _ _ ⟨H',H.hf.mQ hf,H.hn⟩ X (by omega) ⟨dQ.1.bY hf,dQ.2⟩)
  ·obtain ⟨W',di,eW,hb,hN,H',M,hsz⟩:=H.h.alloc 37 aH
   have X':BX K di W' q x S1 S2 lo g3 g5 g6 g7 g15:=X.map fun b T cs _ hm=>(hm.below hb).more hN
   have HH:HS K N w S2 di W' _ _:=⟨H',H.hf.bT hb,fun i hi=>hN i (H.hn i hi)⟩
   refine aV.vv (o:=opAt bB 13) (d:=16) (w':=W') (by kernel_rfl) (by kernel_rfl) (by kernel_rfl) (by rw [eW];exact bp (z:= .agg aH) (by kernel_rfl) dH) (by decide) X'.s ?_
   exact AU.re (by kernel_rfl) (show aW _ [(6,PH g6),(7,PH g7),(167,.agg (aF q S1 S2)),(169,.int .i64 ((k:Nat):Int)),(175,.agg #[.string m,.string cS,.int .i64 0,.string cS]),(16,PH W.heap.size),(17,PH b17)] from ⟨rfl,rfl,rfl,rfl,rfl,rfl,rfl,trivial⟩) (ma _ _ _ _ HH  X'  (by omega)  ⟨M,hlo⟩  ⟨(dQ.1.below hb).more hN,dQ.2⟩  (by have:=dQ.1.lt;omega))
 have wG: ∀(N':Nat->Prop) (W:World),HS K N w S2 N' W S1 q->BX K N' W q x S1 S2 lo g3 g5 g6 g7 g15->lo<=W.heap.size->AU 235 Tryz.prog bB Q (sH q x S1 S2 g5 g15) 16 8 (lh [0,1,2,3,4,5,6,7,8]) [(6,PH g6),(7,PH g7),(167,.agg (aF q S1 S2)),(169,.int .i64 ((k:Nat):Int)),(175,.agg #[.string m,.string cS,.int .i64 0,.string cS])] W:=by
  intro N' W H X hlo
  refine AU.m3 (show Region.ready .any bB (lh [0,1,2,3,4,5,6,7,8])=[9,13,14] by kernel_rfl) ?_ ?_ ?_
  ·refine aV.c (o:=opAt bB 9) (d:=176) (by kernel_rfl) (by kernel_rfl) (by kernel_rfl) (bu (cl:=CB) (args:= #[.agg (aF q S1 S2),.int .i64 ((k:Nat):Int),.agg #[.string m,.string cS,.int .i64 0,.string cS]]) (by kernel_rfl) (by kernel_rfl) (by kernel_rfl) rfl) (by decide) (IH K N' W S1 S2 q (br m) H.h Dy hq yD hk hmo) ?_
   rintro _ W' ⟨U,rfl,H',hf⟩
   have X:=X.map fun b T cs _ hm=>hm.bY hf
   have hsz:=hf.size
   refine ⟨_,rfl,X.s,?_⟩
   refine AU.tk (o:=opAt bB 10) (d:=166) 10 (by kernel_rfl) (by kernel_rfl) (fun _ _ _ h=>hQ _ _ _ _ _ h) (by kernel_rfl) (by kernel_rfl) (fun W hW=>bf (x:= .tmp 176) (by kernel_rfl) rfl) (by decide) X.s ?_
   refine AU.tk (o:=opAt bB 11) (d:=177) 11 (by kernel_rfl) (by kernel_rfl) (fun _ _ _ h=>hQ _ _ _ _ _ h) (by kernel_rfl) (by kernel_rfl) (fun W hW=>cJ (x:= .tmp 166) (i:=0) (by kernel_rfl) rfl rfl) (by decide) X.s ?_
   refine AU.tk (o:=opAt bB 12) (d:=178) 12 (by kernel_rfl) (by kernel_rfl) (fun _ _ _ h=>hQ _ _ _ _ _ h) (by kernel_rfl) (by kernel_rfl) (fun W hW=>cJ (x:= .tmp 166) (i:=1) (by kernel_rfl) rfl rfl) (by decide) X.s ?_
   exact AU.re (by kernel_rfl) (show aW _ [(6,PH g6),(7,PH g7),(177,.agg (aF (aA k q (br m)).1 U S2)),(178,.agg (cK (aA k q (br m)).2))] from ⟨rfl,rfl,rfl,rfl,trivial⟩) (BF _ _ _ ⟨H',H.hf.mQ hf,H.hn⟩ X (by omega))
  ·obtain ⟨W',di,eW,hb,hN,H',M,hsz⟩:=H.h.alloc 37 aH
   have X':BX K di W' q x S1 S2 lo g3 g5 g6 g7 g15:=X.map fun b T cs _ hm=>(hm.below hb).more hN
   have HH:HS K N w S2 di W' _ _:=⟨H',H.hf.bT hb,fun i hi=>hN i (H.hn i hi)⟩
   refine aV.vv (o:=opAt bB 13) (d:=16) (w':=W') (by kernel_rfl) (by kernel_rfl) (by kernel_rfl) (by rw [eW];exact bp (z:= .agg aH) (by kernel_rfl) dH) (by decide) X'.s ?_
   exact AU.re (by kernel_rfl) (show aW _ [(6,PH g6),(7,PH g7),(167,.agg (aF q S1 S2)),(169,.int .i64 ((k:Nat):Int)),(175,.agg #[.string m,.string cS,.int .i64 0,.string cS]),(16,PH W.heap.size)] from ⟨rfl,rfl,rfl,rfl,rfl,rfl,trivial⟩) (pF _ _ _ HH  X'  (by omega)  ⟨M,hlo⟩)
  ·obtain ⟨W',di,eW,hb,hN,H',M,hsz⟩:=H.h.alloc 39 aC
   have X':BX K di W' q x S1 S2 lo g3 g5 g6 g7 g15:=X.map fun b T cs _ hm=>(hm.below hb).more hN
   have HH:HS K N w S2 di W' _ _:=⟨H',H.hf.bT hb,fun i hi=>hN i (H.hn i hi)⟩
   refine aV.vv (o:=opAt bB 14) (d:=17) (w':=W') (by kernel_rfl) (by kernel_rfl) (by kernel_rfl) (by rw [eW];exact bp (z:= .agg aC) (by kernel_rfl) dr) (by decide) X'.s ?_
   exact AU.re (by kernel_rfl) (show aW _ [(6,PH g6),(7,PH g7),(167,.agg (aF q S1 S2)),(169,.int .i64 ((k:Nat):Int)),(175,.agg #[.string m,.string cS,.int .i64 0,.string cS]),(17,PH W.heap.size)] from ⟨rfl,rfl,rfl,rfl,rfl,rfl,trivial⟩) (pE _ _ _ HH  X'  (by omega)  ⟨M,hlo⟩)
 have lZ: ∀(N':Nat->Prop) (W:World) (b3:Nat) (b16:Nat) (b17:Nat),HS K N w S2 N' W S1 q->BX K N' W q x S1 S2 lo g3 g5 g6 g7 g15->lo<=W.heap.size->(W.cell? ⟨b3,j,none⟩=some (.string m)/\ ¬K b3)->MB K N' W b16 37 aH/\lo<=b16->MB K N' W b17 39 aC/\lo<=b17->b16≠b17->AU 235 Tryz.prog bB Q (sH q x S1 S2 g5 g15) 16 8 (lh [0,1,2,3,4,5,6,13,14]) [(6,PH g6),(7,PH g7),(167,.agg (aF q S1 S2)),(169,.int .i64 ((k:Nat):Int)),(173,.pointer (some ⟨b3,j,none⟩)),(16,PH b16),(17,PH b17)] W:=by
  intro N' W b3 b16 b17 H X hlo h3 dJ dQ hne
  refine AU.m1 (show Region.ready .any bB (lh [0,1,2,3,4,5,6,13,14])=[7] by kernel_rfl) ?_
  ·refine aV.vv (o:=opAt bB 7) (d:=174) (by kernel_rfl) (by kernel_rfl) (by kernel_rfl) (cz (T:=9) (x:= .tmp 173) (by kernel_rfl) rfl Tryz.underlying9 rfl h3.1) (by decide) X.s ?_
   refine AU.tk (o:=opAt bB 8) (d:=175) 8 (by kernel_rfl) (by kernel_rfl) (fun _ _ _ h=>hQ _ _ _ _ _ h) (by kernel_rfl) (by kernel_rfl) (fun W hW=>jv (T:=43) (parts:= #[(0,.tmp 174)]) (vs:=[(0,.string m)]) (by kernel_rfl) rfl (uN _)) (by decide) X.s ?_
   exact AU.re (by kernel_rfl) (show aW _ [(6,PH g6),(7,PH g7),(167,.agg (aF q S1 S2)),(169,.int .i64 ((k:Nat):Int)),(175,.agg #[.string m,.string cS,.int .i64 0,.string cS]),(16,PH b16),(17,PH b17)] from ⟨rfl,rfl,rfl,rfl,rfl,rfl,rfl,trivial⟩) (ma _ _ _ _ H X hlo dJ dQ hne)
 have pu: ∀(N':Nat->Prop) (W:World) (b3:Nat) (b16:Nat),HS K N w S2 N' W S1 q->BX K N' W q x S1 S2 lo g3 g5 g6 g7 g15->lo<=W.heap.size->(W.cell? ⟨b3,j,none⟩=some (.string m)/\ ¬K b3)->MB K N' W b16 37 aH/\lo<=b16->AU 235 Tryz.prog bB Q (sH q x S1 S2 g5 g15) 16 9 (lh [0,1,2,3,4,5,6,13]) [(6,PH g6),(7,PH g7),(167,.agg (aF q S1 S2)),(169,.int .i64 ((k:Nat):Int)),(173,.pointer (some ⟨b3,j,none⟩)),(16,PH b16)] W:=by
  intro N' W b3 b16 H X hlo h3 dJ
  refine AU.m2 (show Region.ready .any bB (lh [0,1,2,3,4,5,6,13])=[7,14] by kernel_rfl) ?_ ?_
  ·refine aV.vv (o:=opAt bB 7) (d:=174) (by kernel_rfl) (by kernel_rfl) (by kernel_rfl) (cz (T:=9) (x:= .tmp 173) (by kernel_rfl) rfl Tryz.underlying9 rfl h3.1) (by decide) X.s ?_
   refine AU.tk (o:=opAt bB 8) (d:=175) 8 (by kernel_rfl) (by kernel_rfl) (fun _ _ _ h=>hQ _ _ _ _ _ h) (by kernel_rfl) (by kernel_rfl) (fun W hW=>jv (T:=43) (parts:= #[(0,.tmp 174)]) (vs:=[(0,.string m)]) (by kernel_rfl) rfl (uN _)) (by decide) X.s ?_
   exact AU.re (by kernel_rfl) (show aW _ [(6,PH g6),(7,PH g7),(167,.agg (aF q S1 S2)),(169,.int .i64 ((k:Nat):Int)),(175,.agg #[.string m,.string cS,.int .i64 0,.string cS]),(16,PH b16)] from ⟨rfl,rfl,rfl,rfl,rfl,rfl,trivial⟩) (pF _ _ _ H X hlo dJ)
  ·obtain ⟨W',di,eW,hb,hN,H',M,hsz⟩:=H.h.alloc 39 aC
   have X':BX K di W' q x S1 S2 lo g3 g5 g6 g7 g15:=X.map fun b T cs _ hm=>(hm.below hb).more hN
   have HH:HS K N w S2 di W' _ _:=⟨H',H.hf.bT hb,fun i hi=>hN i (H.hn i hi)⟩
   refine aV.vv (o:=opAt bB 14) (d:=17) (w':=W') (by kernel_rfl) (by kernel_rfl) (by kernel_rfl) (by rw [eW];exact bp (z:= .agg aC) (by kernel_rfl) dr) (by decide) X'.s ?_
   exact AU.re (by kernel_rfl) (show aW _ [(6,PH g6),(7,PH g7),(167,.agg (aF q S1 S2)),(169,.int .i64 ((k:Nat):Int)),(173,.pointer (some ⟨b3,j,none⟩)),(16,PH b16),(17,PH W.heap.size)] from ⟨rfl,rfl,rfl,rfl,rfl,rfl,rfl,trivial⟩) (lZ _ _ _ _ _ HH  X'  (by omega)  ⟨ay hb h3.1,h3.2⟩  ⟨(dJ.1.below hb).more hN,dJ.2⟩  ⟨M,hlo⟩  (by have:=dJ.1.lt;omega))
 have pq: ∀(N':Nat->Prop) (W:World) (b3:Nat) (b17:Nat),HS K N w S2 N' W S1 q->BX K N' W q x S1 S2 lo g3 g5 g6 g7 g15->lo<=W.heap.size->(W.cell? ⟨b3,j,none⟩=some (.string m)/\ ¬K b3)->MB K N' W b17 39 aC/\lo<=b17->AU 235 Tryz.prog bB Q (sH q x S1 S2 g5 g15) 16 9 (lh [0,1,2,3,4,5,6,14]) [(6,PH g6),(7,PH g7),(167,.agg (aF q S1 S2)),(169,.int .i64 ((k:Nat):Int)),(173,.pointer (some ⟨b3,j,none⟩)),(17,PH b17)] W:=by
  intro N' W b3 b17 H X hlo h3 dQ
  refine AU.m2 (show Region.ready .any bB (lh [0,1,2,3,4,5,6,14])=[7,13] by kernel_rfl) ?_ ?_
  ·refine aV.vv (o:=opAt bB 7) (d:=174) (by kernel_rfl) (by kernel_rfl) (by kernel_rfl) (cz (T:=9) (x:= .tmp 173) (by kernel_rfl) rfl Tryz.underlying9 rfl h3.1) (by decide) X.s ?_
   refine AU.tk (o:=opAt bB 8) (d:=175) 8 (by kernel_rfl) (by kernel_rfl) (fun _ _ _ h=>hQ _ _ _ _ _ h) (by kernel_rfl) (by kernel_rfl) (fun W hW=>jv (T:=43) (parts:= #[(0,.tmp 174)]) (vs:=[(0,.string m)]) (by kernel_rfl) rfl (uN _)) (by decide) X.s ?_
   exact AU.re (by kernel_rfl) (show aW _ [(6,PH g6),(7,PH g7),(167,.agg (aF q S1 S2)),(169,.int .i64 ((k:Nat):Int)),(175,.agg #[.string m,.string cS,.int .i64 0,.string cS]),(17,PH b17)] from ⟨rfl,rfl,rfl,rfl,rfl,rfl,trivial⟩) (pE _ _ _ H X hlo dQ)
  ·obtain ⟨W',di,eW,hb,hN,H',M,hsz⟩:=H.h.alloc 37 aH
   have X':BX K di W' q x S1 S2 lo g3 g5 g6 g7 g15:=X.map fun b T cs _ hm=>(hm.below hb).more hN
   have HH:HS K N w S2 di W' _ _:=⟨H',H.hf.bT hb,fun i hi=>hN i (H.hn i hi)⟩
   refine aV.vv (o:=opAt bB 13) (d:=16) (w':=W') (by kernel_rfl) (by kernel_rfl) (by kernel_rfl) (by rw [eW];exact bp (z:= .agg aH) (by kernel_rfl) dH) (by decide) X'.s ?_
   exact AU.re (by kernel_rfl) (show aW _ [(6,PH g6),(7,PH g7),(167,.agg (aF q S1 S2)),(169,.int .i64 ((k:Nat):Int)),(173,.pointer (some ⟨b3,j,none⟩)),(16,PH W.heap.size),(17,PH b17)] from ⟨rfl,rfl,rfl,rfl,rfl,rfl,rfl,trivial⟩) (lZ _ _ _ _ _ HH  X'  (by omega)  ⟨ay hb h3.1,h3.2⟩  ⟨M,hlo⟩  ⟨(dQ.1.below hb).more hN,dQ.2⟩  (by have:=dQ.1.lt;omega))
 have wF: ∀(N':Nat->Prop) (W:World) (b3:Nat),HS K N w S2 N' W S1 q->BX K N' W q x S1 S2 lo g3 g5 g6 g7 g15->lo<=W.heap.size->(W.cell? ⟨b3,j,none⟩=some (.string m)/\ ¬K b3)->AU 235 Tryz.prog bB Q (sH q x S1 S2 g5 g15) 16 10 (lh [0,1,2,3,4,5,6]) [(6,PH g6),(7,PH g7),(167,.agg (aF q S1 S2)),(169,.int .i64 ((k:Nat):Int)),(173,.pointer (some ⟨b3,j,none⟩))] W:=by
  intro N' W b3 H X hlo h3
  refine AU.m3 (show Region.ready .any bB (lh [0,1,2,3,4,5,6])=[7,13,14] by kernel_rfl) ?_ ?_ ?_
  ·refine aV.vv (o:=opAt bB 7) (d:=174) (by kernel_rfl) (by kernel_rfl) (by kernel_rfl) (cz (T:=9) (x:= .tmp 173) (by kernel_rfl) rfl Tryz.underlying9 rfl h3.1) (by decide) X.s ?_
   refine AU.tk (o:=opAt bB 8) (d:=175) 8 (by kernel_rfl) (by kernel_rfl) (fun _ _ _ h=>hQ _ _ _ _ _ h) (by kernel_rfl) (by kernel_rfl) (fun W hW=>jv (T:=43) (parts:= #[(0,.tmp 174)]) (vs:=[(0,.string m)]) (by kernel_rfl) rfl (uN _)) (by decide) X.s ?_
   exact AU.re (by kernel_rfl) (show aW _ [(6,PH g6),(7,PH g7),(167,.agg (aF q S1 S2)),(169,.int .i64 ((k:Nat):Int)),(175,.agg #[.string m,.string cS,.int .i64 0,.string cS])] from ⟨rfl,rfl,rfl,rfl,rfl,trivial⟩) (wG _ _ H X hlo)
  ·obtain ⟨W',di,eW,hb,hN,H',M,hsz⟩:=H.h.alloc 37 aH
   have X':BX K di W' q x S1 S2 lo g3 g5 g6 g7 g15:=X.map fun b T cs _ hm=>(hm.below hb).more hN
   have HH:HS K N w S2 di W' _ _:=⟨H',H.hf.bT hb,fun i hi=>hN i (H.hn i hi)⟩
   refine aV.vv (o:=opAt bB 13) (d:=16) (w':=W') (by kernel_rfl) (by kernel_rfl) (by kernel_rfl) (by rw [eW];exact bp (z:= .agg aH) (by kernel_rfl) dH) (by decide) X'.s ?_
   exact AU.re (by kernel_rfl) (show aW _ [(6,PH g6),(7,PH g7),(167,.agg (aF q S1 S2)),(169,.int .i64 ((k:Nat):Int)),(173,.pointer (some ⟨b3,j,none⟩)),(16,PH W.heap.size)] from ⟨rfl,rfl,rfl,rfl,rfl,rfl,trivial⟩) (pu _ _ _ _ HH  X'  (by omega)  ⟨ay hb h3.1,h3.2⟩  ⟨M,hlo⟩)
  ·obtain ⟨W',di,eW,hb,hN,H',M,hsz⟩:=H.h.alloc 39 aC
   have X':BX K di W' q x S1 S2 lo g3 g5 g6 g7 g15:=X.map fun b T cs _ hm=>(hm.below hb).more hN
   have HH:HS K N w S2 di W' _ _:=⟨H',H.hf.bT hb,fun i hi=>hN i (H.hn i hi)⟩
   refine aV.vv (o:=opAt bB 14) (d:=17) (w':=W') (by kernel_rfl) (by kernel_rfl) (by kernel_rfl) (by rw [eW];exact bp (z:= .agg aC) (by kernel_rfl) dr) (by decide) X'.s ?_
   exact AU.re (by kernel_rfl) (show aW _ [(6,PH g6),(7,PH g7),(167,.agg (aF q S1 S2)),(169,.int .i64 ((k:Nat):Int)),(173,.pointer (some ⟨b3,j,none⟩)),(17,PH W.heap.size)] from ⟨rfl,rfl,rfl,rfl,rfl,rfl,trivial⟩) (pq _ _ _ _ HH  X'  (by omega)  ⟨ay hb h3.1,h3.2⟩  ⟨M,hlo⟩)
 have pj: ∀(N':Nat->Prop) (W:World) (b16:Nat) (b17:Nat),HS K N w S2 N' W S1 q->BX K N' W q x S1 S2 lo g3 g5 g6 g7 g15->lo<=W.heap.size->MB K N' W b16 37 aH/\lo<=b16->MB K N' W b17 39 aC/\lo<=b17->b16≠b17->AU 235 Tryz.prog bB Q (sH q x S1 S2 g5 g15) 16 10 (lh [0,1,2,4,5,13,14]) [(6,PH g6),(7,PH g7),(167,.agg (aF q S1 S2)),(169,.int .i64 ((k:Nat):Int)),(172,.int .i64 x.val),(16,PH b16),(17,PH b17)] W:=by
  intro N' W b16 b17 H X hlo dJ dQ hne
  refine AU.m1 (show Region.ready .any bB (lh [0,1,2,4,5,13,14])=[3] by kernel_rfl) ?_
  ·have hb:=cU W #[.string cj,.string mStart] 9
   have hc3:(W.alloc (.cells #[.string cj,.string mStart] 9)).cell? ⟨W.heap.size,j,none⟩=some (.string m):=by rw [(ai.new W 9 #[.string cj,.string mStart]).cell];exact hj
   have vw: ¬K W.heap.size:=fun hk=>by have:=H.h.nb _ (H.h.kn _ hk);omega
   have hsz:(W.alloc (.cells #[.string cj,.string mStart] 9)).heap.size=W.heap.size+1:=by simp [World.size_alloc]
   have X:=X.map fun b T cs _ hm=>hm.below hb
   have HH:=H.below hb
   obtain ⟨ti,ht1,vH,vI⟩:=DT
   refine aV.vv (o:=opAt bB 3) (d:=170) (by kernel_rfl) (by kernel_rfl) (by kernel_rfl) (Eb (e:=9) (x:= .const (.string cj)) (y:= .const (.string mStart)) (s:=cj) (t:=mStart) (by kernel_rfl) rfl rfl Tryz.underlying114 ht1 vH vI) (by decide) X.s ?_
   refine AU.tk (o:=opAt bB 6) (d:=173) 6 (by kernel_rfl) (by kernel_rfl) (fun _ _ _ h=>hQ _ _ _ _ _ h) (by kernel_rfl) (by kernel_rfl) (fun W hW=>oA (T:=114) (x:= .tmp 170) (i:= .tmp 172) (by kernel_rfl) rfl (show ev _ _=some (.int .i64 x.val) from rfl) (by omega) (by omega) C4) (by decide) X.s ?_
   exact AU.re (by kernel_rfl) (show aW _ [(6,PH g6),(7,PH g7),(167,.agg (aF q S1 S2)),(169,.int .i64 ((k:Nat):Int)),(173,.pointer (some ⟨W.heap.size,j,none⟩)),(16,PH b16),(17,PH b17)] from by rw [mF];exact ⟨rfl,rfl,rfl,rfl,by simp [lk],rfl,rfl,trivial⟩) (lZ _ _ W.heap.size _ _ HH X (by omega) ⟨hc3,vw⟩ ⟨dJ.1.below hb,dJ.2⟩ ⟨dQ.1.below hb,dQ.2⟩ hne)
 have wE: ∀(N':Nat->Prop) (W:World) (b16:Nat),HS K N w S2 N' W S1 q->BX K N' W q x S1 S2 lo g3 g5 g6 g7 g15->lo<=W.heap.size->MB K N' W b16 37 aH/\lo<=b16->AU 235 Tryz.prog bB Q (sH q x S1 S2 g5 g15) 16 11 (lh [0,1,2,4,5,13]) [(6,PH g6),(7,PH g7),(167,.agg (aF q S1 S2)),(169,.int .i64 ((k:Nat):Int)),(172,.int .i64 x.val),(16,PH b16)] W:=by
  intro N' W b16 H X hlo dJ
  refine AU.m2 (show Region.ready .any bB (lh [0,1,2,4,5,13])=[3,14] by kernel_rfl) ?_ ?_
  ·have hb:=cU W #[.string cj,.string mStart] 9
   have hc3:(W.alloc (.cells #[.string cj,.string mStart] 9)).cell? ⟨W.heap.size,j,none⟩=some (.string m):=by rw [(ai.new W 9 #[.string cj,.string mStart]).cell];exact hj
   have vw: ¬K W.heap.size:=fun hk=>by have:=H.h.nb _ (H.h.kn _ hk);omega
   have hsz:(W.alloc (.cells #[.string cj,.string mStart] 9)).heap.size=W.heap.size+1:=by simp [World.size_alloc]
   have X:=X.map fun b T cs _ hm=>hm.below hb
   have HH:=H.below hb
   obtain ⟨ti,ht1,vH,vI⟩:=DT
   refine aV.vv (o:=opAt bB 3) (d:=170) (by kernel_rfl) (by kernel_rfl) (by kernel_rfl) (Eb (e:=9) (x:= .const (.string cj)) (y:= .const (.string mStart)) (s:=cj) (t:=mStart) (by kernel_rfl) rfl rfl Tryz.underlying114 ht1 vH vI) (by decide) X.s ?_
   refine AU.tk (o:=opAt bB 6) (d:=173) 6 (by kernel_rfl) (by kernel_rfl) (fun _ _ _ h=>hQ _ _ _ _ _ h) (by kernel_rfl) (by kernel_rfl) (fun W hW=>oA (T:=114) (x:= .tmp 170) (i:= .tmp 172) (by kernel_rfl) rfl (show ev _ _=some (.int .i64 x.val) from rfl) (by omega) (by omega) C4) (by decide) X.s ?_
   exact AU.re (by kernel_rfl) (show aW _ [(6,PH g6),(7,PH g7),(167,.agg (aF q S1 S2)),(169,.int .i64 ((k:Nat):Int)),(173,.pointer (some ⟨W.heap.size,j,none⟩)),(16,PH b16)] from by rw [mF];exact ⟨rfl,rfl,rfl,rfl,by simp [lk],rfl,trivial⟩) (pu _ _ W.heap.size _ HH X (by omega) ⟨hc3,vw⟩ ⟨dJ.1.below hb,dJ.2⟩)
  ·obtain ⟨W',di,eW,hb,hN,H',M,hsz⟩:=H.h.alloc 39 aC
   have X':BX K di W' q x S1 S2 lo g3 g5 g6 g7 g15:=X.map fun b T cs _ hm=>(hm.below hb).more hN
   have HH:HS K N w S2 di W' _ _:=⟨H',H.hf.bT hb,fun i hi=>hN i (H.hn i hi)⟩
   refine aV.vv (o:=opAt bB 14) (d:=17) (w':=W') (by kernel_rfl) (by kernel_rfl) (by kernel_rfl) (by rw [eW];exact bp (z:= .agg aC) (by kernel_rfl) dr) (by decide) X'.s ?_
   exact AU.re (by kernel_rfl) (show aW _ [(6,PH g6),(7,PH g7),(167,.agg (aF q S1 S2)),(169,.int .i64 ((k:Nat):Int)),(172,.int .i64 x.val),(16,PH b16),(17,PH W.heap.size)] from ⟨rfl,rfl,rfl,rfl,rfl,rfl,rfl,trivial⟩) (pj _ _ _ _ HH  X'  (by omega)  ⟨(dJ.1.below hb).more hN,dJ.2⟩  ⟨M,hlo⟩  (by have:=dJ.1.lt;omega))
 have wD: ∀(N':Nat->Prop) (W:World) (b17:Nat),HS K N w S2 N' W S1 q->BX K N' W q x S1 S2 lo g3 g5 g6 g7 g15->lo<=W.heap.size->MB K N' W b17 39 aC/\lo<=b17->AU 235 Tryz.prog bB Q (sH q x S1 S2 g5 g15) 16 11 (lh [0,1,2,4,5,14]) [(6,PH g6),(7,PH g7),(167,.agg (aF q S1 S2)),(169,.int .i64 ((k:Nat):Int)),(172,.int .i64 x.val),(17,PH b17)] W:=by
  intro N' W b17 H X hlo dQ
  refine AU.m2 (show Region.ready .any bB (lh [0,1,2,4,5,14])=[3,13] by kernel_rfl) ?_ ?_
  ·have hb:=cU W #[.string cj,.string mStart] 9
   have hc3:(W.alloc (.cells #[.string cj,.string mStart] 9)).cell? ⟨W.heap.size,j,none⟩=some (.string m):=by rw [(ai.new W 9 #[.string cj,.string mStart]).cell];exact hj
   have vw: ¬K W.heap.size:=fun hk=>by have:=H.h.nb _ (H.h.kn _ hk);omega
   have hsz:(W.alloc (.cells #[.string cj,.string mStart] 9)).heap.size=W.heap.size+1:=by simp [World.size_alloc]
   have X:=X.map fun b T cs _ hm=>hm.below hb
   have HH:=H.below hb
   obtain ⟨ti,ht1,vH,vI⟩:=DT
   refine aV.vv (o:=opAt bB 3) (d:=170) (by kernel_rfl) (by kernel_rfl) (by kernel_rfl) (Eb (e:=9) (x:= .const (.string cj)) (y:= .const (.string mStart)) (s:=cj) (t:=mStart) (by kernel_rfl) rfl rfl Tryz.underlying114 ht1 vH vI) (by decide) X.s ?_
   refine AU.tk (o:=opAt bB 6) (d:=173) 6 (by kernel_rfl) (by kernel_rfl) (fun _ _ _ h=>hQ _ _ _ _ _ h) (by kernel_rfl) (by kernel_rfl) (fun W hW=>oA (T:=114) (x:= .tmp 170) (i:= .tmp 172) (by kernel_rfl) rfl (show ev _ _=some (.int .i64 x.val) from rfl) (by omega) (by omega) C4) (by decide) X.s ?_
   exact AU.re (by kernel_rfl) (show aW _ [(6,PH g6),(7,PH g7),(167,.agg (aF q S1 S2)),(169,.int .i64 ((k:Nat):Int)),(173,.pointer (some ⟨W.heap.size,j,none⟩)),(17,PH b17)] from by rw [mF];exact ⟨rfl,rfl,rfl,rfl,by simp [lk],rfl,trivial⟩) (pq _ _ W.heap.size _ HH X (by omega) ⟨hc3,vw⟩ ⟨dQ.1.below hb,dQ.2⟩)
  ·obtain ⟨W',di,eW,hb,hN,H',M,hsz⟩:=H.h.alloc 37 aH
   have X':BX K di W' q x S1 S2 lo g3 g5 g6 g7 g15:=X.map fun b T cs _ hm=>(hm.below hb).more hN
   have HH:HS K N w S2 di W' _ _:=⟨H',H.hf.bT hb,fun i hi=>hN i (H.hn i hi)⟩
   refine aV.vv (o:=opAt bB 13) (d:=16) (w':=W') (by kernel_rfl) (by kernel_rfl) (by kernel_rfl) (by rw [eW];exact bp (z:= .agg aH) (by kernel_rfl) dH) (by decide) X'.s ?_
   exact AU.re (by kernel_rfl) (show aW _ [(6,PH g6),(7,PH g7),(167,.agg (aF q S1 S2)),(169,.int .i64 ((k:Nat):Int)),(172,.int .i64 x.val),(16,PH W.heap.size),(17,PH b17)] from ⟨rfl,rfl,rfl,rfl,rfl,rfl,rfl,trivial⟩) (pj _ _ _ _ HH  X'  (by omega)  ⟨M,hlo⟩  ⟨(dQ.1.below hb).more hN,dQ.2⟩  (by have:=dQ.1.lt;omega))
 have wC: ∀(N':Nat->Prop) (W:World),HS K N w S2 N' W S1 q->BX K N' W q x S1 S2 lo g3 g5 g6 g7 g15->lo<=W.heap.size->AU 235 Tryz.prog bB Q (sH q x S1 S2 g5 g15) 16 12 (lh [0,1,2,4,5]) [(6,PH g6),(7,PH g7),(167,.agg (aF q S1 S2)),(169,.int .i64 ((k:Nat):Int)),(172,.int .i64 x.val)] W:=by
  intro N' W H X hlo
  refine AU.m3 (show Region.ready .any bB (lh [0,1,2,4,5])=[3,13,14] by kernel_rfl) ?_ ?_ ?_
  ·have hb:=cU W #[.string cj,.string mStart] 9
   have hc3:(W.alloc (.cells #[.string cj,.string mStart] 9)).cell? ⟨W.heap.size,j,none⟩=some (.string m):=by rw [(ai.new W 9 #[.string cj,.string mStart]).cell];exact hj
   have vw: ¬K W.heap.size:=fun hk=>by have:=H.h.nb _ (H.h.kn _ hk);omega
   have hsz:(W.alloc (.cells #[.string cj,.string mStart] 9)).heap.size=W.heap.size+1:=by simp [World.size_alloc]
   have X:=X.map fun b T cs _ hm=>hm.below hb
   have HH:=H.below hb
   obtain ⟨ti,ht1,vH,vI⟩:=DT
   refine aV.vv (o:=opAt bB 3) (d:=170) (by kernel_rfl) (by kernel_rfl) (by kernel_rfl) (Eb (e:=9) (x:= .const (.string cj)) (y:= .const (.string mStart)) (s:=cj) (t:=mStart) (by kernel_rfl) rfl rfl Tryz.underlying114 ht1 vH vI) (by decide) X.s ?_
   refine AU.tk (o:=opAt bB 6) (d:=173) 6 (by kernel_rfl) (by kernel_rfl) (fun _ _ _ h=>hQ _ _ _ _ _ h) (by kernel_rfl) (by kernel_rfl) (fun W hW=>oA (T:=114) (x:= .tmp 170) (i:= .tmp 172) (by kernel_rfl) rfl (show ev _ _=some (.int .i64 x.val) from rfl) (by omega) (by omega) C4) (by decide) X.s ?_
   exact AU.re (by kernel_rfl) (show aW _ [(6,PH g6),(7,PH g7),(167,.agg (aF q S1 S2)),(169,.int .i64 ((k:Nat):Int)),(173,.pointer (some ⟨W.heap.size,j,none⟩))] from by rw [mF];exact ⟨rfl,rfl,rfl,rfl,by simp [lk],trivial⟩) (wF _ _ W.heap.size HH X (by omega) ⟨hc3,vw⟩)
  ·obtain ⟨W',di,eW,hb,hN,H',M,hsz⟩:=H.h.alloc 37 aH
   have X':BX K di W' q x S1 S2 lo g3 g5 g6 g7 g15:=X.map fun b T cs _ hm=>(hm.below hb).more hN
   have HH:HS K N w S2 di W' _ _:=⟨H',H.hf.bT hb,fun i hi=>hN i (H.hn i hi)⟩
   refine aV.vv (o:=opAt bB 13) (d:=16) (w':=W') (by kernel_rfl) (by kernel_rfl) (by kernel_rfl) (by rw [eW];exact bp (z:= .agg aH) (by kernel_rfl) dH) (by decide) X'.s ?_
   exact AU.re (by kernel_rfl) (show aW _ [(6,PH g6),(7,PH g7),(167,.agg (aF q S1 S2)),(169,.int .i64 ((k:Nat):Int)),(172,.int .i64 x.val),(16,PH W.heap.size)] from ⟨rfl,rfl,rfl,rfl,rfl,rfl,trivial⟩) (wE _ _ _ HH  X'  (by omega)  ⟨M,hlo⟩)
  ·obtain ⟨W',di,eW,hb,hN,H',M,hsz⟩:=H.h.alloc 39 aC
   have X':BX K di W' q x S1 S2 lo g3 g5 g6 g7 g15:=X.map fun b T cs _ hm=>(hm.below hb).more hN
   have HH:HS K N w S2 di W' _ _:=⟨H',H.hf.bT hb,fun i hi=>hN i (H.hn i hi)⟩
   refine aV.vv (o:=opAt bB 14) (d:=17) (w':=W') (by kernel_rfl) (by kernel_rfl) (by kernel_rfl) (by rw [eW];exact bp (z:= .agg aC) (by kernel_rfl) dr) (by decide) X'.s ?_
   exact AU.re (by kernel_rfl) (show aW _ [(6,PH g6),(7,PH g7),(167,.agg (aF q S1 S2)),(169,.int .i64 ((k:Nat):Int)),(172,.int .i64 x.val),(17,PH W.heap.size)] from ⟨rfl,rfl,rfl,rfl,rfl,rfl,trivial⟩) (wD _ _ _ HH  X'  (by omega)  ⟨M,hlo⟩)
 refine AU.tk (o:=opAt bB 0) (d:=167) 0 (by kernel_rfl) (by kernel_rfl) (fun _ _ _ h=>hQ _ _ _ _ _ h) (by kernel_rfl) (by kernel_rfl) (fun W hW=>bh (T:=37) (x:= .tmp 15) (by kernel_rfl) rfl Tryz.underlying37 rfl hW.1 aY) (by decide) X.s ?_
 refine AU.tk (o:=opAt bB 1) (d:=168) 1 (by kernel_rfl) (by kernel_rfl) (fun _ _ _ h=>hQ _ _ _ _ _ h) (by kernel_rfl) (by kernel_rfl) (fun W hW=>bf (x:= .tmp 1) (by kernel_rfl) rfl) (by decide) X.s ?_
 refine AU.tk (o:=opAt bB 2) (d:=169) 2 (by kernel_rfl) (by kernel_rfl) (fun _ _ _ h=>hQ _ _ _ _ _ h) (by kernel_rfl) (by kernel_rfl) (fun W hW=>iI (op:= .sub) (T:=3) (U:=3) (x:= .tmp 168) (y:= .const (.int .i64 1)) (by kernel_rfl) rfl rfl rfl hw) (by decide) X.s ?_
 refine AU.tk (o:=opAt bB 4) (d:=171) 4 (by kernel_rfl) (by kernel_rfl) (fun _ _ _ h=>hQ _ _ _ _ _ h) (by kernel_rfl) (by kernel_rfl) (fun W hW=>cY (x:= .tmp 5) (by kernel_rfl) rfl Db) (by decide) X.s ?_
 refine AU.tk (o:=opAt bB 5) (d:=172) 5 (by kernel_rfl) (by kernel_rfl) (fun _ _ _ h=>hQ _ _ _ _ _ h) (by kernel_rfl) (by kernel_rfl) (fun W hW=>cz (T:=3) (x:= .tmp 171) (by kernel_rfl) rfl Tryz.underlying3 rfl ((hW.2.cell 2).trans rfl)) (by decide) X.s ?_
 exact AU.re (by kernel_rfl) (show aW _ [(6,PH g6),(7,PH g7),(167,.agg (aF q S1 S2)),(169,.int .i64 ((k:Nat):Int)),(172,.int .i64 x.val)] from ⟨rfl,rfl,rfl,rfl,rfl,trivial⟩) (wC _ _ H X hlo)
end
end Go.Proofs.YtimickglpboilaaGreatDoor
