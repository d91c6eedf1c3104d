/- What the walk of the reference's l4Do needs: a struct within a struct. -/
import Derived.Test.YtimickglpboilaaGreatDoorG18
import Derived.Test.YtimickglpboilaaGreatDoorG11
import Derived.Test.YtimickglpboilaaGreatDoorG17
import Derived.Test.YtimickglpboilaaGreatDoorG14
import Derived.Deep.Upon
set_option linter.unusedVariables false
set_option linter.unusedSimpArgs false
set_option linter.unusedSectionVars false
set_option maxRecDepth 100000
namespace Go.Proofs.YtimickglpboilaaGreatDoor
section
open Go.RowKit Go
variable [GC]
section
variable {n:Nat}{P:Program}{ops:Array Oper}{Q:Exit->Act->World->Prop}{E:List (Nat×Value)}{w:World}{o:Oper}{rest:List Oper}
theorem Po{T:TypeId}{ds:TypeDesc}{x:Operand}{b:Nat}{t:TypeId}{C:Array Value}{cs:List Value}(ho:o.op= .load T x)(hx:ev E x=some (.pointer (some ⟨b,0,none⟩)))(hT:P.underlying T=some ds)(hd:(match ds with| .struct _| .array _ _=>true|_=>false)=true)
  (hb:aJ w b t C) (hi:(P.info? T).map (·.size)=some cs.length) (hc: ∀j,j<cs.length->C[j]? =cs[j]?):fk n P E o w (.agg cs.toArray) w:=fun a hE=>by
 have hl:(loadCells ⟨b,0,none⟩ cs.length).run P w= .ok cs.toArray w :=
  run_loadCells_list (P:=P) w ⟨b,0,none⟩ cs (fun j v hv=>by
   have hj:=(List.getElem?_eq_some_iff.1 hv).1
   rw [Addr.add_lit,Nat.zero_add,hb.cell,hc j hj];exact hv)
 have h1:(loadVar T ⟨b,0,none⟩).run P w= .ok (.agg cs.toArray) w:=by
  cases hq:P.info? T with
  | none=>simp [hq] at hi
  | some i =>
   have hs:i.size=cs.length:=by simpa [hq] using hi
   have hagg:(isAgg T).run P w= .ok true w:=by
    unfold isAgg
    rw [Sem.run_bind,run_underlying hT]
    cases ds<;>simp_all
   simp [loadVar,Sem.run_bind,hagg,sizeOf,typeInfo,hq,hs,hl]
 simp [execOp,ho,hE.ev hx,Instr.loadAt,Instr.sureAddr,h1]
theorem ab4{T:TypeId}{x y:Operand}{b:Nat}{t:TypeId}{C cs:Array Value}(ho:o.op= .store T x y)(hx:ev E x=some (.pointer (some ⟨b,0,none⟩)))(hy:ev E y=some (.agg cs))(hsz:(P.info? T).map (·.size)=some cs.size)(hone: ∀u∈cs.toList,u.oneCell'=true)(hC:cs.size<=C.size)(hb:aJ w b t C) :
  ∃w',zF n P E o w w'/\aJ w' b t (fH C (0+0) cs.toList)/\gx w w' b:=by
 simp only [Option.map_eq_some_iff] at hsz
 obtain ⟨i,hi,hs⟩:=hsz
 obtain ⟨w',h1,h2,h3⟩:=zi (P:=P) b t cs.toList w C 0 0 hb hone (by simp;omega)
 refine ⟨w',fun a hE=> ?_,h2,h3⟩
 have h4:(storeVar T ⟨b,0,none⟩ (.agg cs)).run P w= .ok () w':=by
  simp only [storeVar,Value.cells,Sem.run_bind,run_sizeOf hi,Result.andThen_ok,hs]
  simp [h1]
 simp [execOp,ho,hE.ev hx,hE.ev hy,Instr.storeAt,Instr.sureAddr,h4]
theorem WL.stQ{T:TypeId}{x y:Operand}{b:Nat}{t:TypeId}{C cs:Array Value}(hg:o.guard=none)(hd:o.dst=none)(ho:o.op= .store T x y)(hx:ev E x=some (.pointer (some ⟨b,0,none⟩)))(hy:ev E y=some (.agg cs))(hb:aJ w b t C)(hC:cs.size<=C.size)(hone: ∀u∈cs.toList,u.oneCell'=true)(hsz:(P.info? T).map (·.size)=some cs.size)
  (h: ∀w',aJ w' b t (fH C (0+0) cs.toList)->gx w w' b->WL n P ops Q rest E w'):WL n P ops Q (o::rest) E w:=by
 obtain ⟨w',h1,h2,h3⟩:=ab4 (n:=n) (P:=P) (E:=E) ho hx hy hsz hone hC hb
 exact WL.s hg hd h1 (h w' h2 h3)
end
def Jk:Array Value:= #[.string ⟨#[]⟩,.bool false,.bool false,.slice none 0 0,.int .i64 0]
theorem Zx:(Tryz.prog.info? 34).bind (·.zero)=some (.agg Jk):=by kernel_rfl
theorem Bg:(Tryz.prog.info? 34).map (·.size)=some 5:=by kernel_rfl
theorem Wt(p:Core){a1:Option Addr}{n1 c1:Nat}: ∀u∈(#[.string p.kind,.bool p.on,.bool p.broken,.slice a1 n1 c1,.int .i64 p.count]:Array Value).toList,u.oneCell'=true:=by
 intro u hu
 simp at hu
 rcases hu with rfl|rfl|rfl|rfl|rfl<;>rfl
theorem PV.OU{K N:Nat->Prop}{w:World}{S1 S2:Value}{p:Part}(h:PV K N w S1 S2 p): ∀u∈(#[.string p.core.kind,.bool p.core.on,.bool p.core.broken,S1,.int .i64 p.core.count]:Array Value).toList,u.oneCell'=true:=by
 obtain ⟨a,n,c,rfl⟩:=h.len
 exact Wt _
theorem PV.back{K N:Nat->Prop}{w w':World}{S1 S2 U:Value}{p:Part}(h:PV K N w S1 S2 p)(hf:dY K w w')(h':PV K N w' U S2 p):PV K N w' S1 S2 p :=
 {h' with cs:=R.keep (fun q v hc hn=>⟨by
  have hlt:q.block<w.heap.size:=by
   rcases Nat.lt_or_ge q.block w.heap.size with h|h
   ·exact h
   ·unfold World.cell? at hc;rw [Array.getElem?_eq_none h] at hc;cases hc
  rw [cell_of_heap (hf.block _ hlt fun hk=>hn (h.kn _ hk))];exact hc,hn⟩) _ _ h.cs}
theorem wU.mk{K N N':Nat->Prop}{w w':World}{S1 S2:Value}{y:Part×da}{q:Part}{r:da}{e:Ending}(he:e= .returned (.tuple #[.agg (aE q S1 S2),.agg (dV r)]))(hy:y=(q,r))(H:PV K N' w' S1 S2 q)(hN: ∀b,N b->N' b)(hK: ∀b,K b->N b)(hF:dY K w w'):wU K N w S2 y e w':=by
 subst hy
 exact ⟨S1,he,H.less hN hK,hF⟩
end
section
open Go.RowKit Go
variable [GC]
theorem Xs:kO Tryz.prog 34 3=some 3:=by kernel_rfl
def qQ(p:Core)(S1:Value):Array Value:= #[.string p.kind,.bool p.on,.bool p.broken,S1,.int .i64 p.count]
theorem aba(p:Core)(S1:Value)(k:Nat)(w:World)(M:Addr->Prop)(hr:R w M (aN p.cells) S1)(hfr: ∀q,w.frozen? q=true->M q)(hG:Rd w)(hM: ∀q,¬M q->NG<=q.block)(hk:k+2*p.cells.length<=1152921504606846970) :
  Calls Tryz.prog 44 #[.agg (qQ p S1),.int .i64 (k:Int)] w fun e w'=>e= .returned (.int .i64 ((k+2*p.cells.length:Nat):Int))/\Alt (fun q=> ¬M q) w w'/\R w' M (.sl (iY k p.cells p.cells.length)) S1:=by
 refine qc (E:=[(0,.agg (qQ p S1)),(1,.int .i64 (k:Int))]) Tryz.func44 rfl Tryz.ntmps44 (by simp) (by simp) ?_
 refine CW.seq (CW.region ?_)
 refine WL.vv rfl rfl (jH rfl rfl) (by decide) ?_
 have hb:=tr w (qQ p S1) 34
 have hR:=aJ.new w 34 (qQ p S1)
 have hsz:(w.alloc (.cells (qQ p S1) 34)).heap.size=w.heap.size+1:=by simp [World.size_alloc]
 change WL _ _ _ _ _ _ (w.alloc (.cells (qQ p S1) 34))
 generalize w.alloc (.cells (qQ p S1) 34)=w1 at hb hR hsz ⊢
 refine WL.vv rfl rfl (cq rfl rfl) (by decide) ?_
 refine WL.nil (NX.next ?_)
 refine CW.seq (CW.region ?_)
 refine WL.vv rfl rfl (cO rfl rfl Xs) (by decide) ?_
 refine WL.vv rfl rfl (cr rfl rfl Tryz.underlying32 rfl (v:=S1) ((hR.cell 3).trans rfl)) (by decide) ?_
 refine WL.vv rfl rfl (aU rfl rfl) (by decide) ?_
 have hr1:R w1 (fun q=>M q\/w.heap.size<=q.block) (aN p.cells) S1:=R.keep (bb.below hb fun q hq hn=>hn.elim id fun h=>by omega) _ _ hr
 refine WL.c rfl rfl (bT (args:= #[S1,.int .i64 (k:Int)]) (by kernel_rfl) rfl rfl rfl) (by decide) (aa9 p.cells k w1 _ S1 hr1 (fun q hq=>by
   rcases Nat.lt_or_ge q.block w.heap.size with h|h
   ·exact .inl (hfr q (by rw [<-xS (hb.block _ h)];exact hq))
   ·exact .inr h) (hG.below hb) (fun q hq=>hM q fun h=>hq (.inl h)) hk) ?_
 rintro _ w2 ⟨rfl,ha,hr2⟩
 refine ⟨_,rfl,?_⟩
 refine WL.vv rfl rfl (cq rfl rfl) (by decide) ?_
 refine WL.nil (NX.next ?_)
 refine CW.seq (CW.region ?_)
 refine WL.vv rfl rfl (aU rfl rfl) (by decide) ?_
 refine WL.vv rfl rfl (cq rfl rfl) (by decide) ?_
 refine WL.nil (NX.next (CW.ret ?_))
 exact NX.zO rfl rfl ⟨rfl,(Alt.below hb).trans (ha.mono fun q _ hq h=>hq (.inl h)),R.less hr2 fun q h=> .inl h⟩
theorem Oy(p:Part)(S1 S2:Value)(k:Nat)(w:World)(M1 M2:Addr->Prop)(hr1:R w M1 (aN p.core.cells) S1)(hr2:R w M2 (aN p.af) S2)(hf1: ∀q,w.frozen? q=true->M1 q)(hf2: ∀q,w.frozen? q=true->M2 q)(hG:Rd w)(Mj: ∀q,¬M1 q->NG<=q.block)(XP: ∀q,¬M2 q->NG<=q.block)
  (hap: ∀q,M1 q\/M2 q) (hl1: ∀q,w.heap.size<=q.block->M1 q) (fD: ∀q,w.heap.size<=q.block->M2 q) (hk:k+2*p.core.cells.length+2*p.af.length<=1152921504606846970) :
  Calls Tryz.prog 13 #[.agg (aE p S1 S2),.int .i64 (k:Int)] w fun e w'=>e= .returned (.int .i64 ((k+2*p.core.cells.length+2*p.af.length:Nat):Int))/\Alt (fun q=> ¬M1 q\/ ¬M2 q) w w' /\
   R w' M1 (.sl (iY k p.core.cells p.core.cells.length)) S1/\R w' M2 (.sl (jF (k+2*p.core.cells.length) p.af p.af.length)) S2:=by
 refine qc (E:=[(0,.agg (aE p S1 S2)),(1,.int .i64 (k:Int))]) Tryz.func13 rfl Tryz.ntmps13 (by simp) (by simp) ?_
 refine CW.seq (CW.region ?_)
 refine WL.vv rfl rfl (jH rfl rfl) (by decide) ?_
 have hb:=tr w (aE p S1 S2) 37
 have hR:=aJ.new w 37 (aE p S1 S2)
 have hsz:(w.alloc (.cells (aE p S1 S2) 37)).heap.size=w.heap.size+1:=by simp [World.size_alloc]
 change WL _ _ _ _ _ _ (w.alloc (.cells (aE p S1 S2) 37))
 generalize w.alloc (.cells (aE p S1 S2) 37)=w1 at hb hR hsz ⊢
 have g1:R w1 M1 (aN p.core.cells) S1:=R.keep (bb.below hb fun _ _ h=>h) _ _ hr1
 have g2:R w1 M2 (aN p.af) S2:=R.keep (bb.below hb fun _ _ h=>h) _ _ hr2
 have fr: ∀M:Addr->Prop,(∀q,w.frozen? q=true->M q)->(∀q,w.heap.size<=q.block->M q)-> ∀q,w1.frozen? q=true->M q:=fun M h hl q hq=>by
  rcases Nat.lt_or_ge q.block w.heap.size with hlt|hge
  ·exact h q (by rw [<-xS (hb.block _ hlt)];exact hq)
  ·exact hl q hge
 refine WL.vv rfl rfl (cq rfl rfl) (by decide) ?_
 refine WL.nil (NX.next ?_)
 refine CW.seq (CW.region ?_)
 refine WL.vv rfl rfl (cO rfl rfl CZ) (by decide) ?_
 refine WL.vv rfl rfl (Po (cs:=(qQ p.core S1).toList) rfl rfl Tryz.underlying34 rfl hR Bg (fun j hj=>by match j,hj with|0,_=>rfl|1,_=>rfl|2,_=>rfl|3,_=>rfl|4,_=>rfl)) (by decide) ?_
 refine WL.vv rfl rfl (aU rfl rfl) (by decide) ?_
 refine WL.c rfl rfl (bT (args:= #[.agg (qQ p.core S1),.int .i64 (k:Int)]) (by kernel_rfl) rfl rfl rfl) (by decide) (aba p.core S1 k w1 M1 g1 (fr M1 hf1 hl1) (hG.below hb) Mj (by omega)) ?_
 rintro _ w2 ⟨rfl,ha,m1⟩
 refine ⟨_,rfl,?_⟩
 have XR:aJ w2 w.heap.size 37 (aE p S1 S2):=(ha.blk w.heap.size (by omega) fun q hq hn=>hn (hl1 q (by omega))).trans hR
 have g3:R w2 M2 (aN p.af) S2:=R.keep (ha.keeps (fun q hq=>(hap q).elim (fun h=>absurd h hq) id) fun _ _ h=>h) _ _ g2
 have hG2:=(hG.below hb).alt ha Mj
 have Xu: ∀q,w2.frozen? q=true->M2 q:=fun q hq=>by
  rcases Nat.lt_or_ge q.block w1.heap.size with hlt|hge
  ·exact fr M2 hf2 fD q (by rw [<-ha.xR q hlt];exact hq)
  ·exact fD q (by omega)
 refine WL.vv rfl rfl (cq rfl rfl) (by decide) ?_
 refine WL.nil (NX.next ?_)
 refine CW.seq (CW.region ?_)
 refine WL.vv rfl rfl (cO rfl rfl oZ) (by decide) ?_
 refine WL.vv rfl rfl (cr rfl rfl Tryz.underlying35 rfl (v:=S2) ((XR.cell 5).trans rfl)) (by decide) ?_
 refine WL.vv rfl rfl (aU rfl rfl) (by decide) ?_
 refine WL.c rfl rfl (bT (args:= #[S2,.int .i64 ((k+2*p.core.cells.length:Nat):Int)]) (by kernel_rfl) rfl rfl rfl) (by decide) (abb p.af (k+2*p.core.cells.length) w2 M2 S2 g3 Xu hG2 XP (by omega)) ?_
 rintro _ w3 ⟨rfl,Mu,m2⟩
 refine ⟨_,rfl,?_⟩
 refine WL.vv rfl rfl (cq rfl rfl) (by decide) ?_
 refine WL.nil (NX.next ?_)
 refine CW.seq (CW.region ?_)
 refine WL.vv rfl rfl (aU rfl rfl) (by decide) ?_
 refine WL.vv rfl rfl (cq rfl rfl) (by decide) ?_
 refine WL.nil (NX.next (CW.ret ?_))
 refine NX.zO rfl rfl ⟨rfl,((Alt.below hb).trans (ha.mono fun q _ hq=> .inl hq)).trans (Mu.mono fun q _ hq=> .inr hq),?_,m2⟩
 exact R.keep (Mu.keeps (fun q hq=>(hap q).elim id fun h=>absurd h hq) fun _ _ h=>h) _ _ m1
noncomputable def yY(p:Part)(k:Nat):D:= .agg [.str p.core.kind,.bool p.core.on,.bool p.core.broken,.sl (iY k p.core.cells p.core.cells.length),.int .i64 p.core.count,.sl (jF (k+2*p.core.cells.length) p.af p.af.length)]
noncomputable def Hv(p:Core)(k:Nat):D:= .agg [.str p.kind,.bool p.on,.bool p.broken,.sl (iY k p.cells p.cells.length),.int .i64 p.count]
theorem PO(k:Nat)(l:List Cell):cV ay.tab (ay.tab 118) (iY k l l.length):=by
 rw [IV]
 refine cV.of fun r hr=> ?_
 obtain ⟨a,ha,rfl⟩:=nV hr
 rw [if_pos ha];exact ⟨trivial,rfl,trivial⟩
theorem acA(k:Nat)(l:List fV):cV ay.tab (ay.tab 86) (jF k l l.length):=by
 rw [IW]
 refine cV.of fun r hr=> ?_
 obtain ⟨a,ha,rfl⟩:=nV hr
 rw [if_pos ha];exact ⟨trivial,rfl,trivial⟩
theorem Va(p:Core)(k:Nat)(hk:k+2*p.cells.length<=1152921504606846970):aD Tryz.prog 46 none [Hv p k,.int .i64 k] (.int .i64 ((k+2*p.cells.length:Nat):Int)) []:=by
 refine aD.bK ahF afb rfl ?_ (fun hfit=> ?_)
 ·exact ⟨⟨trivial,trivial,trivial,PO k p.cells,rfl,trivial⟩,rfl,trivial⟩
 unfold RG
 (refine bu ?_ (U9 p.cells k hk) (rfl) ?_;(focus (simp only [VC.den,E.den,aa,aK,and_true,Hv];try exact rfl));(simp only [cA]))
 refine aG (fun h=>aF ?_) (fun h=>aF ?_)
 ·simp only [E.den,aa,ai,aj] at h
  have h:((k+2*p.cells.length:Nat):Int)<0:=by simpa using h
  omega
 ·simp only [E.den,aa,ai,aj]
theorem Vc(p:Part)(k:Nat)(hk:k+2*p.core.cells.length+2*p.af.length<=1152921504606846970):aD Tryz.prog 14 none [yY p k,.int .i64 k] (.int .i64 ((k+2*p.core.cells.length+2*p.af.length:Nat):Int)) []:=by
 refine aD.bK ahH aff rfl ?_ (fun hfit=> ?_)
 ·exact ⟨⟨trivial,trivial,trivial,PO k p.core.cells,rfl,acA _ p.af,trivial⟩,rfl,trivial⟩
 unfold RI
 (refine bu ?_ (Va p.core k (by omega)) (rfl) ?_;(focus (simp only [VC.den,E.den,aa,aK,and_true,yY,Hv,List.take,List.drop];try exact rfl));(simp only [cA]))
 refine aG (fun h=> ?_) (fun h=> ?_)
 ·simp only [E.den,aa,ai,aj] at h
  have h:((k+2*p.core.cells.length:Nat):Int)<0:=by simpa using h
  omega
 (refine bu ?_ (Vb p.af (k+2*p.core.cells.length) (by omega)) (rfl) ?_;(focus (simp only [VC.den,E.den,aa,aK,and_true,yY];try exact rfl));(simp only [cA]))
 refine aG (fun h=>aF ?_) (fun h=>aF ?_)
 ·simp only [E.den,aa,ai,aj] at h
  have h:((k+2*p.core.cells.length+2*p.af.length:Nat):Int)<0:=by simpa using h
  omega
 ·simp only [E.den,aa,ai,aj]
structure OP(lo hi:Nat)(w:World)(S1 S2:Value)(p:Part):Prop where
 r1: ∃g,cu (fun b=>lo<=b/\b<hi) w g S1 (cS p.core.cells)
 r2: ∃g,cu (fun b=>lo<=b/\b<hi) w g S2 (fR p.af)
 ap: ∀b,bi S1 b-> ¬bi S2 b
 ks:p.core.kind.size<=maxLen
 ct:IntKind.i64.min<=p.core.count/\p.core.count<=IntKind.i64.max
 le:hi<=w.heap.size
section
variable {lo hi:Nat}{w w':World}{S1 S2:Value}{p:Part}
theorem OP.keep(h:OP lo hi w S1 S2 p)(hw: ∀b,lo<=b->b<hi->w'.heap[b]? =w.heap[b]?)(hs:w.heap.size<=w'.heap.size):OP lo hi w' S1 S2 p:=by
 obtain ⟨g1,q1⟩:=h.r1
 obtain ⟨g2,q2⟩:=h.r2
 exact ⟨⟨g1,q1.keep (fun b ho=>hw b (q1.out ho).1.1 (q1.out ho).1.2) fun _ h=>h⟩,⟨g2,q2.keep (fun b ho=>hw b (q2.out ho).1.1 (q2.out ho).1.2) fun _ h=>h⟩,h.ap,h.ks,h.ct,Nat.le_trans h.le hs⟩
theorem OP.below(h:OP lo hi w S1 S2 p)(hb:Below w.heap.size w w'):OP lo hi w' S1 S2 p:=h.keep (fun b _ hl=>hb.block b (Nat.lt_of_lt_of_le hl h.le)) hb.size
theorem OP.alt{A:Addr->Prop}(h:OP lo hi w S1 S2 p)(ha:Alt A w w')(hA: ∀q,A q-> ¬(lo<=q.block/\q.block<hi)):OP lo hi w' S1 S2 p :=
 h.keep (fun b h1 h2=>ha.blk b (Nat.lt_of_lt_of_le h2 h.le) fun q hq hq2=>hA q hq2 (by rw [hq];exact ⟨h1,h2⟩)) ha.size
theorem OP.cells(h:OP lo hi w S1 S2 p){M:Addr->Prop}(hM: ∀q,M q-> ¬bi S1 q.block):R w M (aN p.core.cells) S1:=by
 obtain ⟨g1,q1⟩:=h.r1
 show R w M (.sl (p.core.cells.map aZ.cells)) S1
 rw [<-wo]
 refine q1.rd fun b o cap i e _ hi hq=>hM _ hq ?_
 obtain ⟨a',cap',e',z1,_⟩:=q1
 rw [e] at e'
 simp only [Value.slice.injEq] at e'
 exact ⟨o,none,_,cap,e,by have:=e'.2.2;omega⟩
theorem OP.lays(h:OP lo hi w S1 S2 p){M:Addr->Prop}(hM: ∀q,M q-> ¬bi S2 q.block):R w M (aN p.af) S2:=by
 obtain ⟨g1,q1⟩:=h.r2
 show R w M (.sl (p.af.map aZ.cells)) S2
 rw [<-Bz]
 refine q1.rd fun b o cap i e _ hi hq=>hM _ hq ?_
 obtain ⟨a',cap',e',z1,_⟩:=q1
 rw [e] at e'
 simp only [Value.slice.injEq] at e'
 exact ⟨o,none,_,cap,e,by have:=e'.2.2;omega⟩
theorem OP.data(h:OP lo hi w S1 S2 p):R w (fun _=>False) (enc p) (.agg (aE p S1 S2)) :=
 ⟨_,rfl,⟨_,_,rfl,⟨rfl,h.ks⟩,_,_,rfl,rfl,_,_,rfl,rfl,_,_,rfl,h.cells fun _ h=>h.elim,_,_,rfl,⟨rfl,h.ct⟩,_,_,rfl,h.lays fun _ h=>h.elim,rfl⟩⟩
theorem cu.free{K:Nat->Prop}{g:Nat}{S:Value}{l:List (ByteArray×Int)}(h:cu K w g S l){q:Addr}(hq:bi S q.block):w.frozen? q=false:=by
 obtain ⟨a,cap,rfl,h1,h2,h3,h4,h5⟩:=h
 obtain ⟨o,s,len,cap',e,hc⟩:=hq
 simp only [Value.slice.injEq] at e
 obtain ⟨rfl,rfl,rfl⟩:=e
 obtain ⟨q1,q2,q3,cells,T,q4,q5⟩:=h5 _ o s rfl hc
 unfold World.frozen?;rw [q4];simp
theorem OP.mark(h:OP lo hi w S1 S2 p)(k:Nat)(hG:Rd w)(hlo:NG<=lo)(hk:k+2*p.core.cells.length+2*p.af.length<=1152921504606846970) :
  Calls Tryz.prog 13 #[.agg (aE p S1 S2),.int .i64 (k:Int)] w fun e w'=>e= .returned (.int .i64 ((k+2*p.core.cells.length+2*p.af.length:Nat):Int))/\Alt (fun q=>lo<=q.block/\q.block<hi) w w'/\R w' (fun _=>False) (yY p k) (.agg (aE p S1 S2)):=by
 obtain ⟨g1,q1⟩:=h.r1
 obtain ⟨g2,q2⟩:=h.r2
 have hle:=h.le
 refine (Oy p S1 S2 k w (fun q=> ¬bi S1 q.block) (fun q=> ¬bi S2 q.block) (h.cells fun _ h=>h) (h.lays fun _ h=>h) (fun q hf ho=>by rw [q1.free ho] at hf;cases hf) (fun q hf ho=>by rw [q2.free ho] at hf;cases hf) hG
  (fun q hq=>by have:=(q1.out (Classical.not_not.1 hq)).1.1;omega) (fun q hq=>by have:=(q2.out (Classical.not_not.1 hq)).1.1;omega) (fun q=>by
   by_cases ho:bi S1 q.block
   ·exact .inr (h.ap _ ho)
   ·exact .inl ho) (fun q hq ho=>by have:=(q1.out ho).1.2;omega) (fun q hq ho=>by have:=(q2.out ho).1.2;omega) hk).mono ?_
 rintro e w' ⟨rfl,ha,m1,m2⟩
 refine ⟨rfl,ha.mono fun q _ hq=> ?_,⟨_,rfl,⟨_,_,rfl,⟨rfl,h.ks⟩,_,_,rfl,rfl,_,_,rfl,rfl,_,_,rfl,R.less m1 fun _ h=>h.elim,_,_,rfl,⟨rfl,h.ct⟩,_,_,rfl,R.less m2 fun _ h=>h.elim,rfl⟩⟩⟩
 rcases hq with hq|hq
 ·exact (q1.out (Classical.not_not.1 hq)).1
 ·exact (q2.out (Classical.not_not.1 hq)).1
end
end
section
open Go.RowKit Go
variable [GC]
structure OS(lo hi:Nat)(w:World)(S:Value)(rows:List (List D)):Prop where
  rd:R w (fun q=> ¬bi S q.block) (.sl rows) S
  bl: ∀b,bi S b->lo<=b/\b<hi/\ ∀q:Addr,q.block=b->w.frozen? q=false
  le:hi<=w.heap.size
theorem OS.of{B n:Nat}{W:World}{M:Addr->Prop}{S:Value}{rows:List (List D)}(hn: ∀r∈rows,r.length=n)(hlf: ∀r∈rows,∀d∈r,pG d=true)(hr:R W M (.sl rows) S)(hl:qI B W S n):OS B W.heap.size W S rows:=by
  have hr0:=hr
  obtain ⟨a,len,cap,rfl,h1,h2,h3,h4,h5⟩:=hr
  refine ⟨?_,fun b ⟨o,s,len',cap',e,hc⟩=> ?_,Nat.le_refl _⟩
  · rcases a with _|⟨b,o,s⟩
    · have:rows=[]:=List.eq_nil_of_length_eq_zero (by have:=h4 rfl;omega)
      subst this
      exact ⟨none,_,cap,rfl,h1,h2,h3,h4,fun b o s e=>by cases e⟩
    · refine FV hn h1 h2 h3 (fun hl0=>(h5 b o s rfl).1 hl0) fun i j r d hi hj=> ?_
      obtain ⟨u,c1,_,c2⟩:=oY hn hr0 hi hj
      have GM:=List.mem_of_getElem? hi
      have Ye:=List.mem_of_getElem? hj
      refine ⟨u,c1,fun h=>h ⟨o,s,len,cap,rfl,?_⟩,Oa (hlf r GM d Ye) c2⟩
      have:=(List.getElem?_eq_some_iff.1 hi).1
      omega
  · obtain ⟨q1,q2,cells,T,q3,q4⟩:=hl b o s len' cap' e hc
    refine ⟨q2,(Array.getElem?_eq_some_iff.1 q3).1,fun q hq=> ?_⟩
    unfold World.frozen?;rw [hq,q3];simp
section
variable {lo hi:Nat}{w w':World}{S:Value}{rows:List (List D)}
theorem OS.keep(h:OS lo hi w S rows)(hw: ∀b,lo<=b->b<hi->w'.heap[b]? =w.heap[b]?)(hs:w.heap.size<=w'.heap.size):OS lo hi w' S rows :=
  ⟨R.keep (fun p v hc hn=>⟨by
      have hb:=h.bl _ (Classical.not_not.1 hn)
      rw [cell_of_heap (hw _ hb.1 hb.2.1)];exact hc,hn⟩) _ _ h.rd,
   fun b hb=>⟨(h.bl b hb).1,(h.bl b hb).2.1,fun q hq=>by
      exact (show w'.frozen? q=w.frozen? q from xS (by rw [hq];exact hw b (h.bl b hb).1 (h.bl b hb).2.1)).trans ((h.bl b hb).2.2 q hq)⟩,Nat.le_trans h.le hs⟩
theorem OS.below(h:OS lo hi w S rows)(hb:Below w.heap.size w w'):OS lo hi w' S rows:=h.keep (fun b _ hl=>hb.block b (Nat.lt_of_lt_of_le hl h.le)) hb.size
theorem OS.alt{A:Addr->Prop}(h:OS lo hi w S rows)(ha:Alt A w w')(hA: ∀q,A q-> ¬(lo<=q.block/\q.block<hi)):OS lo hi w' S rows :=
  h.keep (fun b h1 h2=>ha.blk b (Nat.lt_of_lt_of_le h2 h.le) fun q hq hq2=>hA q hq2 (by rw [hq];exact ⟨h1,h2⟩)) ha.size
end
end
section
open Go.RowKit Go
variable [GC]
end
section
open Go.RowKit Go
variable [GC]
set_option maxHeartbeats 4000000 in
theorem WT:wW 0:=by
 intro K N w S1 S2 p x h hx hp hc hk ho
 have hK:=h.kn
 have HF:=dY.refl K w
 have HN: ∀i,N i->N i:=fun i hi=>hi
 have H:=h
 refine qc (E:=[(0,.agg (aE p S1 S2)),(1,.int .i64 ((0:Nat):Int)),(2,dL x)]) Tryz.func32 rfl Tryz.ntmps32 (by simp) (by simp) ?_
 clear h
 refine CW.seq (CW.region ?_)
 refine WL.vv rfl rfl (jH rfl rfl) (by decide) ?_
 obtain ⟨w1,JD,tD,iW,Ai,H',aw,Qr⟩:=H.alloc 37 (aE p S1 S2)
 change WL _ _ _ _ _ _ (w.alloc (.cells (aE p S1 S2) 37))
 rw [<-tD]
 clear tD
 replace H:=H'
 clear H'
 replace HF:=HF.bQ iW
 replace HN:=fun i hi=>Ai i (HN i hi)
 have Hf:=iW.size
 refine WL.vv rfl rfl (jH rfl rfl) (by decide) ?_
 have Oh:=aw.lt
 obtain ⟨w2,JE,tE,pu,tL,H',az,Qs⟩:=H.alloc 43 #[.string x.method,.string x.key,.int .i64 x.val,.string x.text]
 change WL _ _ _ _ _ _ (w1.alloc (.cells #[.string x.method,.string x.key,.int .i64 x.val,.string x.text] 43))
 rw [<-tE]
 clear tE
 replace H:=H'
 clear H'
 replace HF:=HF.bQ pu
 replace aw:=(aw.below pu).more tL
 replace HN:=fun i hi=>tL i (HN i hi)
 have DJ:=pu.size
 refine WL.vv rfl rfl (cJ rfl gJ) (by decide) ?_
 have Oi:=aw.lt
 have Ol:=az.lt
 obtain ⟨w3,JG,tF,mK,pg,H',ak,Qt⟩:=H.alloc 37 bF
 change WL _ _ _ _ _ _ (w2.alloc (.cells bF 37))
 rw [<-tF]
 clear tF
 replace H:=H'
 clear H'
 replace HF:=HF.bQ mK
 replace aw:=(aw.below mK).more pg
 replace az:=(az.below mK).more pg
 replace HN:=fun i hi=>pg i (HN i hi)
 have DK:=mK.size
 refine WL.vv rfl rfl (cJ rfl gK) (by decide) ?_
 have Om:=aw.lt
 have Oo:=az.lt
 have Oq:=ak.lt
 obtain ⟨w4,uD,tG,fO,mC,H',aq,Qu⟩:=H.alloc 39 aY
 change WL _ _ _ _ _ _ (w3.alloc (.cells aY 39))
 rw [<-tG]
 clear tG
 replace H:=H'
 clear H'
 replace HF:=HF.bQ fO
 replace aw:=(aw.below fO).more mC
 replace az:=(az.below fO).more mC
 replace ak:=(ak.below fO).more mC
 replace HN:=fun i hi=>mC i (HN i hi)
 have Hk:=fO.size
 refine WL.nil (NX.next ?_)
 refine CW.sub (E':=[(1,.int .i64 (((0:Nat):Int):Int)),(3,.pointer (some ⟨w.heap.size,0,none⟩)),(5,.pointer (some ⟨w1.heap.size,0,none⟩)),(6,.pointer (some ⟨w2.heap.size,0,none⟩)),(7,.pointer (some ⟨w3.heap.size,0,none⟩))]) ⟨rfl,rfl,rfl,rfl,rfl,trivial⟩ ?_
 refine CW.seq (CW.seq (CW.region ?_))
 refine WL.vv rfl rfl (aU rfl rfl) (by decide) ?_
 refine WL.vv rfl rfl (gr (b:=true) rfl rfl rfl rfl rfl) (by decide) ?_
 refine WL.nil (NX.next (CW.yes rfl ?_))
 refine CW.sub (E':=[(3,.pointer (some ⟨w.heap.size,0,none⟩)),(5,.pointer (some ⟨w1.heap.size,0,none⟩)),(6,.pointer (some ⟨w2.heap.size,0,none⟩)),(7,.pointer (some ⟨w3.heap.size,0,none⟩))]) ⟨rfl,rfl,rfl,rfl,trivial⟩ ?_
 refine CW.seq (CW.region ?_)
 refine WL.vv rfl rfl (cO rfl rfl CZ) (by decide) ?_
 refine WL.vv rfl rfl (Po (cs:=[.string p.core.kind,.bool p.core.on,.bool p.core.broken,S1,.int .i64 p.core.count]) rfl rfl Tryz.underlying34 rfl aw.bl Bg (fun j hj=>by match j,hj with|0,_=>rfl|1,_=>rfl|2,_=>rfl|3,_=>rfl|4,_=>rfl)) (by decide) ?_
 refine WL.vv rfl rfl (bz rfl rfl Tryz.underlying43 rfl az.bl kA) (by decide) ?_
 refine WL.c rfl rfl (bT (args:= #[.agg #[.string p.core.kind,.bool p.core.on,.bool p.core.broken,S1,.int .i64 p.core.count],.agg #[.string x.method,.string x.key,.int .i64 x.val,.string x.text]]) (by kernel_rfl) rfl rfl rfl) (by decide) (ai2 H x hx hp hc ho) ?_
 rintro _ w5 ⟨U,rfl,H',hbc⟩
 refine ⟨_,rfl,?_⟩
 clear H
 have H:=H'
 clear H'
 replace HF:=HF.bQ hbc
 replace aw:=aw.below hbc
 replace az:=az.below hbc
 replace ak:=ak.below hbc
 replace aq:=aq.below hbc
 have akq:=hbc.size
 refine WL.vv rfl rfl (aU rfl rfl) (by decide) ?_
 refine WL.vv rfl rfl (dQ rfl rfl rfl) (by decide) ?_
 refine WL.vv rfl rfl (dQ rfl rfl rfl) (by decide) ?_
 refine WL.vv rfl rfl (cJ rfl Zx) (by decide) ?_
 have aaQ:=aw.lt
 have aaR:=az.lt
 have aaS:=ak.lt
 have aaT:=aq.lt
 obtain ⟨w6,TA,Ab,nL,pj,H',dZ,adQ⟩:=H.alloc 34 Jk
 change WL _ _ _ _ _ _ (w5.alloc (.cells Jk 34))
 rw [<-Ab]
 clear Ab
 replace H:=H'
 clear H'
 replace HF:=HF.bQ nL
 replace aw:=(aw.below nL).more pj
 replace az:=(az.below nL).more pj
 replace ak:=(ak.below nL).more pj
 replace aq:=(aq.below nL).more pj
 replace HN:=fun i hi=>pj i (HN i hi)
 have Hl:=nL.size
 refine WL.vv rfl rfl (cJ rfl gK) (by decide) ?_
 have aaU:=aw.lt
 have aaV:=az.lt
 have aaW:=ak.lt
 have aaX:=aq.lt
 have aaY:=dZ.lt
 obtain ⟨w7,JH,Ac,gB,nE,H',eJ,adR⟩:=H.alloc 39 aY
 change WL _ _ _ _ _ _ (w6.alloc (.cells aY 39))
 rw [<-Ac]
 clear Ac
 replace H:=H'
 clear H'
 replace HF:=HF.bQ gB
 replace aw:=(aw.below gB).more nE
 replace az:=(az.below gB).more nE
 replace ak:=(ak.below gB).more nE
 replace aq:=(aq.below gB).more nE
 replace dZ:=(dZ.below gB).more nE
 replace HN:=fun i hi=>nE i (HN i hi)
 have Hm:=gB.size
 refine WL.st rfl rfl rfl rfl rfl dZ.bl rfl H.OU Bg fun wa zG gN=> ?_
 replace H:=H.one gN dZ.n dZ.k dZ.g
 replace HF:=HF.one gN (.inr (by omega))
 replace aw:=aw.other gN (by omega)
 replace az:=az.other gN (by omega)
 replace ak:=ak.other gN (by omega)
 replace aq:=aq.other gN (by omega)
 replace eJ:=eJ.other gN (by omega)
 replace dZ:=dZ.put zG
 have N8:=Nat.le_of_eq gN.size.symm
 refine WL.st rfl rfl rfl rfl rfl eJ.bl rfl (cX _) bn fun wb zH gO=> ?_
 replace H:=H.one gO eJ.n eJ.k eJ.g
 replace HF:=HF.one gO (.inr (by omega))
 replace aw:=aw.other gO (by omega)
 replace az:=az.other gO (by omega)
 replace ak:=ak.other gO (by omega)
 replace aq:=aq.other gO (by omega)
 replace dZ:=dZ.other gO (by omega)
 replace eJ:=eJ.put zH
 have N9:=Nat.le_of_eq gO.size.symm
 refine WL.nil (NX.next ?_)
 refine CW.sub (E':=[(3,.pointer (some ⟨w.heap.size,0,none⟩)),(6,.pointer (some ⟨w2.heap.size,0,none⟩)),(7,.pointer (some ⟨w3.heap.size,0,none⟩)),(8,.pointer (some ⟨w5.heap.size,0,none⟩)),(9,.pointer (some ⟨w6.heap.size,0,none⟩))]) ⟨rfl,rfl,rfl,rfl,rfl,trivial⟩ ?_
 refine CW.seq (CW.region ?_)
 refine WL.vv rfl rfl (bz rfl rfl Tryz.underlying34 rfl dZ.bl Bg) (by decide) ?_
 refine WL.vv rfl rfl (cO rfl rfl CZ) (by decide) ?_
 refine WL.stQ rfl rfl rfl rfl rfl aw.bl (show 5<=6 by decide) H.OU Bg fun we EN tj=> ?_
 replace EN:aJ we (w.heap.size) 37 (aE (⟨(bJ p.core x).1,p.af⟩:Part) U S2):=EN
 replace H:=H.one tj aw.n aw.k aw.g
 replace HF:=HF.one tj (.inr (by omega))
 replace az:=az.other tj (by omega)
 replace ak:=ak.other tj (by omega)
 replace aq:=aq.other tj (by omega)
 replace dZ:=dZ.other tj (by omega)
 replace eJ:=eJ.other tj (by omega)
 replace aw:=aw.put EN
 have als:=Nat.le_of_eq tj.size.symm
 refine WL.nil (NX.next ?_)
 refine CW.sub (E':=[(3,.pointer (some ⟨w.heap.size,0,none⟩)),(6,.pointer (some ⟨w2.heap.size,0,none⟩)),(7,.pointer (some ⟨w3.heap.size,0,none⟩)),(9,.pointer (some ⟨w6.heap.size,0,none⟩))]) ⟨rfl,rfl,rfl,rfl,trivial⟩ ?_
 refine CW.seq (CW.any (fun W=>aJ W w.heap.size 37 (aE (⟨(bJ p.core x).1,p.af⟩:Part) U S2)/\aJ W w6.heap.size 39 (dV (bJ p.core x).2)) 3 mo fun w8 hwd iO=> ?_)
 replace H:=H.below iO
 replace HF:=HF.bQ iO
 replace aw:=aw.below iO
 replace az:=az.below iO
 replace ak:=ak.below iO
 replace aq:=aq.below iO
 replace dZ:=dZ.below iO
 replace eJ:=eJ.below iO
 have aap:=iO.size
 clear hwd
 refine ⟨⟨aw.bl,eJ.bl⟩,?_⟩
 refine AU.tk 0 rfl (by kernel_rfl) (fun _ _ _ h=>h) rfl rfl (fun W hW=>bz rfl rfl Tryz.underlying37 rfl hW.1 aW) (by decide) ⟨aw.bl,eJ.bl⟩ ?_
 refine AU.tk 1 rfl (by kernel_rfl) (fun _ _ _ h=>h) rfl rfl (fun W hW=>bz rfl rfl Tryz.underlying39 rfl hW.2 bn) (by decide) ⟨aw.bl,eJ.bl⟩ ?_
 refine AU.st 2 rfl (by kernel_rfl) rfl rfl rfl rfl rfl ak.bl rfl H.gq aW (fun w' ho _=>⟨(ho.block _ (by omega)).trans aw.bl,(ho.block _ (by omega)).trans eJ.bl⟩) fun w9 EM j9=> ?_
 replace H:=H.one j9 ak.n ak.k ak.g
 replace HF:=HF.one j9 (.inr (by omega))
 replace aw:=aw.other j9 (by omega)
 replace az:=az.other j9 (by omega)
 replace aq:=aq.other j9 (by omega)
 replace dZ:=dZ.other j9 (by omega)
 replace eJ:=eJ.other j9 (by omega)
 replace ak:=ak.put EM
 have Ho:=Nat.le_of_eq j9.size.symm
 refine AU.st 3 rfl (by kernel_rfl) rfl rfl rfl rfl rfl aq.bl rfl (cX _) bn (fun _ _ h=>absurd rfl h) fun fJ EJ j7=> ?_
 replace H:=H.one j7 aq.n aq.k aq.g
 replace HF:=HF.one j7 (.inr (by omega))
 replace aw:=aw.other j7 (by omega)
 replace az:=az.other j7 (by omega)
 replace ak:=ak.other j7 (by omega)
 replace dZ:=dZ.other j7 (by omega)
 replace eJ:=eJ.other j7 (by omega)
 replace aq:=aq.put EJ
 have Hg:=Nat.le_of_eq j7.size.symm
 refine AU.done (by kernel_rfl) (NX.next (CW.ret ?_))
 exact NX.ret (NX.oU rfl rfl rfl ak.bl aq.bl Tryz.underlying37 Tryz.underlying39 rfl rfl aW bn (wU.mk (q:=(⟨(bJ p.core x).1,p.af⟩:Part)) rfl (rfl) H HN hK HF))
set_option maxHeartbeats 4000000 in
theorem WR{k:Nat}(OW:JJ k)(IH:wW k):wW (k+1):=by
 intro K N w S1 S2 p x h hx hp hc hk ho
 obtain ⟨b,o,cap,rfl⟩:=h.slot (k:=k) (by omega)
 have MV:=(nS.1 hp).2.1
 have hw:cv .sub .i64 ((k+1:Nat):Int) 1=(k:Int):=by rw [jO (by omega) (by omega)];omega
 have hK:=h.kn
 have HF:=dY.refl K w
 have HN: ∀i,N i->N i:=fun i hi=>hi
 have H:=h
 refine qc (E:=[(0,.agg (aE p S1 (.slice (some ⟨b,o,none⟩) p.af.length cap))),(1,.int .i64 ((k+1:Nat):Int)),(2,dL x)]) Tryz.func32 rfl Tryz.ntmps32 (by simp) (by simp) ?_
 clear h
 refine CW.seq (CW.region ?_)
 refine WL.vv rfl rfl (jH rfl rfl) (by decide) ?_
 obtain ⟨w1,JD,tD,iW,Ai,H',aw,Qr⟩:=H.alloc 37 (aE p S1 (.slice (some ⟨b,o,none⟩) p.af.length cap))
 change WL _ _ _ _ _ _ (w.alloc (.cells (aE p S1 (.slice (some ⟨b,o,none⟩) p.af.length cap)) 37))
 rw [<-tD]
 clear tD
 replace H:=H'
 clear H'
 replace HF:=HF.bQ iW
 replace HN:=fun i hi=>Ai i (HN i hi)
 have Hf:=iW.size
 refine WL.vv rfl rfl (jH rfl rfl) (by decide) ?_
 have Oh:=aw.lt
 obtain ⟨w2,JE,tE,pu,tL,H',az,Qs⟩:=H.alloc 43 #[.string x.method,.string x.key,.int .i64 x.val,.string x.text]
 change WL _ _ _ _ _ _ (w1.alloc (.cells #[.string x.method,.string x.key,.int .i64 x.val,.string x.text] 43))
 rw [<-tE]
 clear tE
 replace H:=H'
 clear H'
 replace HF:=HF.bQ pu
 replace aw:=(aw.below pu).more tL
 replace HN:=fun i hi=>tL i (HN i hi)
 have DJ:=pu.size
 refine WL.vv rfl rfl (cJ rfl gJ) (by decide) ?_
 have Oi:=aw.lt
 have Ol:=az.lt
 obtain ⟨w3,JG,tF,mK,pg,H',ak,Qt⟩:=H.alloc 37 bF
 change WL _ _ _ _ _ _ (w2.alloc (.cells bF 37))
 rw [<-tF]
 clear tF
 replace H:=H'
 clear H'
 replace HF:=HF.bQ mK
 replace aw:=(aw.below mK).more pg
 replace az:=(az.below mK).more pg
 replace HN:=fun i hi=>pg i (HN i hi)
 have DK:=mK.size
 refine WL.vv rfl rfl (cJ rfl gK) (by decide) ?_
 have Om:=aw.lt
 have Oo:=az.lt
 have Oq:=ak.lt
 obtain ⟨w4,uD,tG,fO,mC,H',aq,Qu⟩:=H.alloc 39 aY
 change WL _ _ _ _ _ _ (w3.alloc (.cells aY 39))
 rw [<-tG]
 clear tG
 replace H:=H'
 clear H'
 replace HF:=HF.bQ fO
 replace aw:=(aw.below fO).more mC
 replace az:=(az.below fO).more mC
 replace ak:=(ak.below fO).more mC
 replace HN:=fun i hi=>mC i (HN i hi)
 have Hk:=fO.size
 refine WL.nil (NX.next ?_)
 refine CW.sub (E':=[(1,.int .i64 (((k+1:Nat):Int):Int)),(3,.pointer (some ⟨w.heap.size,0,none⟩)),(5,.pointer (some ⟨w1.heap.size,0,none⟩)),(6,.pointer (some ⟨w2.heap.size,0,none⟩)),(7,.pointer (some ⟨w3.heap.size,0,none⟩))]) ⟨rfl,rfl,rfl,rfl,rfl,trivial⟩ ?_
 refine CW.seq (CW.seq (CW.region ?_))
 refine WL.vv rfl rfl (aU rfl rfl) (by decide) ?_
 refine WL.vv rfl rfl (gr (b:=false) rfl rfl rfl rfl (by simp [aS];omega)) (by decide) ?_
 refine WL.nil (NX.next (CW.no rfl (CW.skip (NX.next ?_))))
 refine CW.sub (E':=[(1,.int .i64 (((k+1:Nat):Int):Int)),(3,.pointer (some ⟨w.heap.size,0,none⟩)),(5,.pointer (some ⟨w1.heap.size,0,none⟩)),(6,.pointer (some ⟨w2.heap.size,0,none⟩)),(7,.pointer (some ⟨w3.heap.size,0,none⟩))]) ⟨rfl,rfl,rfl,rfl,rfl,trivial⟩ ?_
 refine CW.seq (CW.region ?_)
 refine WL.vv rfl rfl (bz rfl rfl Tryz.underlying37 rfl aw.bl aW) (by decide) ?_
 refine WL.vv rfl rfl (aU rfl rfl) (by decide) ?_
 refine WL.vv rfl rfl (bz rfl rfl Tryz.underlying43 rfl az.bl kA) (by decide) ?_
 refine WL.c rfl rfl (bT (args:= #[.agg (aE p S1 (.slice (some ⟨b,o,none⟩) p.af.length cap)),.int .i64 ((k+1:Nat):Int),.agg #[.string x.method,.string x.key,.int .i64 x.val,.string x.text]]) (by kernel_rfl) rfl rfl rfl) (by decide) (OW K uD _ _ _ p x H hx hp hc hk ho) ?_
 rintro _ w5 ⟨U,q,r,own,rfl,H',hfc,ht,hf⟩
 refine ⟨_,rfl,?_⟩
 replace HF:=HF.mY hfc
 replace aw:=aw.bV hfc
 replace az:=az.bV hfc
 replace ak:=ak.bV hfc
 replace aq:=aq.bV hfc
 have akM:=hfc.size
 cases own
 case false =>
  obtain ⟨hq,he,lT⟩:=hf rfl
  subst hq
  have hone:=H'.gq
  replace H:=H.back hfc H'
  clear H'
  refine WL.vv rfl rfl (aU rfl rfl) (by decide) ?_
  refine WL.vv rfl rfl (dQ rfl rfl rfl) (by decide) ?_
  refine WL.vv rfl rfl (dQ rfl rfl rfl) (by decide) ?_
  refine WL.vv rfl rfl (dQ rfl rfl rfl) (by decide) ?_
  refine WL.vv rfl rfl (cJ rfl gJ) (by decide) ?_
  have aaQ:=aw.lt
  have aaR:=az.lt
  have aaS:=ak.lt
  have aaT:=aq.lt
  obtain ⟨w6,TA,Ab,nL,pj,H',dZ,adQ⟩:=H.alloc 37 bF
  change WL _ _ _ _ _ _ (w5.alloc (.cells bF 37))
  rw [<-Ab]
  clear Ab
  replace H:=H'
  clear H'
  replace HF:=HF.bQ nL
  replace aw:=(aw.below nL).more pj
  replace az:=(az.below nL).more pj
  replace ak:=(ak.below nL).more pj
  replace aq:=(aq.below nL).more pj
  replace HN:=fun i hi=>pj i (HN i hi)
  have Hl:=nL.size
  refine WL.vv rfl rfl (cJ rfl gK) (by decide) ?_
  have aaU:=aw.lt
  have aaV:=az.lt
  have aaW:=ak.lt
  have aaX:=aq.lt
  have aaY:=dZ.lt
  obtain ⟨w7,JH,Ac,gB,nE,H',eJ,adR⟩:=H.alloc 39 aY
  change WL _ _ _ _ _ _ (w6.alloc (.cells aY 39))
  rw [<-Ac]
  clear Ac
  replace H:=H'
  clear H'
  replace HF:=HF.bQ gB
  replace aw:=(aw.below gB).more nE
  replace az:=(az.below gB).more nE
  replace ak:=(ak.below gB).more nE
  replace aq:=(aq.below gB).more nE
  replace dZ:=(dZ.below gB).more nE
  replace HN:=fun i hi=>nE i (HN i hi)
  have Hm:=gB.size
  refine WL.st rfl rfl rfl rfl rfl dZ.bl rfl hone aW fun wa zG gN=> ?_
  replace H:=H.one gN dZ.n dZ.k dZ.g
  replace HF:=HF.one gN (.inr (by omega))
  replace aw:=aw.other gN (by omega)
  replace az:=az.other gN (by omega)
  replace ak:=ak.other gN (by omega)
  replace aq:=aq.other gN (by omega)
  replace eJ:=eJ.other gN (by omega)
  replace dZ:=dZ.put zG
  have N8:=Nat.le_of_eq gN.size.symm
  refine WL.st rfl rfl rfl rfl rfl eJ.bl rfl (cX _) bn fun wb zH gO=> ?_
  replace H:=H.one gO eJ.n eJ.k eJ.g
  replace HF:=HF.one gO (.inr (by omega))
  replace aw:=aw.other gO (by omega)
  replace az:=az.other gO (by omega)
  replace ak:=ak.other gO (by omega)
  replace aq:=aq.other gO (by omega)
  replace dZ:=dZ.other gO (by omega)
  replace eJ:=eJ.put zH
  have N9:=Nat.le_of_eq gO.size.symm
  refine WL.vv rfl rfl (cq rfl rfl) (by decide) ?_
  refine WL.nil (NX.next ?_)
  refine CW.sub (E':=[(1,.int .i64 (((k+1:Nat):Int):Int)),(3,.pointer (some ⟨w.heap.size,0,none⟩)),(5,.pointer (some ⟨w1.heap.size,0,none⟩)),(6,.pointer (some ⟨w2.heap.size,0,none⟩)),(7,.pointer (some ⟨w3.heap.size,0,none⟩)),(10,.pointer (some ⟨w5.heap.size,0,none⟩)),(11,.pointer (some ⟨w6.heap.size,0,none⟩)),(12,.bool false)]) ⟨rfl,rfl,rfl,rfl,rfl,rfl,rfl,rfl,trivial⟩ ?_
  refine CW.seq (CW.seq (CW.region ?_))
  refine WL.vv rfl rfl (aU rfl rfl) (by decide) ?_
  refine WL.nil (NX.next (CW.no rfl (CW.skip (NX.next ?_))))
  refine CW.sub (E':=[(1,.int .i64 (((k+1:Nat):Int):Int)),(3,.pointer (some ⟨w.heap.size,0,none⟩)),(5,.pointer (some ⟨w1.heap.size,0,none⟩)),(6,.pointer (some ⟨w2.heap.size,0,none⟩)),(7,.pointer (some ⟨w3.heap.size,0,none⟩))]) ⟨rfl,rfl,rfl,rfl,rfl,trivial⟩ ?_
  refine CW.seq (CW.region ?_)
  refine WL.vv rfl rfl (bz rfl rfl Tryz.underlying37 rfl aw.bl aW) (by decide) ?_
  refine WL.vv rfl rfl (aU rfl rfl) (by decide) ?_
  refine WL.vv rfl rfl (iE rfl rfl rfl rfl hw) (by decide) ?_
  refine WL.vv rfl rfl (bz rfl rfl Tryz.underlying43 rfl az.bl kA) (by decide) ?_
  refine WL.c rfl rfl (bT (args:= #[.agg (aE q S1 (.slice (some ⟨b,o,none⟩) q.af.length cap)),.int .i64 (k:Int),.agg #[.string x.method,.string x.key,.int .i64 x.val,.string x.text]]) (by kernel_rfl) rfl rfl rfl) (by decide) (IH K JH _ _ _ q x H hx hp hc (by omega) lT) ?_
  rintro _ w8 ⟨EQ,rfl,H',lQ⟩
  refine ⟨_,rfl,?_⟩
  replace H:=H'
  clear H'
  replace HF:=HF.mY lQ
  replace aw:=aw.bV lQ
  replace az:=az.bV lQ
  replace ak:=ak.bV lQ
  replace aq:=aq.bV lQ
  replace dZ:=dZ.bV lQ
  replace eJ:=eJ.bV lQ
  have aaH:=lQ.size
  refine WL.vv rfl rfl (dQ rfl rfl rfl) (by decide) ?_
  refine WL.vv rfl rfl (dQ rfl rfl rfl) (by decide) ?_
  refine WL.st rfl rfl rfl rfl rfl ak.bl rfl H.gq aW fun w9 EM j9=> ?_
  replace H:=H.one j9 ak.n ak.k ak.g
  replace HF:=HF.one j9 (.inr (by omega))
  replace aw:=aw.other j9 (by omega)
  replace az:=az.other j9 (by omega)
  replace aq:=aq.other j9 (by omega)
  replace dZ:=dZ.other j9 (by omega)
  replace eJ:=eJ.other j9 (by omega)
  replace ak:=ak.put EM
  have Ho:=Nat.le_of_eq j9.size.symm
  refine WL.st rfl rfl rfl rfl rfl aq.bl rfl (cX _) bn fun fJ EJ j7=> ?_
  replace H:=H.one j7 aq.n aq.k aq.g
  replace HF:=HF.one j7 (.inr (by omega))
  replace aw:=aw.other j7 (by omega)
  replace az:=az.other j7 (by omega)
  replace ak:=ak.other j7 (by omega)
  replace dZ:=dZ.other j7 (by omega)
  replace eJ:=eJ.other j7 (by omega)
  replace aq:=aq.put EJ
  have Hg:=Nat.le_of_eq j7.size.symm
  refine WL.nil (NX.next (CW.ret ?_))
  exact NX.oU rfl rfl rfl ak.bl aq.bl Tryz.underlying37 Tryz.underlying39 rfl rfl aW bn (wU.mk (q:=(aA k q x).1) rfl (he) H HN hK HF)
 case true =>
  clear H
  have H:=H'
  have hone:=H.gq
  clear H'
  refine WL.vv rfl rfl (aU rfl rfl) (by decide) ?_
  refine WL.vv rfl rfl (dQ rfl rfl rfl) (by decide) ?_
  refine WL.vv rfl rfl (dQ rfl rfl rfl) (by decide) ?_
  refine WL.vv rfl rfl (dQ rfl rfl rfl) (by decide) ?_
  refine WL.vv rfl rfl (cJ rfl gJ) (by decide) ?_
  have alz:=aw.lt
  have alA:=az.lt
  have alB:=ak.lt
  have alC:=aq.lt
  obtain ⟨pS,ajj,K6,jz,Aj,H',iS,amB⟩:=H.alloc 37 bF
  change WL _ _ _ _ _ _ (w5.alloc (.cells bF 37))
  rw [<-K6]
  clear K6
  replace H:=H'
  clear H'
  replace HF:=HF.bQ jz
  replace aw:=(aw.below jz).more Aj
  replace az:=(az.below jz).more Aj
  replace ak:=(ak.below jz).more Aj
  replace aq:=(aq.below jz).more Aj
  replace HN:=fun i hi=>Aj i (HN i hi)
  have aaq:=jz.size
  refine WL.vv rfl rfl (cJ rfl gK) (by decide) ?_
  have alD:=aw.lt
  have alF:=az.lt
  have alG:=ak.lt
  have alH:=aq.lt
  have alE:=iS.lt
  obtain ⟨Jc,ajk,K7,jh,x9,H',jN,amC⟩:=H.alloc 39 aY
  change WL _ _ _ _ _ _ (pS.alloc (.cells aY 39))
  rw [<-K7]
  clear K7
  replace H:=H'
  clear H'
  replace HF:=HF.bQ jh
  replace aw:=(aw.below jh).more x9
  replace az:=(az.below jh).more x9
  replace ak:=(ak.below jh).more x9
  replace aq:=(aq.below jh).more x9
  replace iS:=(iS.below jh).more x9
  replace HN:=fun i hi=>x9 i (HN i hi)
  have NZ:=jh.size
  refine WL.st rfl rfl rfl rfl rfl iS.bl rfl hone aW fun wa zG gN=> ?_
  replace H:=H.one gN iS.n iS.k iS.g
  replace HF:=HF.one gN (.inr (by omega))
  replace aw:=aw.other gN (by omega)
  replace az:=az.other gN (by omega)
  replace ak:=ak.other gN (by omega)
  replace aq:=aq.other gN (by omega)
  replace jN:=jN.other gN (by omega)
  replace iS:=iS.put zG
  have N8:=Nat.le_of_eq gN.size.symm
  refine WL.st rfl rfl rfl rfl rfl jN.bl rfl (cX _) bn fun wb zH gO=> ?_
  replace H:=H.one gO jN.n jN.k jN.g
  replace HF:=HF.one gO (.inr (by omega))
  replace aw:=aw.other gO (by omega)
  replace az:=az.other gO (by omega)
  replace ak:=ak.other gO (by omega)
  replace aq:=aq.other gO (by omega)
  replace iS:=iS.other gO (by omega)
  replace jN:=jN.put zH
  have N9:=Nat.le_of_eq gO.size.symm
  refine WL.vv rfl rfl (cq rfl rfl) (by decide) ?_
  refine WL.nil (NX.next ?_)
  refine CW.sub (E':=[(1,.int .i64 (((k+1:Nat):Int):Int)),(3,.pointer (some ⟨w.heap.size,0,none⟩)),(5,.pointer (some ⟨w1.heap.size,0,none⟩)),(6,.pointer (some ⟨w2.heap.size,0,none⟩)),(7,.pointer (some ⟨w3.heap.size,0,none⟩)),(10,.pointer (some ⟨w5.heap.size,0,none⟩)),(11,.pointer (some ⟨pS.heap.size,0,none⟩)),(12,.bool true)]) ⟨rfl,rfl,rfl,rfl,rfl,rfl,rfl,rfl,trivial⟩ ?_
  refine CW.seq (CW.seq (CW.region ?_))
  refine WL.vv rfl rfl (aU rfl rfl) (by decide) ?_
  refine WL.nil (NX.next (CW.yes rfl ?_))
  refine CW.sub (E':=[(6,.pointer (some ⟨w2.heap.size,0,none⟩)),(7,.pointer (some ⟨w3.heap.size,0,none⟩)),(10,.pointer (some ⟨w5.heap.size,0,none⟩)),(11,.pointer (some ⟨pS.heap.size,0,none⟩))]) ⟨rfl,rfl,rfl,rfl,trivial⟩ ?_
  refine CW.seq (CW.any (fun W=>aJ W w5.heap.size 37 (aE q U (.slice (some ⟨b,o,none⟩) p.af.length cap))/\aJ W pS.heap.size 39 (dV r)) 3 mo fun Jd hwd fu=> ?_)
  replace H:=H.below fu
  replace HF:=HF.bQ fu
  replace aw:=aw.below fu
  replace az:=az.below fu
  replace ak:=ak.below fu
  replace aq:=aq.below fu
  replace iS:=iS.below fu
  replace jN:=jN.below fu
  have NY:=fu.size
  clear hwd
  refine ⟨⟨iS.bl,jN.bl⟩,?_⟩
  refine AU.tk 0 rfl (by kernel_rfl) (fun _ _ _ h=>h) rfl rfl (fun W hW=>bz rfl rfl Tryz.underlying37 rfl hW.1 aW) (by decide) ⟨iS.bl,jN.bl⟩ ?_
  refine AU.tk 1 rfl (by kernel_rfl) (fun _ _ _ h=>h) rfl rfl (fun W hW=>bz rfl rfl Tryz.underlying39 rfl hW.2 bn) (by decide) ⟨iS.bl,jN.bl⟩ ?_
  refine AU.st 2 rfl (by kernel_rfl) rfl rfl rfl rfl rfl ak.bl rfl H.gq aW (fun w' ho _=>⟨(ho.block _ (by omega)).trans iS.bl,(ho.block _ (by omega)).trans jN.bl⟩) fun zx EK kJ=> ?_
  replace H:=H.one kJ ak.n ak.k ak.g
  replace HF:=HF.one kJ (.inr (by omega))
  replace aw:=aw.other kJ (by omega)
  replace az:=az.other kJ (by omega)
  replace aq:=aq.other kJ (by omega)
  replace iS:=iS.other kJ (by omega)
  replace jN:=jN.other kJ (by omega)
  replace ak:=ak.put EK
  have N7:=Nat.le_of_eq kJ.size.symm
  refine AU.st 3 rfl (by kernel_rfl) rfl rfl rfl rfl rfl aq.bl rfl (cX _) bn (fun _ _ h=>absurd rfl h) fun Et EL kK=> ?_
  replace H:=H.one kK aq.n aq.k aq.g
  replace HF:=HF.one kK (.inr (by omega))
  replace aw:=aw.other kK (by omega)
  replace az:=az.other kK (by omega)
  replace ak:=ak.other kK (by omega)
  replace iS:=iS.other kK (by omega)
  replace jN:=jN.other kK (by omega)
  replace aq:=aq.put EL
  have Hj:=Nat.le_of_eq kK.size.symm
  refine AU.done (by kernel_rfl) (NX.next (CW.ret ?_))
  exact NX.ret (NX.oU rfl rfl rfl ak.bl aq.bl Tryz.underlying37 Tryz.underlying39 rfl rfl aW bn (wU.mk (q:=q) rfl (ht rfl) H HN hK HF))
theorem Fo: ∀k,wW k
 | 0=>WT
 | k+1=>WR (abL (Fo k)) (Fo k)
end
section
open Go.RowKit Go
variable [GC]
theorem cu.own{K:Nat->Prop}{w:World}{g:Nat}{S:Value}{l:List (ByteArray×Int)}(h:cu K w g S l):cu (fun b=>bi S b) w g S l:=by
 obtain ⟨a,cap,rfl,h1,h2,h3,h4,h5⟩:=h
 refine ⟨a,cap,rfl,h1,h2,h3,h4,fun b o s e hc=> ?_⟩
 obtain ⟨q1,q2,q3,q4⟩:=h5 b o s e hc
 exact ⟨q1,⟨o,s,_,cap,by rw [e],hc⟩,q3,q4⟩
theorem PV.made{wa w6:World}{g:Nat}{p:Part}{S1 S2:Value}(H6:PB (fun b=>wa.heap.size<=b/\b<w6.heap.size) w6 g S2 p)(k1:cu (fun b=>wa.heap.size<=b/\b<w6.heap.size) w6 g S1 (cS p.core.cells))(ha: ∀b,bi S1 b-> ¬bi S2 b)(hw:wa.heap.size<=w6.heap.size) :
  PV (fun b=>bi S2 b) (fun b=>b<wa.heap.size\/bi S2 b\/b=g) w6 S1 S2 p:=by
 have hg:=H6.vf
 refine ⟨H6.gi,fun b hb=>(H6.kb b (H6.ly.out hb).1).1,fun b hb=> .inr (.inl hb),fun b hb=> ?_,?_,⟨g,H6.ly.own⟩,H6.ks,H6.ct⟩
 ·rcases hb with hb|hb|rfl
  ·omega
  ·exact (H6.ly.out hb).1.2
  ·exact hg
 ·show R w6 _ (.sl (p.core.cells.map aZ.cells)) S1
  rw [<-wo]
  refine k1.rd fun b o cap i e hk hi hq=> ?_
  have eE:bi S1 b:=by
   obtain ⟨a',cap',e',z1,_⟩:=k1
   rw [e] at e'
   simp only [Value.slice.injEq] at e'
   exact ⟨o,none,_,cap,e,by have:=e'.2.2;omega⟩
  rcases hq with hq|hq|hq
  ·have:=(k1.out eE).1.1;simp only at hq;omega
  ·exact ha b eE hq
  ·exact (k1.out eE).2.1 hq
theorem CA{K N:Nat->Prop}{w wk:World}{M:Addr->Prop}{S1 S2:Value}{q:Part}{r:da}{e:Ending}(hM:kf w M)(H:PV K N wk S1 S2 q)(hK: ∀b,K b->w.heap.size<=b)(hN: ∀b,b<w.heap.size->N b)(hF:dY K w wk)(he:e= .returned (.tuple #[.agg (aE q S1 S2),.agg (dV r)]))(hr:R wk M (enc r) (rY r)) :
  ∃v,e= .returned v/\R wk M (.aC [enc q,enc r]) v/\Below w.heap.size w wk:=by
 subst he
 obtain ⟨g,hl⟩:=H.ly
 have c1:R wk M (aN q.core.cells) S1:=R.less H.cs fun a ha=>hN _ (hM.1 a ha)
 have c2:R wk M (.sl ((fR q.af).map jV)) S2:=hl.rd fun b o cap i _ hk _ hq=>by have:=hM.1 _ hq;have:=hK b hk;simp only at *;omega
 rw [Bz] at c2
 exact ⟨_,rfl,⟨_,rfl,⟨_,_,rfl,⟨_,rfl,⟨_,_,rfl,⟨rfl,H.ks⟩,_,_,rfl,rfl,_,_,rfl,rfl,_,_,rfl,c1,_,_,rfl,⟨rfl,H.ct⟩,_,_,rfl,c2,rfl⟩⟩,_,_,rfl,hr,rfl⟩⟩,hF.jI (Nat.le_refl _) hK⟩
set_option maxHeartbeats 8000000 in
theorem VM(p:Part)(x:Call)(hc:p.core.cells.length<=4294967296)(hl:p.af.length<=4294967296)(hx:x.text.size<4294967281):aD Tryz.prog 7 none [enc p,enc x] (.aC [enc (cW p x).1,enc (cW p x).2]) []:=by
 refine aD.v8 (by kernel_rfl) fun w M vs hM hr=> ?_
 obtain ⟨vp,q,rfl,hp,vx,q',rfl,yL,rfl⟩:=hr
 obtain ⟨GW,hxm,hxk,mM⟩:=Kw yL
 subst GW
 have hfits:ni x:=⟨hxm,hxk,mM,hx⟩
 obtain ⟨S1,S2,GV, -, -,hks,hct⟩:=rW hp
 have HW:=show Below w.heap.size w ((((w.alloc (.cells (aE p S1 S2) 37)).alloc (.cells #[.string x.method,.string x.key,.int .i64 x.val,.string x.text] 43)).alloc (.cells bF 37)).alloc (.cells aY 39)) by go_grown
 have hsz:((((w.alloc (.cells (aE p S1 S2) 37)).alloc (.cells #[.string x.method,.string x.key,.int .i64 x.val,.string x.text] 43)).alloc (.cells bF 37)).alloc (.cells aY 39)).heap.size=w.heap.size+1+1+1+1:=by simp only [World.size_alloc]
 have p0:=show aJ ((((w.alloc (.cells (aE p S1 S2) 37)).alloc (.cells #[.string x.method,.string x.key,.int .i64 x.val,.string x.text] 43)).alloc (.cells bF 37)).alloc (.cells aY 39)) w.heap.size 37 (aE p S1 S2) from (((aJ.new w _ _).alloc _).alloc _).alloc _
 have p1:=show aJ ((((w.alloc (.cells (aE p S1 S2) 37)).alloc (.cells #[.string x.method,.string x.key,.int .i64 x.val,.string x.text] 43)).alloc (.cells bF 37)).alloc (.cells aY 39)) (w.heap.size+1) 43 #[.string x.method,.string x.key,.int .i64 x.val,.string x.text] by
  have:=(aJ.new (w.alloc (.cells (aE p S1 S2) 37)) 43 #[.string x.method,.string x.key,.int .i64 x.val,.string x.text]);simp only [World.size_alloc] at this;exact (this.alloc _).alloc _
 have p2:=show aJ ((((w.alloc (.cells (aE p S1 S2) 37)).alloc (.cells #[.string x.method,.string x.key,.int .i64 x.val,.string x.text] 43)).alloc (.cells bF 37)).alloc (.cells aY 39)) (w.heap.size+1+1) 37 bF by
  have:=(aJ.new ((w.alloc (.cells (aE p S1 S2) 37)).alloc (.cells #[.string x.method,.string x.key,.int .i64 x.val,.string x.text] 43)) 37 bF);simp only [World.size_alloc] at this;exact this.alloc _
 have p3:=show aJ ((((w.alloc (.cells (aE p S1 S2) 37)).alloc (.cells #[.string x.method,.string x.key,.int .i64 x.val,.string x.text] 43)).alloc (.cells bF 37)).alloc (.cells aY 39)) (w.heap.size+1+1+1) 39 aY by
  have:=(aJ.new (((w.alloc (.cells (aE p S1 S2) 37)).alloc (.cells #[.string x.method,.string x.key,.int .i64 x.val,.string x.text] 43)).alloc (.cells bF 37)) 39 aY);simp only [World.size_alloc] at this;exact this
 have ud:=R.keep (bb.below (M':=M) HW fun _ _ h=>h) _ _ hp
 have hxa:=R.keep (bb.below (M':=M) HW fun _ _ h=>h) _ _ yL
 have pd:=hM.below HW (M':=M) fun q hq=>Nat.lt_of_lt_of_le (hM.1 q hq) HW.size
 subst GV
 refine qc (E:=[(0,.agg (aE p S1 S2)),(1,dL x)]) Tryz.func7 rfl Tryz.ntmps7 (by simp) (by simp [aE]) ?_
 refine CW.seq (CW.region ?_)
 refine WL.vv rfl rfl (jH rfl rfl) (by decide) ?_
 refine WL.vv rfl rfl (jH rfl rfl) (by decide) ?_
 refine WL.vv rfl rfl (cJ rfl gJ) (by decide) ?_
 refine WL.vv rfl rfl (cJ rfl gK) (by decide) ?_
 refine WL.nil (NX.next ?_)
 show CW _ Tryz.prog _ _ _ ((((w.alloc (.cells (aE p S1 S2) 37)).alloc (.cells #[.string x.method,.string x.key,.int .i64 x.val,.string x.text] 43)).alloc (.cells bF 37)).alloc (.cells aY 39))
 refine CW.sub (E':=[(2,.pointer (some ⟨w.heap.size,0,none⟩)),(3,.pointer (some ⟨w.heap.size+1,0,none⟩)),(4,.pointer (some ⟨w.heap.size+1+1,0,none⟩)),(5,.pointer (some ⟨w.heap.size+1+1+1,0,none⟩))]) ⟨rfl,by simp only [World.size_alloc];rfl,by simp only [World.size_alloc];rfl,by simp only [World.size_alloc];rfl,trivial⟩ ?_
 generalize ((((w.alloc (.cells (aE p S1 S2) 37)).alloc (.cells #[.string x.method,.string x.key,.int .i64 x.val,.string x.text] 43)).alloc (.cells bF 37)).alloc (.cells aY 39))=wa at HW hsz p0 p1 p2 p3 ud hxa pd ⊢
 refine CW.seq (CW.region ?_)
 refine WL.vv rfl rfl (bz rfl rfl Tryz.underlying37 rfl p0 aW) (by decide) ?_
 refine WL.c rfl rfl (bT (args:= #[.agg (aE p S1 S2)]) (by kernel_rfl) rfl rfl rfl) (by decide) ((Kq p hc hl).2 wa M 0 [.agg (aE p S1 S2)] pd ⟨_,[],rfl,ud,rfl⟩ (fun cs h=>by cases h)) ?_
 rintro _ v5 ⟨v,rfl,hv,eu,dw, -⟩
 obtain ⟨T1,T2,rfl,ym,tN, -, -⟩:=rW hv
 refine ⟨_,rfl,?_⟩
 have hb5:=eu.jI
 obtain ⟨⟨a1,n1,c1,e1⟩,⟨a2,m2,c2,e2⟩⟩:(∃a n c,T1= .slice a n c)/\(∃a c m,T2= .slice a c m):=by
  obtain ⟨a,n,c,e,_⟩:=ym
  obtain ⟨a',n',c',e',_⟩:=tN
  exact ⟨⟨a,n,c,e⟩,⟨a',n',c',e'⟩⟩
 have hn2:m2=p.af.length:=by
  obtain ⟨a',n',c',e',h,_⟩:=tN
  rw [e2] at e'
  simp only [Value.slice.injEq] at e'
  rw [e'.2.1,h];simp [aN]
 have hone:=za p (a1:=a1) (n1:=n1) (c1:=c1) (a2:=a2) (n2:=m2) (c2:=c2)
 rw [<-e1, <-e2] at hone
 subst hn2
 refine WL.vv rfl rfl (cJ rfl gJ) (by decide) ?_
 refine WL.st rfl rfl rfl rfl (cs:=aE p T1 T2) rfl (show aJ (v5.alloc (.cells bF 37)) v5.heap.size 37 bF from aJ.new v5 _ _) rfl hone aW fun w6 R6 O6=> ?_
 have xX:Below v5.heap.size v5 w6:=qa O6
 have DB:v5.heap.size<w6.heap.size:=R6.lt
 have hf: ∀(S:Value) (d:D),R v5 (fun q=>M q\/iK (.agg (aE p T1 T2)) [(3,2),(5,2)] q) d S->R v5 (fun _=>False) d S:=fun S d h=>R.less h fun _ h=>h.elim
 obtain ⟨H6,k1,ha⟩:=PB.made pd hb5 (hf _ _ ym) (hf _ _ tN) (dw.1 (3,2) (by simp)) (dw.1 (5,2) (by simp)) (dw.2 0 1 (3,2) (5,2) rfl rfl (by simp)) hks hct R6 xX DB
 have ep:Below wa.heap.size wa w6:=bt hb5 xX
 replace p0:=p0.below ep p0.lt
 replace p1:=p1.below ep p1.lt
 replace p2:=p2.below ep p2.lt
 replace p3:=p3.below ep p3.lt
 have dM:=R.keep (bb.below (M':=M) ep fun _ _ h=>h) _ _ ud
 have hxb:=R.keep (bb.below (M':=M) ep fun _ _ h=>h) _ _ hxa
 have cH:=pd.below ep (M':=M) fun q hq=>Nat.lt_of_lt_of_le (pd.1 q hq) ep.size
 have hBw:Below w.heap.size w w6:=bt HW ep
 refine WL.nil (NX.next ?_)
 generalize v5.heap.size=g at *
 refine CW.sub (E':=[(2,.pointer (some ⟨w.heap.size,0,none⟩)),(3,.pointer (some ⟨w.heap.size+1,0,none⟩)),(4,.pointer (some ⟨w.heap.size+1+1,0,none⟩)),(5,.pointer (some ⟨w.heap.size+1+1+1,0,none⟩)),(6,.pointer (some ⟨g,0,none⟩))]) ⟨rfl,rfl,rfl,rfl,rfl,trivial⟩ ?_
 have H:=PV.made H6 k1 ha ep.size
 have oz: ∀b,bi T2 b->w.heap.size<=b:=fun b hb=>by have:=(H6.ly.out hb).1.1;have:=HW.size;omega
 have Ah: ∀b,b<wa.heap.size-> ¬bi T2 b:=fun b hb ho=>by have:=(H6.ly.out ho).1.1;omega
 have MK: ¬bi T2 g:=fun ho=>(H6.ly.out ho).2.1 rfl
 have hNG:=hM.2.2
 have hgg:wa.heap.size<=g:=H6.kg.1
 have M2:MB (fun b=>bi T2 b) (fun b=>b<wa.heap.size\/bi T2 b\/b=g) w6 w.heap.size 37 (aE p S1 S2):=⟨p0,.inl (by omega),Ah _ (by omega),by omega⟩
 have M3:MB (fun b=>bi T2 b) (fun b=>b<wa.heap.size\/bi T2 b\/b=g) w6 (w.heap.size+1) 43 _:=⟨p1,.inl (by omega),Ah _ (by omega),by omega⟩
 have M4:MB (fun b=>bi T2 b) (fun b=>b<wa.heap.size\/bi T2 b\/b=g) w6 (w.heap.size+1+1) 37 bF:=⟨p2,.inl (by omega),Ah _ (by omega),by omega⟩
 have M5:MB (fun b=>bi T2 b) (fun b=>b<wa.heap.size\/bi T2 b\/b=g) w6 (w.heap.size+1+1+1) 39 aY:=⟨p3,.inl (by omega),Ah _ (by omega),by omega⟩
 have M6:MB (fun b=>bi T2 b) (fun b=>b<wa.heap.size\/bi T2 b\/b=g) w6 g 37 (aE p T1 T2):=⟨R6,.inr (.inr rfl),MK,by omega⟩
 have wZ: ∀b,b<w.heap.size->(b<wa.heap.size\/bi T2 b\/b=g):=fun b hb=> .inl (by omega)
 have HF:dY (fun b=>bi T2 b) w w6:=dY.below hBw
 generalize Mk:(fun b=>b<wa.heap.size\/bi T2 b\/b=g)=N at H M2 M3 M4 M5 M6
 replace wZ: ∀b,b<w.heap.size->N b:=by rw [<-Mk];exact wZ
 clear Mk
 generalize Mi:(fun b=>bi T2 b)=K at H M2 M3 M4 M5 M6 HF
 replace oz: ∀b,K b->w.heap.size<=b:=by rw [<-Mi];exact oz
 clear Mi
 clear H6 k1 ha Ah MK p0 p1 p2 p3 R6 hBw HW hone
 refine CW.seq (CW.seq (CW.region ?_))
 refine WL.vv rfl rfl (bz rfl rfl Tryz.underlying37 rfl M2.bl aW) (by decide) ?_
 refine WL.c rfl rfl (bT (args:= #[.agg (aE p S1 S2)]) (by kernel_rfl) rfl rfl rfl) (by decide) ((VP p).calls (M:=M) cH ⟨_,[],rfl,dM,rfl⟩) ?_
 rintro _ w1 ⟨vw1,rfl,Ns,iW⟩
 refine ⟨_,rfl,?_⟩
 obtain ⟨rfl, -⟩:vw1= .bool (eV p)/\True:=⟨Ns,trivial⟩
 clear Ns
 replace H:=H.below iW
 replace HF:=HF.bQ iW
 replace M2:=M2.below iW
 replace M3:=M3.below iW
 replace M4:=M4.below iW
 replace M5:=M5.below iW
 replace M6:=M6.below iW
 have akr:=iW.size
 replace dM:=R.keep (bb.below (M':=M) iW fun _ _ h=>h) _ _ dM
 replace hxb:=R.keep (bb.below (M':=M) iW fun _ _ h=>h) _ _ hxb
 replace cH:=cH.below iW (M':=M) fun q hq=>Nat.lt_of_lt_of_le (cH.1 q hq) iW.size
 refine WL.vv rfl rfl (wu rfl rfl) (by decide) ?_
 refine WL.vv rfl rfl (aU rfl rfl) (by decide) ?_
 cases qk:eV p with
 | false =>
  refine WL.no (b:=true) rfl rfl rfl rfl (by decide) ?_
  refine WL.no (b:=true) rfl rfl rfl rfl (by decide) ?_
  refine WL.no (b:=true) rfl rfl rfl rfl (by decide) ?_
  refine WL.vv rfl rfl (wz rfl rfl rfl) (by decide) ?_
  refine WL.nil (NX.next (CW.yes rfl ?_))
  refine CW.sub (E':=[(4,.pointer (some ⟨(w.heap.size+1+1),0,none⟩)),(5,.pointer (some ⟨(w.heap.size+1+1+1),0,none⟩)),(6,.pointer (some ⟨g,0,none⟩))]) ⟨rfl,rfl,rfl,trivial⟩ ?_
  refine CW.seq (CW.region ?_)
  refine WL.vv rfl rfl (bz rfl rfl Tryz.underlying37 rfl M6.bl aW) (by decide) ?_
  refine WL.vv rfl rfl (jn (vs:=[(0,.int .i64 7)]) rfl rfl (xw _)) (by decide) ?_
  refine WL.st rfl rfl rfl rfl rfl M4.bl rfl H.gq aW fun w2 TL uE=> ?_
  replace H:=H.one uE M4.n M4.k M4.g
  replace HF:=HF.one uE (.inr (by omega))
  replace M2:=M2.other uE (by omega)
  replace M3:=M3.other uE (by omega)
  replace M5:=M5.other uE (by omega)
  replace M6:=M6.other uE (by omega)
  replace M4:=M4.put TL
  have DJ:=Nat.le_of_eq uE.size.symm
  refine WL.st rfl rfl rfl rfl rfl M5.bl rfl (cX _) bn fun w3 TU uF=> ?_
  replace H:=H.one uF M5.n M5.k M5.g
  replace HF:=HF.one uF (.inr (by omega))
  replace M2:=M2.other uF (by omega)
  replace M3:=M3.other uF (by omega)
  replace M4:=M4.other uF (by omega)
  replace M6:=M6.other uF (by omega)
  replace M5:=M5.put TU
  have DK:=Nat.le_of_eq uF.size.symm
  refine WL.nil (NX.next (CW.ret ?_))
  have e:cW p x=(p,(rep 7 0 0 0)):=by unfold cW;rw [if_pos (.inl qk)]
  rw [e]
  exact NX.ret (NX.oU rfl rfl rfl M4.bl M5.bl Tryz.underlying37 Tryz.underlying39 rfl rfl aW bn (CA (q:=p) (r:=(rep 7 0 0 0)) hM H oz wZ HF rfl (uk (r:=rep 7 0 0 0) (show IntKind.i64.min<=(7:Int)/\(7:Int)<=IntKind.i64.max by decide) (show IntKind.i64.min<=(0:Int)/\(0:Int)<=IntKind.i64.max by decide) (by decide) (show IntKind.i64.min<=(0:Int)/\(0:Int)<=IntKind.i64.max by decide) (show IntKind.i64.min<=(0:Int)/\(0:Int)<=IntKind.i64.max by decide))))
 | true =>
  refine WL.vg (b:=false) rfl rfl rfl rfl (bz rfl rfl Tryz.underlying43 rfl M3.bl kA) (by decide) ?_
  refine WL.cg (b:=false) rfl rfl rfl rfl (bT (args:= #[dL x]) (by kernel_rfl) rfl rfl rfl) (by decide) ((Kl x).calls (M:=M) cH ⟨_,[],rfl,hxb,rfl⟩) ?_
  rintro _ w4 ⟨vw4,rfl,Nw,fO⟩
  refine ⟨_,rfl,?_⟩
  obtain ⟨rfl, -⟩:vw4= .bool (ek x)/\True:=⟨Nw,trivial⟩
  clear Nw
  replace H:=H.below fO
  replace HF:=HF.bQ fO
  replace M2:=M2.below fO
  replace M3:=M3.below fO
  replace M4:=M4.below fO
  replace M5:=M5.below fO
  replace M6:=M6.below fO
  have akA:=fO.size
  replace dM:=R.keep (bb.below (M':=M) fO fun _ _ h=>h) _ _ dM
  replace hxb:=R.keep (bb.below (M':=M) fO fun _ _ h=>h) _ _ hxb
  replace cH:=cH.below fO (M':=M) fun q hq=>Nat.lt_of_lt_of_le (cH.1 q hq) fO.size
  refine WL.vg (b:=false) rfl rfl rfl rfl (wu rfl rfl) (by decide) ?_
  refine WL.vv rfl rfl (pM rfl rfl rfl) (by decide) ?_
  cases hcc:ek x with
  | false =>
   refine WL.nil (NX.next (CW.yes rfl ?_))
   refine CW.sub (E':=[(4,.pointer (some ⟨(w.heap.size+1+1),0,none⟩)),(5,.pointer (some ⟨(w.heap.size+1+1+1),0,none⟩)),(6,.pointer (some ⟨g,0,none⟩))]) ⟨rfl,rfl,rfl,trivial⟩ ?_
   refine CW.seq (CW.region ?_)
   refine WL.vv rfl rfl (bz rfl rfl Tryz.underlying37 rfl M6.bl aW) (by decide) ?_
   refine WL.vv rfl rfl (jn (vs:=[(0,.int .i64 7)]) rfl rfl (xw _)) (by decide) ?_
   refine WL.st rfl rfl rfl rfl rfl M4.bl rfl H.gq aW fun w5 Ue uH=> ?_
   replace H:=H.one uH M4.n M4.k M4.g
   replace HF:=HF.one uH (.inr (by omega))
   replace M2:=M2.other uH (by omega)
   replace M3:=M3.other uH (by omega)
   replace M5:=M5.other uH (by omega)
   replace M6:=M6.other uH (by omega)
   replace M4:=M4.put Ue
   have aaG:=Nat.le_of_eq uH.size.symm
   refine WL.st rfl rfl rfl rfl rfl M5.bl rfl (cX _) bn fun w6 bA j8=> ?_
   replace H:=H.one j8 M5.n M5.k M5.g
   replace HF:=HF.one j8 (.inr (by omega))
   replace M2:=M2.other j8 (by omega)
   replace M3:=M3.other j8 (by omega)
   replace M4:=M4.other j8 (by omega)
   replace M6:=M6.other j8 (by omega)
   replace M5:=M5.put bA
   have Hl:=Nat.le_of_eq j8.size.symm
   refine WL.nil (NX.next (CW.ret ?_))
   have e:cW p x=(p,(rep 7 0 0 0)):=by unfold cW;rw [if_pos (.inr hcc)]
   rw [e]
   exact NX.ret (NX.oU rfl rfl rfl M4.bl M5.bl Tryz.underlying37 Tryz.underlying39 rfl rfl aW bn (CA (q:=p) (r:=(rep 7 0 0 0)) hM H oz wZ HF rfl (uk (r:=rep 7 0 0 0) (show IntKind.i64.min<=(7:Int)/\(7:Int)<=IntKind.i64.max by decide) (show IntKind.i64.min<=(0:Int)/\(0:Int)<=IntKind.i64.max by decide) (by decide) (show IntKind.i64.min<=(0:Int)/\(0:Int)<=IntKind.i64.max by decide) (show IntKind.i64.min<=(0:Int)/\(0:Int)<=IntKind.i64.max by decide))))
  | true =>
   refine WL.nil (NX.next (CW.no rfl (CW.skip (NX.next ?_))))
   refine CW.sub (E':=[(2,.pointer (some ⟨w.heap.size,0,none⟩)),(3,.pointer (some ⟨(w.heap.size+1),0,none⟩)),(4,.pointer (some ⟨(w.heap.size+1+1),0,none⟩)),(5,.pointer (some ⟨(w.heap.size+1+1+1),0,none⟩)),(6,.pointer (some ⟨g,0,none⟩))]) ⟨rfl,rfl,rfl,rfl,rfl,trivial⟩ ?_
   have Ba:IntKind.i64.min<=bI x.method/\bI x.method<=IntKind.i64.max:=by
    obtain ⟨j,ew,_⟩:=Bp (xy hcc)
    rw [ew]
    have: ∀j:Fin 6,IntKind.i64.min<=((2^j.val:Nat):Int)/\((2^j.val:Nat):Int)<=IntKind.i64.max:=by decide
    exact this j
   have hfl:IntKind.i64.min<=((fB p:Nat):Int)/\((fB p:Nat):Int)<=IntKind.i64.max:=by
    have:=LL p
    have e1:IntKind.i64.min= -9223372036854775808/\IntKind.i64.max=9223372036854775807:=by decide
    rw [e1.1,e1.2];omega
   refine CW.seq (CW.seq (CW.any (fun W=>aJ W w.heap.size 37 (aE p S1 S2)/\aJ W (w.heap.size+1) 43 #[.string x.method,.string x.key,.int .i64 x.val,.string x.text]) 6 mo fun w7 hwd gB=> ?_))
   replace H:=H.below gB
   replace HF:=HF.bQ gB
   replace M2:=M2.below gB
   replace M3:=M3.below gB
   replace M4:=M4.below gB
   replace M5:=M5.below gB
   replace M6:=M6.below gB
   have akI:=gB.size
   replace dM:=R.keep (bb.below (M':=M) gB fun _ _ h=>h) _ _ dM
   replace hxb:=R.keep (bb.below (M':=M) gB fun _ _ h=>h) _ _ hxb
   replace cH:=cH.below gB (M':=M) fun q hq=>Nat.lt_of_lt_of_le (cH.1 q hq) gB.size
   clear hwd
   refine ⟨⟨M2.bl,M3.bl⟩,?_⟩
   refine AU.tk 0 rfl (by kernel_rfl) (fun _ _ _ h=>h) rfl rfl (fun W hW=>bz rfl rfl Tryz.underlying37 rfl hW.1 aW) (by decide) ⟨M2.bl,M3.bl⟩ ?_
   refine AU.tk 2 rfl (by kernel_rfl) (fun _ _ _ h=>h) rfl rfl (fun W hW=>cO rfl rfl mA) (by decide) ⟨M2.bl,M3.bl⟩ ?_
   refine AU.tk 3 rfl (by kernel_rfl) (fun _ _ _ h=>h) rfl rfl (fun W hW=>cr rfl rfl Tryz.underlying9 rfl (v:= .string x.method) ((hW.2.cell 0).trans rfl)) (by decide) ⟨M2.bl,M3.bl⟩ ?_
   refine AU.c 1 (args:= #[.agg (aE p S1 S2)]) rfl (by kernel_rfl) rfl rfl (bT (by kernel_rfl) rfl rfl rfl) (by decide) ((Kj p).calls (M:=M) cH ⟨_,[],rfl,dM,rfl⟩) ?_
   rintro _ w8 ⟨vw8,rfl,Nx,iO⟩
   obtain ⟨rfl, -⟩:vw8= .int .i64 ((fB p:Nat):Int)/\True:=⟨Nx.1,trivial⟩
   clear Nx
   replace H:=H.below iO
   replace HF:=HF.bQ iO
   replace M2:=M2.below iO
   replace M3:=M3.below iO
   replace M4:=M4.below iO
   replace M5:=M5.below iO
   replace M6:=M6.below iO
   have aap:=iO.size
   replace dM:=R.keep (bb.below (M':=M) iO fun _ _ h=>h) _ _ dM
   replace hxb:=R.keep (bb.below (M':=M) iO fun _ _ h=>h) _ _ hxb
   replace cH:=cH.below iO (M':=M) fun q hq=>Nat.lt_of_lt_of_le (cH.1 q hq) iO.size
   refine ⟨_,rfl,fun _=>⟨M2.bl,M3.bl⟩,?_⟩
   refine AU.c 4 (args:= #[.string x.method]) rfl (by kernel_rfl) rfl rfl (bT (by kernel_rfl) rfl rfl rfl) (by decide) ((Ct x.method).calls (M:=M) cH ⟨_,[],rfl,⟨rfl,hxm⟩,rfl⟩) ?_
   rintro _ w9 ⟨vw9,rfl,Ny,jA⟩
   obtain ⟨rfl, -⟩:vw9= .int .i64 (bI x.method)/\True:=⟨Ny.1,trivial⟩
   clear Ny
   replace H:=H.below jA
   replace HF:=HF.bQ jA
   replace M2:=M2.below jA
   replace M3:=M3.below jA
   replace M4:=M4.below jA
   replace M5:=M5.below jA
   replace M6:=M6.below jA
   have akK:=jA.size
   replace dM:=R.keep (bb.below (M':=M) jA fun _ _ h=>h) _ _ dM
   replace hxb:=R.keep (bb.below (M':=M) jA fun _ _ h=>h) _ _ hxb
   replace cH:=cH.below jA (M':=M) fun q hq=>Nat.lt_of_lt_of_le (cH.1 q hq) jA.size
   refine ⟨_,rfl,fun _=>⟨M2.bl,M3.bl⟩,?_⟩
   refine AU.c 5 (args:= #[.int .i64 ((fB p:Nat):Int),.int .i64 (bI x.method)]) rfl (by kernel_rfl) rfl rfl (bT (by kernel_rfl) rfl rfl rfl) (by decide) ((E7 (fB p) (bI x.method)).calls (M:=M) cH ⟨_,_,rfl,⟨rfl,hfl⟩,_,[],rfl,⟨rfl,Ba⟩,rfl⟩) ?_
   rintro _ fJ ⟨aiD,rfl,Nt,jg⟩
   obtain ⟨rfl, -⟩:aiD= .bool (cK (fB p) (bI x.method))/\True:=⟨Nt,trivial⟩
   clear Nt
   replace H:=H.below jg
   replace HF:=HF.bQ jg
   replace M2:=M2.below jg
   replace M3:=M3.below jg
   replace M4:=M4.below jg
   replace M5:=M5.below jg
   replace M6:=M6.below jg
   have aks:=jg.size
   replace dM:=R.keep (bb.below (M':=M) jg fun _ _ h=>h) _ _ dM
   replace hxb:=R.keep (bb.below (M':=M) jg fun _ _ h=>h) _ _ hxb
   replace cH:=cH.below jg (M':=M) fun q hq=>Nat.lt_of_lt_of_le (cH.1 q hq) jg.size
   refine ⟨_,rfl,fun _=>⟨M2.bl,M3.bl⟩,?_⟩
   refine AU.vv 6 rfl (by kernel_rfl) rfl rfl (wu rfl rfl) (by decide) (fun h=>absurd rfl h) ?_
   cases uc:cK (fB p) (bI x.method) with
   | false =>
    refine AU.done (by kernel_rfl) (NX.next (CW.yes rfl ?_))
    refine CW.sub (E':=[(2,.pointer (some ⟨w.heap.size,0,none⟩)),(3,.pointer (some ⟨(w.heap.size+1),0,none⟩)),(4,.pointer (some ⟨(w.heap.size+1+1),0,none⟩)),(5,.pointer (some ⟨(w.heap.size+1+1+1),0,none⟩)),(6,.pointer (some ⟨g,0,none⟩))]) ⟨rfl,rfl,rfl,rfl,rfl,trivial⟩ ?_
    refine CW.seq (CW.any (fun W=>aJ W g 37 (aE p T1 T2)/\aJ W (w.heap.size+1) 43 #[.string x.method,.string x.key,.int .i64 x.val,.string x.text]/\aJ W w.heap.size 37 (aE p S1 S2)) 8 mo fun pS hwd jz=> ?_)
    replace H:=H.below jz
    replace HF:=HF.bQ jz
    replace M2:=M2.below jz
    replace M3:=M3.below jz
    replace M4:=M4.below jz
    replace M5:=M5.below jz
    replace M6:=M6.below jz
    have akt:=jz.size
    replace dM:=R.keep (bb.below (M':=M) jz fun _ _ h=>h) _ _ dM
    replace hxb:=R.keep (bb.below (M':=M) jz fun _ _ h=>h) _ _ hxb
    replace cH:=cH.below jz (M':=M) fun q hq=>Nat.lt_of_lt_of_le (cH.1 q hq) jz.size
    clear hwd
    refine ⟨⟨M6.bl,M3.bl,M2.bl⟩,?_⟩
    refine AU.tk 0 rfl (by kernel_rfl) (fun _ _ _ h=>h) rfl rfl (fun W hW=>bz rfl rfl Tryz.underlying37 rfl hW.1 aW) (by decide) ⟨M6.bl,M3.bl,M2.bl⟩ ?_
    refine AU.tk 1 rfl (by kernel_rfl) (fun _ _ _ h=>h) rfl rfl (fun W hW=>cO rfl rfl mA) (by decide) ⟨M6.bl,M3.bl,M2.bl⟩ ?_
    refine AU.tk 2 rfl (by kernel_rfl) (fun _ _ _ h=>h) rfl rfl (fun W hW=>cr rfl rfl Tryz.underlying9 rfl (v:= .string x.method) ((hW.2.1.cell 0).trans rfl)) (by decide) ⟨M6.bl,M3.bl,M2.bl⟩ ?_
    refine AU.tk 4 rfl (by kernel_rfl) (fun _ _ _ h=>h) rfl rfl (fun W hW=>bz rfl rfl Tryz.underlying37 rfl hW.2.2 aW) (by decide) ⟨M6.bl,M3.bl,M2.bl⟩ ?_
    refine AU.c 3 (args:= #[.string x.method]) rfl (by kernel_rfl) rfl rfl (bT (by kernel_rfl) rfl rfl rfl) (by decide) ((Ct x.method).calls (M:=M) cH ⟨_,[],rfl,⟨rfl,hxm⟩,rfl⟩) ?_
    rintro _ Jc ⟨aiE,rfl,Nu,jh⟩
    obtain ⟨rfl, -⟩:aiE= .int .i64 (bI x.method)/\True:=⟨Nu.1,trivial⟩
    clear Nu
    replace H:=H.below jh
    replace HF:=HF.bQ jh
    replace M2:=M2.below jh
    replace M3:=M3.below jh
    replace M4:=M4.below jh
    replace M5:=M5.below jh
    replace M6:=M6.below jh
    have aku:=jh.size
    replace dM:=R.keep (bb.below (M':=M) jh fun _ _ h=>h) _ _ dM
    replace hxb:=R.keep (bb.below (M':=M) jh fun _ _ h=>h) _ _ hxb
    replace cH:=cH.below jh (M':=M) fun q hq=>Nat.lt_of_lt_of_le (cH.1 q hq) jh.size
    refine ⟨_,rfl,fun _=>⟨M6.bl,M3.bl,M2.bl⟩,?_⟩
    refine AU.c 5 (args:= #[.agg (aE p S1 S2)]) rfl (by kernel_rfl) rfl rfl (bT (by kernel_rfl) rfl rfl rfl) (by decide) ((Kj p).calls (M:=M) cH ⟨_,[],rfl,dM,rfl⟩) ?_
    rintro _ Jd ⟨aiF,rfl,Nv,fu⟩
    obtain ⟨rfl, -⟩:aiF= .int .i64 ((fB p:Nat):Int)/\True:=⟨Nv.1,trivial⟩
    clear Nv
    replace H:=H.below fu
    replace HF:=HF.bQ fu
    replace M2:=M2.below fu
    replace M3:=M3.below fu
    replace M4:=M4.below fu
    replace M5:=M5.below fu
    replace M6:=M6.below fu
    have NY:=fu.size
    replace dM:=R.keep (bb.below (M':=M) fu fun _ _ h=>h) _ _ dM
    replace hxb:=R.keep (bb.below (M':=M) fu fun _ _ h=>h) _ _ hxb
    replace cH:=cH.below fu (M':=M) fun q hq=>Nat.lt_of_lt_of_le (cH.1 q hq) fu.size
    refine ⟨_,rfl,fun _=>⟨M6.bl,M3.bl,M2.bl⟩,?_⟩
    refine AU.tk 6 rfl (by kernel_rfl) (fun _ _ _ h=>h) rfl rfl (fun W hW=>jn (vs:=[(0,.int .i64 1),(3,.int .i64 (bI x.method)),(4,.int .i64 ((fB p:Nat):Int))]) rfl rfl (J4 1 _ _)) (by decide) ⟨M6.bl,M3.bl,M2.bl⟩ ?_
    refine AU.st 7 rfl (by kernel_rfl) rfl rfl rfl rfl rfl M4.bl rfl H.gq aW (fun w' ho _=>⟨(ho.block _ (by omega)).trans M6.bl,(ho.block _ (by omega)).trans M3.bl,(ho.block _ (by omega)).trans M2.bl⟩) fun zx EK kJ=> ?_
    replace H:=H.one kJ M4.n M4.k M4.g
    replace HF:=HF.one kJ (.inr (by omega))
    replace M2:=M2.other kJ (by omega)
    replace M3:=M3.other kJ (by omega)
    replace M5:=M5.other kJ (by omega)
    replace M6:=M6.other kJ (by omega)
    replace M4:=M4.put EK
    have N7:=Nat.le_of_eq kJ.size.symm
    refine AU.st 8 rfl (by kernel_rfl) rfl rfl rfl rfl rfl M5.bl rfl (cX _) bn (fun _ _ h=>absurd rfl h) fun Et EL kK=> ?_
    replace H:=H.one kK M5.n M5.k M5.g
    replace HF:=HF.one kK (.inr (by omega))
    replace M2:=M2.other kK (by omega)
    replace M3:=M3.other kK (by omega)
    replace M4:=M4.other kK (by omega)
    replace M6:=M6.other kK (by omega)
    replace M5:=M5.put EL
    have Hj:=Nat.le_of_eq kK.size.symm
    refine AU.done (by kernel_rfl) (NX.next (CW.ret ?_))
    have e:cW p x=(p,(rep 1 0 (bI x.method) ((fB p:Nat):Int))):=by unfold cW;rw [if_neg (by simp [qk,hcc]),if_pos uc]
    rw [e]
    exact NX.ret (NX.oU rfl rfl rfl M4.bl M5.bl Tryz.underlying37 Tryz.underlying39 rfl rfl aW bn (CA (q:=p) (r:=(rep 1 0 (bI x.method) ((fB p:Nat):Int))) hM H oz wZ HF rfl (uk (r:=rep 1 0 (bI x.method) (fB p)) (show IntKind.i64.min<=(1:Int)/\(1:Int)<=IntKind.i64.max by decide) (show IntKind.i64.min<=(0:Int)/\(0:Int)<=IntKind.i64.max by decide) (show cI.size<=maxLen by unfold maxLen;decide) Ba hfl)))
   | true =>
    refine AU.done (by kernel_rfl) (NX.next (CW.no rfl (CW.skip (NX.next ?_))))
    refine CW.sub (E':=[(3,.pointer (some ⟨(w.heap.size+1),0,none⟩)),(4,.pointer (some ⟨(w.heap.size+1+1),0,none⟩)),(5,.pointer (some ⟨(w.heap.size+1+1+1),0,none⟩)),(6,.pointer (some ⟨g,0,none⟩))]) ⟨rfl,rfl,rfl,rfl,trivial⟩ ?_
    refine CW.seq (CW.region ?_)
    refine WL.vv rfl rfl (bz rfl rfl Tryz.underlying37 rfl M6.bl aW) (by decide) ?_
    refine WL.vv rfl rfl (cO rfl rfl oZ) (by decide) ?_
    refine WL.vv rfl rfl (cr rfl rfl Tryz.underlying35 rfl (v:= .slice a2 p.af.length c2) (by rw [<-e2];exact (M6.bl.cell 5).trans rfl)) (by decide) ?_
    refine WL.vv rfl rfl (Pn rfl rfl rfl rfl Tryz.underlying35 rfl) (by decide) ?_
    refine WL.vv rfl rfl (bz rfl rfl Tryz.underlying43 rfl M3.bl kA) (by decide) ?_
    refine WL.c rfl rfl (bT (args:= #[.agg (aE p T1 T2),.int .i64 ((p.af.length:Nat):Int),dL x]) (by kernel_rfl) rfl rfl rfl) (by decide) (Fo p.af.length K N _ T1 T2 p x H hfits qk hcc (Nat.le_refl _) uc) ?_
    rintro _ SP ⟨U,rfl,H',hf⟩
    refine ⟨_,rfl,?_⟩
    replace H:=H'
    clear H'
    replace HF:=HF.mY hf
    replace M2:=M2.bV hf
    replace M3:=M3.bV hf
    replace M4:=M4.bV hf
    replace M5:=M5.bV hf
    replace M6:=M6.bV hf
    have akL:=hf.size
    refine WL.vv rfl rfl (dQ rfl rfl rfl) (by decide) ?_
    refine WL.vv rfl rfl (dQ rfl rfl rfl) (by decide) ?_
    refine WL.st rfl rfl rfl rfl rfl M4.bl rfl H.gq aW fun wa' Uv uJ=> ?_
    replace H:=H.one uJ M4.n M4.k M4.g
    replace HF:=HF.one uJ (.inr (by omega))
    replace M2:=M2.other uJ (by omega)
    replace M3:=M3.other uJ (by omega)
    replace M5:=M5.other uJ (by omega)
    replace M6:=M6.other uJ (by omega)
    replace M4:=M4.put Uv
    have alq:=Nat.le_of_eq uJ.size.symm
    refine WL.st rfl rfl rfl rfl rfl M5.bl rfl (cX _) bn fun wb' Uw uK=> ?_
    replace H:=H.one uK M5.n M5.k M5.g
    replace HF:=HF.one uK (.inr (by omega))
    replace M2:=M2.other uK (by omega)
    replace M3:=M3.other uK (by omega)
    replace M4:=M4.other uK (by omega)
    replace M6:=M6.other uK (by omega)
    replace M5:=M5.put Uw
    have alr:=Nat.le_of_eq uK.size.symm
    refine WL.nil (NX.next (CW.ret ?_))
    obtain ⟨_,_,_,_,v0,v9⟩:=pQ p.af.length p x qk (Nat.le_refl _) hcc uc
    obtain ⟨⟨s0,s7⟩,s1,s2,s3⟩:=IY p.af.length p x
    have e1:IntKind.i64.min= -9223372036854775808/\IntKind.i64.max=9223372036854775807:=by decide
    have e:cW p x=((aA p.af.length p x).1,(aA p.af.length p x).2):=by unfold cW;rw [if_neg (by simp [qk,hcc]),if_neg (by simp [uc])]
    rw [e]
    exact NX.oU rfl rfl rfl M4.bl M5.bl Tryz.underlying37 Tryz.underlying39 rfl rfl aW bn (CA (q:=(aA p.af.length p x).1) (r:=(aA p.af.length p x).2) hM H oz wZ HF rfl (uk (by rw [e1.1,e1.2];omega) (by rw [e1.1,e1.2];omega) (by unfold maxLen;omega) (by rw [s2];decide) (by rw [s3];decide)))
end
section
open Go.RowKit Go
variable [GC]
theorem adM{K:Nat->Prop}{w wc W3:World}{g:Nat}{S2:Value}{p:Part}{l:List Cell}{T:TypeId}{a3:Option Addr}{m c3:Nat}{xs:List Value}(h:St K w g S2 K p wc)(hB:Below wc.heap.size wc W3)
  (ho:W3.ownsRow wc.heap.size T 2 (.slice a3 m c3) m xs) (hx:xs=eM (cS l)) (hm:m=(cS l).length) (hok: ∀x∈cS l,y9 x) :
  St K w g S2 (Gr K wc W3) ⟨⟨p.core.kind,p.core.on,p.core.broken,l,p.core.count⟩,p.af⟩ (W3.setCell ⟨g,3,none⟩ (.slice a3 m c3)):=by
 have hg:=h.pb.vf
 have P:=(h.pb.below hB).mono (K':=Gr K wc W3) (fun b hb=> .inl hb) (fun b hb=>by
  rcases hb with hb|hb
  ·have:=h.pb.kb b hb;exact ⟨this.1,Nat.lt_of_lt_of_le this.2 hB.size⟩
  ·exact ⟨Nat.le_trans h.pb.gi.2 hb.1,hb.2⟩)
 have hr:=cu.owns (K:=Gr K wc W3) (g:=g) ho hx hm hok (fun b h1 h2=> .inr ⟨h1,h2⟩) (fun b h1 _ e=>by omega)
 have P3:=P.setCells hr (fun b hb h2=>by
  have hl:=(h.pb.ly.out h2).2.2
  obtain ⟨o,s,len,cap',e,hc⟩:=hb
  obtain ⟨_,⟨e0,_⟩|⟨g',cap,cur,e0,h1,_⟩⟩:=ho
  ·rw [e0] at e;cases e
  ·rw [e0] at e;cases e;omega)
 exact ⟨P3,h.nb,fun b hk=>by
  rcases hk with hk|hk
  ·exact .inl hk
  ·exact .inr ⟨Nat.le_trans h.fr.size hk.1,by simpa using hk.2⟩,(h.fr.bQ hB).BM _ (.inl h.pb.kg)⟩
theorem yX{K:Nat->Prop}{w wc W3:World}{g:Nat}{S2:Value}{p:Part}{x:Call}{T TR:TypeId}{a3:Option Addr}{n k m c3 r:Nat}{xs:List Value}{cs:Array Value}(h:St K w g S2 K p wc)(hx:ni x)
  (hn:n=p.core.cells.length) (hk:bW p.core.cells x.key=k) (jk:eO p.core.cells x.key=false) (hB:Below wc.heap.size wc W3)
  (ho:W3.ownsRow wc.heap.size T 2 (.slice a3 m c3) m xs) (hm:m=k+1+(n-k)) (hxs:xs=eM ((cS p.core.cells).take k)++[.string x.key,.int .i64 x.val]++eM ((cS p.core.cells).drop k))
  (hr:aJ wc r TR cs) (hkr: ¬K r) :
  ∃K',St K w g S2 K' ⟨⟨p.core.kind,p.core.on,p.core.broken,iD p.core.cells x.key x.val,p.core.count⟩,p.af⟩ (W3.setCell ⟨g,3,none⟩ (.slice a3 (k+1+(n-k)) c3))/\ ¬K' r/\aJ (W3.setCell ⟨g,3,none⟩ (.slice a3 (k+1+(n-k)) c3)) r TR cs:=by
 have eP:iD p.core.cells x.key x.val=p.core.cells.take k++[⟨x.key,x.val⟩]++p.core.cells.drop k:=by
  unfold iD
  rw [if_neg (by rw [jk];simp),hk]
 have hkn:k<=n:=by rw [hn, <-hk];exact uS _ _
 have hks: ∀c∈p.core.cells,y9 (c.key,c.val):=fun c hc=>by
  obtain ⟨S1,_,q2,_⟩:=h.pb.bx
  exact q2.ok (List.mem_map.2 ⟨c,hc,rfl⟩)
 subst hm
 refine ⟨_,adM h hB ho ?_ ?_ ?_,?_,?_⟩
 ·rw [hxs,eP]
  simp [cS,eM,List.map_take,List.map_drop]
 ·rw [wm,eP]
  simp [<-hn]
  omega
 ·intro y hy
  obtain ⟨c,hc,rfl⟩:=List.mem_map.1 hy
  rw [eP] at hc
  rcases List.mem_append.1 hc with hc|hc
  ·rcases List.mem_append.1 hc with hc|hc
   ·exact hks c (List.mem_of_mem_take hc)
   ·cases List.mem_singleton.1 hc
    exact ⟨hx.key,hx.val⟩
  ·exact hks c (List.mem_of_mem_drop hc)
 ·intro hkk
  rcases hkk with hkk|hkk
  ·exact hkr hkk
  ·have:=hr.lt;omega
 ·exact (hr.below hB hr.lt).far (fun e=>hkr (by rw [e];exact h.pb.kg)) _
theorem O4{w:World}{B n sz:Nat}{e:TypeId}{a:Option Addr}{c:Nat}{xs:List Value}(h:w.ownsRow B e sz (.slice a n c) n xs):n<=c:=by
 obtain ⟨_,⟨e0,hz⟩|⟨g',cap,cur,e0,h1,h2,h3,_⟩⟩:=h
 ·cases e0;exact Nat.le_refl _
 ·cases e0;omega
theorem Ed{P:Program}{ops:Array Oper}{o:Oper}{a:Act}{w:World}{K:Act->World->Prop}{Q:Exit->Act->World->Prop}{E:Prop}
  (hg:o.guard=none) (s x:Operand) (t:TypeId) (hop:o.op=Op.call {callee:=Callee.builtin Builtin.append,args:= #[s,x],argTypes:= #[t,t]})
  (e:TypeId) (i:TypeInfo) (ht:P.underlying t=some (.slice e)) (hi:P.info? e=some i)
  (base:Option Addr) (n cap:Nat) (hs:a.eval s= .slice base n cap) (hle:n<=cap) (hx:a.eval x= .slice none 0 0)
  (hK:K (a.put o.dst (.slice base n cap)) w) :
  if Region.wanted o (yielded ops a.tmps)=true then Oper.wp P o a w K Q else E:=by
 have hw:Region.wanted o (yielded ops a.tmps)=true:=by simp [Region.wanted,hg]
 rw [if_pos hw]
 have hr:(Builtin.append_ #[t,t] o.type #[.slice base n cap,.slice none 0 0]).run P w= .ok (.slice base n cap) w :=
  run_append_nothing w t t o.type e i ht hi base n cap hle (.slice none 0 0) (Src.ofNil w ht 0)
 unfold Oper.wp execOp
 simp only [hop,resolve,invoke,builtin,Sem.run_bind,Sem.run_pure,Result.andThen_ok,List.map_toArray,List.map_cons,List.map_nil,hs,hx,hr]
 exact hK
end
end Go.Proofs.YtimickglpboilaaGreatDoor
