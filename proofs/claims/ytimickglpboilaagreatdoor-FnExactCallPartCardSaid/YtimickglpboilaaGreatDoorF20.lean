/- What the walk of the reference's l4Do needs: a struct within a struct. -/
import Derived.Test.YtimickglpboilaaGreatDoorF19
import Derived.Test.YtimickglpboilaaGreatDoorF18
import Derived.Test.YtimickglpboilaaGreatDoorF14
import Derived.Deep.Upon
set_option linter.unusedVariables false
set_option linter.unusedSimpArgs false
set_option linter.unusedSectionVars false
set_option maxRecDepth 100000
namespace Go.Proofs.YtimickglpboilaaGreatDoor
section
open Go.RowKit Go
variable [GC]
section
variable {n:Nat}{P:Program}{ops:Array Oper}{Q:Exit->Act->World->Prop}{E:List (Nat×Value)}{w:World}{o:Oper}{rest:List Oper}
theorem Po{T:TypeId}{ds:TypeDesc}{x:Operand}{b:Nat}{t:TypeId}{C:Array Value}{cs:List Value}(ho:o.op= .load T x)(hx:ev E x=some (.pointer (some ⟨b,0,none⟩)))(hT:P.underlying T=some ds)(hd:(match ds with| .struct _| .array _ _=>true|_=>false)=true)
  (hb:ai w b t C) (hi:(P.info? T).map (·.size)=some cs.length) (hc: ∀j,j<cs.length->C[j]? =cs[j]?):fz n P E o w (.agg cs.toArray) w:=fun a hE=>by
 have hl:(loadCells ⟨b,0,none⟩ cs.length).run P w= .ok cs.toArray w :=
  run_loadCells_list (P:=P) w ⟨b,0,none⟩ cs (fun j v hv=>by
   have hj:=(List.getElem?_eq_some_iff.1 hv).1
   rw [Addr.add_lit,Nat.zero_add,hb.cell,hc j hj];exact hv)
 have h1:(loadVar T ⟨b,0,none⟩).run P w= .ok (.agg cs.toArray) w:=by
  cases hq:P.info? T with
  | none=>simp [hq] at hi
  | some i =>
   have hs:i.size=cs.length:=by simpa [hq] using hi
   have hagg:(isAgg T).run P w= .ok true w:=by
    unfold isAgg
    rw [Sem.run_bind,run_underlying hT]
    cases ds<;>simp_all
   simp [loadVar,Sem.run_bind,hagg,sizeOf,typeInfo,hq,hs,hl]
 simp [execOp,ho,hE.ev hx,Instr.loadAt,Instr.sureAddr,h1]
theorem abF{T:TypeId}{x y:Operand}{b:Nat}{t:TypeId}{C cs:Array Value}(ho:o.op= .store T x y)(hx:ev E x=some (.pointer (some ⟨b,0,none⟩)))(hy:ev E y=some (.agg cs))(hsz:(P.info? T).map (·.size)=some cs.size)(hone: ∀u∈cs.toList,u.oneCell'=true)(hC:cs.size<=C.size)(hb:ai w b t C) :
  ∃w',zC n P E o w w'/\ai w' b t (fK C (0+0) cs.toList)/\fD w w' b:=by
 simp only [Option.map_eq_some_iff] at hsz
 obtain ⟨i,hi,hs⟩:=hsz
 obtain ⟨w',h1,h2,h3⟩:=ze (P:=P) b t cs.toList w C 0 0 hb hone (by simp;omega)
 refine ⟨w',fun a hE=> ?_,h2,h3⟩
 have h4:(storeVar T ⟨b,0,none⟩ (.agg cs)).run P w= .ok () w':=by
  simp only [storeVar,Value.cells,Sem.run_bind,run_sizeOf hi,Result.andThen_ok,hs]
  simp [h1]
 simp [execOp,ho,hE.ev hx,hE.ev hy,Instr.storeAt,Instr.sureAddr,h4]
theorem WL.stQ{T:TypeId}{x y:Operand}{b:Nat}{t:TypeId}{C cs:Array Value}(hg:o.guard=none)(hd:o.dst=none)(ho:o.op= .store T x y)(hx:ev E x=some (.pointer (some ⟨b,0,none⟩)))(hy:ev E y=some (.agg cs))(hb:ai w b t C)(hC:cs.size<=C.size)(hone: ∀u∈cs.toList,u.oneCell'=true)(hsz:(P.info? T).map (·.size)=some cs.size)
  (h: ∀w',ai w' b t (fK C (0+0) cs.toList)->fD w w' b->WL n P ops Q rest E w'):WL n P ops Q (o::rest) E w:=by
 obtain ⟨w',h1,h2,h3⟩:=abF (n:=n) (P:=P) (E:=E) ho hx hy hsz hone hC hb
 exact WL.s hg hd h1 (h w' h2 h3)
end
def Jk:Array Value:= #[.string ⟨#[]⟩,.bool false,.bool false,.slice none 0 0,.int .i64 0]
theorem Zi:(Tryz.prog.info? 34).bind (·.zero)=some (.agg Jk):=by kernel_rfl
theorem Bg:(Tryz.prog.info? 34).map (·.size)=some 5:=by kernel_rfl
theorem Wc(p:Core){a1:Option Addr}{n1 c1:Nat}: ∀u∈(#[.string p.kind,.bool p.on,.bool p.broken,.slice a1 n1 c1,.int .i64 p.count]:Array Value).toList,u.oneCell'=true:=by
 intro u hu
 simp at hu
 rcases hu with rfl|rfl|rfl|rfl|rfl<;>rfl
theorem PV.OO{K N:Nat->Prop}{w:World}{S1 S2:Value}{p:Part}(h:PV K N w S1 S2 p): ∀u∈(#[.string p.core.kind,.bool p.core.on,.bool p.core.broken,S1,.int .i64 p.core.count]:Array Value).toList,u.oneCell'=true:=by
 obtain ⟨a,n,c,rfl⟩:=h.len
 exact Wc _
theorem PV.back{K N:Nat->Prop}{w w':World}{S1 S2 U:Value}{p:Part}(h:PV K N w S1 S2 p)(hf:eE K w w')(h':PV K N w' U S2 p):PV K N w' S1 S2 p :=
 {h' with cs:=R.keep (fun q v hc hn=>⟨by
  have hlt:q.block<w.heap.size:=by
   rcases Nat.lt_or_ge q.block w.heap.size with h|h
   ·exact h
   ·unfold World.cell? at hc;rw [Array.getElem?_eq_none h] at hc;cases hc
  rw [cell_of_heap (hf.block _ hlt fun hk=>hn (h.kn _ hk))];exact hc,hn⟩) _ _ h.cs}
theorem wV.mk{K N N':Nat->Prop}{w w':World}{S1 S2:Value}{y:Part×dW}{q:Part}{r:dW}{e:Ending}(he:e= .returned (.tuple #[.agg (aF q S1 S2),.agg (cK r)]))(hy:y=(q,r))(H:PV K N' w' S1 S2 q)(hN: ∀b,N b->N' b)(hK: ∀b,K b->N b)(hF:eE K w w'):wV K N w S2 y e w':=by
 subst hy
 exact ⟨S1,he,H.less hN hK,hF⟩
end
section
open Go.RowKit Go
variable [GC]
theorem Xa:kS Tryz.prog 34 3=some 3:=by kernel_rfl
def qH(p:Core)(S1:Value):Array Value:= #[.string p.kind,.bool p.on,.bool p.broken,S1,.int .i64 p.count]
theorem aaL(p:Core)(S1:Value)(k:Nat)(w:World)(M:Addr->Prop)(hr:R w M (bg p.cells) S1)(hfr: ∀q,w.frozen? q=true->M q)(hG:Rd w)(hM: ∀q,¬M q->NG<=q.block)(hk:k+2*p.cells.length<=1152921504606846970) :
  Calls Tryz.prog 44 #[.agg (qH p S1),.int .i64 (k:Int)] w fun e w'=>e= .returned (.int .i64 ((k+2*p.cells.length:Nat):Int))/\Alt (fun q=> ¬M q) w w'/\R w' M (.sl (jt k p.cells p.cells.length)) S1:=by
 refine pT (E:=[(0,.agg (qH p S1)),(1,.int .i64 (k:Int))]) Tryz.func44 rfl Tryz.ntmps44 (by simp) (by simp) ?_
 refine CW.seq (CW.region ?_)
 refine WL.vv rfl rfl (ju rfl rfl) (by decide) ?_
 have hb:=cU w (qH p S1) 34
 have hR:=ai.new w 34 (qH p S1)
 have hsz:(w.alloc (.cells (qH p S1) 34)).heap.size=w.heap.size+1:=by simp [World.size_alloc]
 change WL _ _ _ _ _ _ (w.alloc (.cells (qH p S1) 34))
 generalize w.alloc (.cells (qH p S1) 34)=w1 at hb hR hsz ⊢
 refine WL.vv rfl rfl (cO rfl rfl) (by decide) ?_
 refine WL.nil (NX.next ?_)
 refine CW.seq (CW.region ?_)
 refine WL.vv rfl rfl (cY rfl rfl Xa) (by decide) ?_
 refine WL.vv rfl rfl (cz rfl rfl Tryz.underlying32 rfl (v:=S1) ((hR.cell 3).trans rfl)) (by decide) ?_
 refine WL.vv rfl rfl (bf rfl rfl) (by decide) ?_
 have hr1:R w1 (fun q=>M q\/w.heap.size<=q.block) (bg p.cells) S1:=R.keep (bo.below hb fun q hq hn=>hn.elim id fun h=>by omega) _ _ hr
 refine WL.c rfl rfl (bu (args:= #[S1,.int .i64 (k:Int)]) (by kernel_rfl) rfl rfl rfl) (by decide) (aaK p.cells k w1 _ S1 hr1 (fun q hq=>by
   rcases Nat.lt_or_ge q.block w.heap.size with h|h
   ·exact .inl (hfr q (by rw [<-Dh (hb.block _ h)];exact hq))
   ·exact .inr h) (hG.below hb) (fun q hq=>hM q fun h=>hq (.inl h)) hk) ?_
 rintro _ w2 ⟨rfl,ha,hr2⟩
 refine ⟨_,rfl,?_⟩
 refine WL.vv rfl rfl (cO rfl rfl) (by decide) ?_
 refine WL.nil (NX.next ?_)
 refine CW.seq (CW.region ?_)
 refine WL.vv rfl rfl (bf rfl rfl) (by decide) ?_
 refine WL.vv rfl rfl (cO rfl rfl) (by decide) ?_
 refine WL.nil (NX.next (CW.ret ?_))
 exact NX.zM rfl rfl ⟨rfl,(Alt.below hb).trans (ha.mono fun q _ hq h=>hq (.inl h)),R.less hr2 fun q h=> .inl h⟩
theorem aaN(p:Part)(S1 S2:Value)(k:Nat)(w:World)(M1 M2:Addr->Prop)(hr1:R w M1 (bg p.core.cells) S1)(hr2:R w M2 (bg p.af) S2)(hf1: ∀q,w.frozen? q=true->M1 q)(hf2: ∀q,w.frozen? q=true->M2 q)(hG:Rd w)(Mi: ∀q,¬M1 q->NG<=q.block)(XC: ∀q,¬M2 q->NG<=q.block)
  (hap: ∀q,M1 q\/M2 q) (hl1: ∀q,w.heap.size<=q.block->M1 q) (fG: ∀q,w.heap.size<=q.block->M2 q) (hk:k+2*p.core.cells.length+2*p.af.length<=1152921504606846970) :
  Calls Tryz.prog 13 #[.agg (aF p S1 S2),.int .i64 (k:Int)] w fun e w'=>e= .returned (.int .i64 ((k+2*p.core.cells.length+2*p.af.length:Nat):Int))/\Alt (fun q=> ¬M1 q\/ ¬M2 q) w w' /\
   R w' M1 (.sl (jt k p.core.cells p.core.cells.length)) S1/\R w' M2 (.sl (j0 (k+2*p.core.cells.length) p.af p.af.length)) S2:=by
 refine pT (E:=[(0,.agg (aF p S1 S2)),(1,.int .i64 (k:Int))]) Tryz.func13 rfl Tryz.ntmps13 (by simp) (by simp) ?_
 refine CW.seq (CW.region ?_)
 refine WL.vv rfl rfl (ju rfl rfl) (by decide) ?_
 have hb:=cU w (aF p S1 S2) 37
 have hR:=ai.new w 37 (aF p S1 S2)
 have hsz:(w.alloc (.cells (aF p S1 S2) 37)).heap.size=w.heap.size+1:=by simp [World.size_alloc]
 change WL _ _ _ _ _ _ (w.alloc (.cells (aF p S1 S2) 37))
 generalize w.alloc (.cells (aF p S1 S2) 37)=w1 at hb hR hsz ⊢
 have g1:R w1 M1 (bg p.core.cells) S1:=R.keep (bo.below hb fun _ _ h=>h) _ _ hr1
 have g2:R w1 M2 (bg p.af) S2:=R.keep (bo.below hb fun _ _ h=>h) _ _ hr2
 have fr: ∀M:Addr->Prop,(∀q,w.frozen? q=true->M q)->(∀q,w.heap.size<=q.block->M q)-> ∀q,w1.frozen? q=true->M q:=fun M h hl q hq=>by
  rcases Nat.lt_or_ge q.block w.heap.size with hlt|hge
  ·exact h q (by rw [<-Dh (hb.block _ hlt)];exact hq)
  ·exact hl q hge
 refine WL.vv rfl rfl (cO rfl rfl) (by decide) ?_
 refine WL.nil (NX.next ?_)
 refine CW.seq (CW.region ?_)
 refine WL.vv rfl rfl (cY rfl rfl Dc) (by decide) ?_
 refine WL.vv rfl rfl (Po (cs:=(qH p.core S1).toList) rfl rfl Tryz.underlying34 rfl hR Bg (fun j hj=>by match j,hj with|0,_=>rfl|1,_=>rfl|2,_=>rfl|3,_=>rfl|4,_=>rfl)) (by decide) ?_
 refine WL.vv rfl rfl (bf rfl rfl) (by decide) ?_
 refine WL.c rfl rfl (bu (args:= #[.agg (qH p.core S1),.int .i64 (k:Int)]) (by kernel_rfl) rfl rfl rfl) (by decide) (aaL p.core S1 k w1 M1 g1 (fr M1 hf1 hl1) (hG.below hb) Mi (by omega)) ?_
 rintro _ w2 ⟨rfl,ha,m1⟩
 refine ⟨_,rfl,?_⟩
 have XE:ai w2 w.heap.size 37 (aF p S1 S2):=(ha.blk w.heap.size (by omega) fun q hq hn=>hn (hl1 q (by omega))).trans hR
 have g3:R w2 M2 (bg p.af) S2:=R.keep (ha.keeps (fun q hq=>(hap q).elim (fun h=>absurd h hq) id) fun _ _ h=>h) _ _ g2
 have hG2:=(hG.below hb).alt ha Mi
 have Xc: ∀q,w2.frozen? q=true->M2 q:=fun q hq=>by
  rcases Nat.lt_or_ge q.block w1.heap.size with hlt|hge
  ·exact fr M2 hf2 fG q (by rw [<-ha.xP q hlt];exact hq)
  ·exact fG q (by omega)
 refine WL.vv rfl rfl (cO rfl rfl) (by decide) ?_
 refine WL.nil (NX.next ?_)
 refine CW.seq (CW.region ?_)
 refine WL.vv rfl rfl (cY rfl rfl oO) (by decide) ?_
 refine WL.vv rfl rfl (cz rfl rfl Tryz.underlying35 rfl (v:=S2) ((XE.cell 5).trans rfl)) (by decide) ?_
 refine WL.vv rfl rfl (bf rfl rfl) (by decide) ?_
 refine WL.c rfl rfl (bu (args:= #[S2,.int .i64 ((k+2*p.core.cells.length:Nat):Int)]) (by kernel_rfl) rfl rfl rfl) (by decide) (aaM p.af (k+2*p.core.cells.length) w2 M2 S2 g3 Xc hG2 XC (by omega)) ?_
 rintro _ w3 ⟨rfl,Mt,m2⟩
 refine ⟨_,rfl,?_⟩
 refine WL.vv rfl rfl (cO rfl rfl) (by decide) ?_
 refine WL.nil (NX.next ?_)
 refine CW.seq (CW.region ?_)
 refine WL.vv rfl rfl (bf rfl rfl) (by decide) ?_
 refine WL.vv rfl rfl (cO rfl rfl) (by decide) ?_
 refine WL.nil (NX.next (CW.ret ?_))
 refine NX.zM rfl rfl ⟨rfl,((Alt.below hb).trans (ha.mono fun q _ hq=> .inl hq)).trans (Mt.mono fun q _ hq=> .inr hq),?_,m2⟩
 exact R.keep (Mt.keeps (fun q hq=>(hap q).elim id fun h=>absurd h hq) fun _ _ h=>h) _ _ m1
noncomputable def Bp(p:Part)(k:Nat):D:= .agg [.str p.core.kind,.bool p.core.on,.bool p.core.broken,.sl (jt k p.core.cells p.core.cells.length),.int .i64 p.core.count,.sl (j0 (k+2*p.core.cells.length) p.af p.af.length)]
noncomputable def H5(p:Core)(k:Nat):D:= .agg [.str p.kind,.bool p.on,.bool p.broken,.sl (jt k p.cells p.cells.length),.int .i64 p.count]
theorem PR(k:Nat)(l:List Cell):dI aD.tab (aD.tab 118) (jt k l l.length):=by
 rw [IX]
 refine dI.of fun r hr=> ?_
 obtain ⟨a,ha,rfl⟩:=uc hr
 rw [if_pos ha];exact ⟨trivial,rfl,trivial⟩
theorem ab4(k:Nat)(l:List fZ):dI aD.tab (aD.tab 86) (j0 k l l.length):=by
 rw [IY]
 refine dI.of fun r hr=> ?_
 obtain ⟨a,ha,rfl⟩:=uc hr
 rw [if_pos ha];exact ⟨trivial,rfl,trivial⟩
theorem UU(p:Core)(k:Nat)(hk:k+2*p.cells.length<=1152921504606846970):aG Tryz.prog 46 none [H5 p k,.int .i64 k] (.int .i64 ((k+2*p.cells.length:Nat):Int)) []:=by
 refine aG.bV agK aeu rfl ?_ (fun hfit=> ?_)
 ·exact ⟨⟨trivial,trivial,trivial,PR k p.cells,rfl,trivial⟩,rfl,trivial⟩
 unfold Ru
 (refine bD ?_ (UT p.cells k hk) (rfl) ?_;(focus (simp only [VC.den,E.den,aa,aP,and_true,H5];try exact rfl));(simp only [cA]))
 refine aL (fun h=>aK ?_) (fun h=>aK ?_)
 ·simp only [E.den,aa,aj,ak] at h
  have h:((k+2*p.cells.length:Nat):Int)<0:=by simpa using h
  omega
 ·simp only [E.den,aa,aj,ak]
theorem UX(p:Part)(k:Nat)(hk:k+2*p.core.cells.length+2*p.af.length<=1152921504606846970):aG Tryz.prog 14 none [Bp p k,.int .i64 k] (.int .i64 ((k+2*p.core.cells.length+2*p.af.length:Nat):Int)) []:=by
 refine aG.bV agM aey rfl ?_ (fun hfit=> ?_)
 ·exact ⟨⟨trivial,trivial,trivial,PR k p.core.cells,rfl,ab4 _ p.af,trivial⟩,rfl,trivial⟩
 unfold Rx
 (refine bD ?_ (UU p.core k (by omega)) (rfl) ?_;(focus (simp only [VC.den,E.den,aa,aP,and_true,Bp,H5,List.take,List.drop];try exact rfl));(simp only [cA]))
 refine aL (fun h=> ?_) (fun h=> ?_)
 ·simp only [E.den,aa,aj,ak] at h
  have h:((k+2*p.core.cells.length:Nat):Int)<0:=by simpa using h
  omega
 (refine bD ?_ (UW p.af (k+2*p.core.cells.length) (by omega)) (rfl) ?_;(focus (simp only [VC.den,E.den,aa,aP,and_true,Bp];try exact rfl));(simp only [cA]))
 refine aL (fun h=>aK ?_) (fun h=>aK ?_)
 ·simp only [E.den,aa,aj,ak] at h
  have h:((k+2*p.core.cells.length+2*p.af.length:Nat):Int)<0:=by simpa using h
  omega
 ·simp only [E.den,aa,aj,ak]
structure OP(lo hi:Nat)(w:World)(S1 S2:Value)(p:Part):Prop where
 r1: ∃g,cB (fun b=>lo<=b/\b<hi) w g S1 (dc p.core.cells)
 r2: ∃g,cB (fun b=>lo<=b/\b<hi) w g S2 (fX p.af)
 ap: ∀b,bM S1 b-> ¬bM S2 b
 ks:p.core.kind.size<=maxLen
 ct:IntKind.i64.min<=p.core.count/\p.core.count<=IntKind.i64.max
 le:hi<=w.heap.size
section
variable {lo hi:Nat}{w w':World}{S1 S2:Value}{p:Part}
theorem OP.keep(h:OP lo hi w S1 S2 p)(hw: ∀b,lo<=b->b<hi->w'.heap[b]? =w.heap[b]?)(hs:w.heap.size<=w'.heap.size):OP lo hi w' S1 S2 p:=by
 obtain ⟨g1,q1⟩:=h.r1
 obtain ⟨g2,q2⟩:=h.r2
 exact ⟨⟨g1,q1.keep (fun b ho=>hw b (q1.out ho).1.1 (q1.out ho).1.2) fun _ h=>h⟩,⟨g2,q2.keep (fun b ho=>hw b (q2.out ho).1.1 (q2.out ho).1.2) fun _ h=>h⟩,h.ap,h.ks,h.ct,Nat.le_trans h.le hs⟩
theorem OP.below(h:OP lo hi w S1 S2 p)(hb:Below w.heap.size w w'):OP lo hi w' S1 S2 p:=h.keep (fun b _ hl=>hb.block b (Nat.lt_of_lt_of_le hl h.le)) hb.size
theorem OP.alt{A:Addr->Prop}(h:OP lo hi w S1 S2 p)(ha:Alt A w w')(hA: ∀q,A q-> ¬(lo<=q.block/\q.block<hi)):OP lo hi w' S1 S2 p :=
 h.keep (fun b h1 h2=>ha.blk b (Nat.lt_of_lt_of_le h2 h.le) fun q hq hq2=>hA q hq2 (by rw [hq];exact ⟨h1,h2⟩)) ha.size
theorem OP.cells(h:OP lo hi w S1 S2 p){M:Addr->Prop}(hM: ∀q,M q-> ¬bM S1 q.block):R w M (bg p.core.cells) S1:=by
 obtain ⟨g1,q1⟩:=h.r1
 show R w M (.sl (p.core.cells.map bC.cells)) S1
 rw [<-vZ]
 refine q1.rd fun b o cap i e _ hi hq=>hM _ hq ?_
 obtain ⟨a',cap',e',z1,_⟩:=q1
 rw [e] at e'
 simp only [Value.slice.injEq] at e'
 exact ⟨o,none,_,cap,e,by have:=e'.2.2;omega⟩
theorem OP.lays(h:OP lo hi w S1 S2 p){M:Addr->Prop}(hM: ∀q,M q-> ¬bM S2 q.block):R w M (bg p.af) S2:=by
 obtain ⟨g1,q1⟩:=h.r2
 show R w M (.sl (p.af.map bC.cells)) S2
 rw [<-BA]
 refine q1.rd fun b o cap i e _ hi hq=>hM _ hq ?_
 obtain ⟨a',cap',e',z1,_⟩:=q1
 rw [e] at e'
 simp only [Value.slice.injEq] at e'
 exact ⟨o,none,_,cap,e,by have:=e'.2.2;omega⟩
theorem OP.data(h:OP lo hi w S1 S2 p):R w (fun _=>False) (enc p) (.agg (aF p S1 S2)) :=
 ⟨_,rfl,⟨_,_,rfl,⟨rfl,h.ks⟩,_,_,rfl,rfl,_,_,rfl,rfl,_,_,rfl,h.cells fun _ h=>h.elim,_,_,rfl,⟨rfl,h.ct⟩,_,_,rfl,h.lays fun _ h=>h.elim,rfl⟩⟩
theorem cB.free{K:Nat->Prop}{g:Nat}{S:Value}{l:List (ByteArray×Int)}(h:cB K w g S l){q:Addr}(hq:bM S q.block):w.frozen? q=false:=by
 obtain ⟨a,cap,rfl,h1,h2,h3,h4,h5⟩:=h
 obtain ⟨o,s,len,cap',e,hc⟩:=hq
 simp only [Value.slice.injEq] at e
 obtain ⟨rfl,rfl,rfl⟩:=e
 obtain ⟨q1,q2,q3,cells,T,q4,q5⟩:=h5 _ o s rfl hc
 unfold World.frozen?;rw [q4];simp
theorem OP.mark(h:OP lo hi w S1 S2 p)(k:Nat)(hG:Rd w)(hlo:NG<=lo)(hk:k+2*p.core.cells.length+2*p.af.length<=1152921504606846970) :
  Calls Tryz.prog 13 #[.agg (aF p S1 S2),.int .i64 (k:Int)] w fun e w'=>e= .returned (.int .i64 ((k+2*p.core.cells.length+2*p.af.length:Nat):Int))/\Alt (fun q=>lo<=q.block/\q.block<hi) w w'/\R w' (fun _=>False) (Bp p k) (.agg (aF p S1 S2)):=by
 obtain ⟨g1,q1⟩:=h.r1
 obtain ⟨g2,q2⟩:=h.r2
 have hle:=h.le
 refine (aaN p S1 S2 k w (fun q=> ¬bM S1 q.block) (fun q=> ¬bM S2 q.block) (h.cells fun _ h=>h) (h.lays fun _ h=>h) (fun q hf ho=>by rw [q1.free ho] at hf;cases hf) (fun q hf ho=>by rw [q2.free ho] at hf;cases hf) hG
  (fun q hq=>by have:=(q1.out (Classical.not_not.1 hq)).1.1;omega) (fun q hq=>by have:=(q2.out (Classical.not_not.1 hq)).1.1;omega) (fun q=>by
   by_cases ho:bM S1 q.block
   ·exact .inr (h.ap _ ho)
   ·exact .inl ho) (fun q hq ho=>by have:=(q1.out ho).1.2;omega) (fun q hq ho=>by have:=(q2.out ho).1.2;omega) hk).mono ?_
 rintro e w' ⟨rfl,ha,m1,m2⟩
 refine ⟨rfl,ha.mono fun q _ hq=> ?_,⟨_,rfl,⟨_,_,rfl,⟨rfl,h.ks⟩,_,_,rfl,rfl,_,_,rfl,rfl,_,_,rfl,R.less m1 fun _ h=>h.elim,_,_,rfl,⟨rfl,h.ct⟩,_,_,rfl,R.less m2 fun _ h=>h.elim,rfl⟩⟩⟩
 rcases hq with hq|hq
 ·exact (q1.out (Classical.not_not.1 hq)).1
 ·exact (q2.out (Classical.not_not.1 hq)).1
end
end
section
open Go.RowKit Go
variable [GC]
set_option maxHeartbeats 4000000 in
theorem Wy:wX 0:=by
 intro K N w S1 S2 p x h hx hp hc hk ho
 have hK:=h.kn
 have HF:=eE.refl K w
 have HN: ∀i,N i->N i:=fun i hi=>hi
 have H:=h
 refine pT (E:=[(0,.agg (aF p S1 S2)),(1,.int .i64 ((0:Nat):Int)),(2,cm x)]) Tryz.func32 rfl Tryz.ntmps32 (by simp) (by simp) ?_
 clear h
 refine CW.seq (CW.region ?_)
 refine WL.vv rfl rfl (ju rfl rfl) (by decide) ?_
 obtain ⟨w1,JB,tr,jc,Ah,H',ax,Qq⟩:=H.alloc 37 (aF p S1 S2)
 change WL _ _ _ _ _ _ (w.alloc (.cells (aF p S1 S2) 37))
 rw [<-tr]
 clear tr
 replace H:=H'
 clear H'
 replace HF:=HF.bT jc
 replace HN:=fun i hi=>Ah i (HN i hi)
 have Hu:=jc.size
 refine WL.vv rfl rfl (ju rfl rfl) (by decide) ?_
 have Ol:=ax.lt
 obtain ⟨w2,JC,tu,oT,tF,H',az,Qr⟩:=H.alloc 43 #[.string x.method,.string x.key,.int .i64 x.val,.string x.text]
 change WL _ _ _ _ _ _ (w1.alloc (.cells #[.string x.method,.string x.key,.int .i64 x.val,.string x.text] 43))
 rw [<-tu]
 clear tu
 replace H:=H'
 clear H'
 replace HF:=HF.bT oT
 replace ax:=(ax.below oT).more tF
 replace HN:=fun i hi=>tF i (HN i hi)
 have DY:=oT.size
 refine WL.vv rfl rfl (bp rfl dH) (by decide) ?_
 have Om:=ax.lt
 have Oo:=az.lt
 obtain ⟨w3,JE,tv,mD,oQ,H',aq,Qs⟩:=H.alloc 37 aH
 change WL _ _ _ _ _ _ (w2.alloc (.cells aH 37))
 rw [<-tv]
 clear tv
 replace H:=H'
 clear H'
 replace HF:=HF.bT mD
 replace ax:=(ax.below mD).more oQ
 replace az:=(az.below mD).more oQ
 replace HN:=fun i hi=>oQ i (HN i hi)
 have DZ:=mD.size
 refine WL.vv rfl rfl (bp rfl dr) (by decide) ?_
 have Oq:=ax.lt
 have Ot:=az.lt
 have Ou:=aq.lt
 obtain ⟨w4,sr,tw,fU,iE,H',aw,Qt⟩:=H.alloc 39 aC
 change WL _ _ _ _ _ _ (w3.alloc (.cells aC 39))
 rw [<-tw]
 clear tw
 replace H:=H'
 clear H'
 replace HF:=HF.bT fU
 replace ax:=(ax.below fU).more iE
 replace az:=(az.below fU).more iE
 replace aq:=(aq.below fU).more iE
 replace HN:=fun i hi=>iE i (HN i hi)
 have Hy:=fU.size
 refine WL.nil (NX.next ?_)
 refine CW.sub (E':=[(1,.int .i64 (((0:Nat):Int):Int)),(3,.pointer (some ⟨w.heap.size,0,none⟩)),(5,.pointer (some ⟨w1.heap.size,0,none⟩)),(6,.pointer (some ⟨w2.heap.size,0,none⟩)),(7,.pointer (some ⟨w3.heap.size,0,none⟩))]) ⟨rfl,rfl,rfl,rfl,rfl,trivial⟩ ?_
 refine CW.seq (CW.seq (CW.region ?_))
 refine WL.vv rfl rfl (bf rfl rfl) (by decide) ?_
 refine WL.vv rfl rfl (gQ (b:=true) rfl rfl rfl rfl rfl) (by decide) ?_
 refine WL.nil (NX.next (CW.yes rfl ?_))
 refine CW.sub (E':=[(3,.pointer (some ⟨w.heap.size,0,none⟩)),(5,.pointer (some ⟨w1.heap.size,0,none⟩)),(6,.pointer (some ⟨w2.heap.size,0,none⟩)),(7,.pointer (some ⟨w3.heap.size,0,none⟩))]) ⟨rfl,rfl,rfl,rfl,trivial⟩ ?_
 refine CW.seq (CW.region ?_)
 refine WL.vv rfl rfl (cY rfl rfl Dc) (by decide) ?_
 refine WL.vv rfl rfl (Po (cs:=[.string p.core.kind,.bool p.core.on,.bool p.core.broken,S1,.int .i64 p.core.count]) rfl rfl Tryz.underlying34 rfl ax.bl Bg (fun j hj=>by match j,hj with|0,_=>rfl|1,_=>rfl|2,_=>rfl|3,_=>rfl|4,_=>rfl)) (by decide) ?_
 refine WL.vv rfl rfl (bh rfl rfl Tryz.underlying43 rfl az.bl kG) (by decide) ?_
 refine WL.c rfl rfl (bu (args:= #[.agg #[.string p.core.kind,.bool p.core.on,.bool p.core.broken,S1,.int .i64 p.core.count],.agg #[.string x.method,.string x.key,.int .i64 x.val,.string x.text]]) (by kernel_rfl) rfl rfl rfl) (by decide) (ahW H x hx hp hc ho) ?_
 rintro _ w5 ⟨U,rfl,H',hbc⟩
 refine ⟨_,rfl,?_⟩
 clear H
 have H:=H'
 clear H'
 replace HF:=HF.bT hbc
 replace ax:=ax.below hbc
 replace az:=az.below hbc
 replace aq:=aq.below hbc
 replace aw:=aw.below hbc
 have ajq:=hbc.size
 refine WL.vv rfl rfl (bf rfl rfl) (by decide) ?_
 refine WL.vv rfl rfl (cJ rfl rfl rfl) (by decide) ?_
 refine WL.vv rfl rfl (cJ rfl rfl rfl) (by decide) ?_
 refine WL.vv rfl rfl (bp rfl Zi) (by decide) ?_
 have aau:=ax.lt
 have aav:=az.lt
 have aaw:=aq.lt
 have aax:=aw.lt
 obtain ⟨w6,Tp,z8,nA,oR,H',eF,adh⟩:=H.alloc 34 Jk
 change WL _ _ _ _ _ _ (w5.alloc (.cells Jk 34))
 rw [<-z8]
 clear z8
 replace H:=H'
 clear H'
 replace HF:=HF.bT nA
 replace ax:=(ax.below nA).more oR
 replace az:=(az.below nA).more oR
 replace aq:=(aq.below nA).more oR
 replace aw:=(aw.below nA).more oR
 replace HN:=fun i hi=>oR i (HN i hi)
 have Hz:=nA.size
 refine WL.vv rfl rfl (bp rfl dr) (by decide) ?_
 have aay:=ax.lt
 have aaz:=az.lt
 have aaA:=aq.lt
 have aaB:=aw.lt
 have aaC:=eF.lt
 obtain ⟨w7,JF,Aa,gH,ni,H',eX,adi⟩:=H.alloc 39 aC
 change WL _ _ _ _ _ _ (w6.alloc (.cells aC 39))
 rw [<-Aa]
 clear Aa
 replace H:=H'
 clear H'
 replace HF:=HF.bT gH
 replace ax:=(ax.below gH).more ni
 replace az:=(az.below gH).more ni
 replace aq:=(aq.below gH).more ni
 replace aw:=(aw.below gH).more ni
 replace eF:=(eF.below gH).more ni
 replace HN:=fun i hi=>ni i (HN i hi)
 have HE:=gH.size
 refine WL.st rfl rfl rfl rfl rfl eF.bl rfl H.OO Bg fun wa zD gT=> ?_
 replace H:=H.one gT eF.n eF.k eF.g
 replace HF:=HF.one gT (.inr (by omega))
 replace ax:=ax.other gT (by omega)
 replace az:=az.other gT (by omega)
 replace aq:=aq.other gT (by omega)
 replace aw:=aw.other gT (by omega)
 replace eX:=eX.other gT (by omega)
 replace eF:=eF.put zD
 have Oa:=Nat.le_of_eq gT.size.symm
 refine WL.st rfl rfl rfl rfl rfl eX.bl rfl (da _) aZ fun wb zE gU=> ?_
 replace H:=H.one gU eX.n eX.k eX.g
 replace HF:=HF.one gU (.inr (by omega))
 replace ax:=ax.other gU (by omega)
 replace az:=az.other gU (by omega)
 replace aq:=aq.other gU (by omega)
 replace aw:=aw.other gU (by omega)
 replace eF:=eF.other gU (by omega)
 replace eX:=eX.put zE
 have Ob:=Nat.le_of_eq gU.size.symm
 refine WL.nil (NX.next ?_)
 refine CW.sub (E':=[(3,.pointer (some ⟨w.heap.size,0,none⟩)),(6,.pointer (some ⟨w2.heap.size,0,none⟩)),(7,.pointer (some ⟨w3.heap.size,0,none⟩)),(8,.pointer (some ⟨w5.heap.size,0,none⟩)),(9,.pointer (some ⟨w6.heap.size,0,none⟩))]) ⟨rfl,rfl,rfl,rfl,rfl,trivial⟩ ?_
 refine CW.seq (CW.region ?_)
 refine WL.vv rfl rfl (bh rfl rfl Tryz.underlying34 rfl eF.bl Bg) (by decide) ?_
 refine WL.vv rfl rfl (cY rfl rfl Dc) (by decide) ?_
 refine WL.stQ rfl rfl rfl rfl rfl ax.bl (show 5<=6 by decide) H.OO Bg fun we E3 sX=> ?_
 replace E3:ai we (w.heap.size) 37 (aF (⟨(bL p.core x).1,p.af⟩:Part) U S2):=E3
 replace H:=H.one sX ax.n ax.k ax.g
 replace HF:=HF.one sX (.inr (by omega))
 replace az:=az.other sX (by omega)
 replace aq:=aq.other sX (by omega)
 replace aw:=aw.other sX (by omega)
 replace eF:=eF.other sX (by omega)
 replace eX:=eX.other sX (by omega)
 replace ax:=ax.put E3
 have akx:=Nat.le_of_eq sX.size.symm
 refine WL.nil (NX.next ?_)
 refine CW.sub (E':=[(3,.pointer (some ⟨w.heap.size,0,none⟩)),(6,.pointer (some ⟨w2.heap.size,0,none⟩)),(7,.pointer (some ⟨w3.heap.size,0,none⟩)),(9,.pointer (some ⟨w6.heap.size,0,none⟩))]) ⟨rfl,rfl,rfl,rfl,trivial⟩ ?_
 refine CW.seq (CW.any (fun W=>ai W w.heap.size 37 (aF (⟨(bL p.core x).1,p.af⟩:Part) U S2)/\ai W w6.heap.size 39 (cK (bL p.core x).2)) 3 mo fun w8 hwd iQ=> ?_)
 replace H:=H.below iQ
 replace HF:=HF.bT iQ
 replace ax:=ax.below iQ
 replace az:=az.below iQ
 replace aq:=aq.below iQ
 replace aw:=aw.below iQ
 replace eF:=eF.below iQ
 replace eX:=eX.below iQ
 have aac:=iQ.size
 clear hwd
 refine ⟨⟨ax.bl,eX.bl⟩,?_⟩
 refine AU.tk 0 rfl (by kernel_rfl) (fun _ _ _ h=>h) rfl rfl (fun W hW=>bh rfl rfl Tryz.underlying37 rfl hW.1 aY) (by decide) ⟨ax.bl,eX.bl⟩ ?_
 refine AU.tk 1 rfl (by kernel_rfl) (fun _ _ _ h=>h) rfl rfl (fun W hW=>bh rfl rfl Tryz.underlying39 rfl hW.2 aZ) (by decide) ⟨ax.bl,eX.bl⟩ ?_
 refine AU.st 2 rfl (by kernel_rfl) rfl rfl rfl rfl rfl aq.bl rfl H.gz aY (fun w' ho _=>⟨(ho.block _ (by omega)).trans ax.bl,(ho.block _ (by omega)).trans eX.bl⟩) fun w9 E0 ku=> ?_
 replace H:=H.one ku aq.n aq.k aq.g
 replace HF:=HF.one ku (.inr (by omega))
 replace ax:=ax.other ku (by omega)
 replace az:=az.other ku (by omega)
 replace aw:=aw.other ku (by omega)
 replace eF:=eF.other ku (by omega)
 replace eX:=eX.other ku (by omega)
 replace aq:=aq.put E0
 have HL:=Nat.le_of_eq ku.size.symm
 refine AU.st 3 rfl (by kernel_rfl) rfl rfl rfl rfl rfl aw.bl rfl (da _) aZ (fun _ _ h=>absurd rfl h) fun Ca EX kq=> ?_
 replace H:=H.one kq aw.n aw.k aw.g
 replace HF:=HF.one kq (.inr (by omega))
 replace ax:=ax.other kq (by omega)
 replace az:=az.other kq (by omega)
 replace aq:=aq.other kq (by omega)
 replace eF:=eF.other kq (by omega)
 replace eX:=eX.other kq (by omega)
 replace aw:=aw.put EX
 have Hv:=Nat.le_of_eq kq.size.symm
 refine AU.done (by kernel_rfl) (NX.next (CW.ret ?_))
 exact NX.ret (NX.oK rfl rfl rfl aq.bl aw.bl Tryz.underlying37 Tryz.underlying39 rfl rfl aY aZ (wV.mk (q:=(⟨(bL p.core x).1,p.af⟩:Part)) rfl (rfl) H HN hK HF))
set_option maxHeartbeats 4000000 in
theorem Wx{k:Nat}(OW:JH k)(IH:wX k):wX (k+1):=by
 intro K N w S1 S2 p x h hx hp hc hk ho
 obtain ⟨b,o,cap,rfl⟩:=h.slot (k:=k) (by omega)
 have MU:=(nH.1 hp).2.1
 have hw:cP .sub .i64 ((k+1:Nat):Int) 1=(k:Int):=by rw [kA (by omega) (by omega)];omega
 have hK:=h.kn
 have HF:=eE.refl K w
 have HN: ∀i,N i->N i:=fun i hi=>hi
 have H:=h
 refine pT (E:=[(0,.agg (aF p S1 (.slice (some ⟨b,o,none⟩) p.af.length cap))),(1,.int .i64 ((k+1:Nat):Int)),(2,cm x)]) Tryz.func32 rfl Tryz.ntmps32 (by simp) (by simp) ?_
 clear h
 refine CW.seq (CW.region ?_)
 refine WL.vv rfl rfl (ju rfl rfl) (by decide) ?_
 obtain ⟨w1,JB,tr,jc,Ah,H',ax,Qq⟩:=H.alloc 37 (aF p S1 (.slice (some ⟨b,o,none⟩) p.af.length cap))
 change WL _ _ _ _ _ _ (w.alloc (.cells (aF p S1 (.slice (some ⟨b,o,none⟩) p.af.length cap)) 37))
 rw [<-tr]
 clear tr
 replace H:=H'
 clear H'
 replace HF:=HF.bT jc
 replace HN:=fun i hi=>Ah i (HN i hi)
 have Hu:=jc.size
 refine WL.vv rfl rfl (ju rfl rfl) (by decide) ?_
 have Ol:=ax.lt
 obtain ⟨w2,JC,tu,oT,tF,H',az,Qr⟩:=H.alloc 43 #[.string x.method,.string x.key,.int .i64 x.val,.string x.text]
 change WL _ _ _ _ _ _ (w1.alloc (.cells #[.string x.method,.string x.key,.int .i64 x.val,.string x.text] 43))
 rw [<-tu]
 clear tu
 replace H:=H'
 clear H'
 replace HF:=HF.bT oT
 replace ax:=(ax.below oT).more tF
 replace HN:=fun i hi=>tF i (HN i hi)
 have DY:=oT.size
 refine WL.vv rfl rfl (bp rfl dH) (by decide) ?_
 have Om:=ax.lt
 have Oo:=az.lt
 obtain ⟨w3,JE,tv,mD,oQ,H',aq,Qs⟩:=H.alloc 37 aH
 change WL _ _ _ _ _ _ (w2.alloc (.cells aH 37))
 rw [<-tv]
 clear tv
 replace H:=H'
 clear H'
 replace HF:=HF.bT mD
 replace ax:=(ax.below mD).more oQ
 replace az:=(az.below mD).more oQ
 replace HN:=fun i hi=>oQ i (HN i hi)
 have DZ:=mD.size
 refine WL.vv rfl rfl (bp rfl dr) (by decide) ?_
 have Oq:=ax.lt
 have Ot:=az.lt
 have Ou:=aq.lt
 obtain ⟨w4,sr,tw,fU,iE,H',aw,Qt⟩:=H.alloc 39 aC
 change WL _ _ _ _ _ _ (w3.alloc (.cells aC 39))
 rw [<-tw]
 clear tw
 replace H:=H'
 clear H'
 replace HF:=HF.bT fU
 replace ax:=(ax.below fU).more iE
 replace az:=(az.below fU).more iE
 replace aq:=(aq.below fU).more iE
 replace HN:=fun i hi=>iE i (HN i hi)
 have Hy:=fU.size
 refine WL.nil (NX.next ?_)
 refine CW.sub (E':=[(1,.int .i64 (((k+1:Nat):Int):Int)),(3,.pointer (some ⟨w.heap.size,0,none⟩)),(5,.pointer (some ⟨w1.heap.size,0,none⟩)),(6,.pointer (some ⟨w2.heap.size,0,none⟩)),(7,.pointer (some ⟨w3.heap.size,0,none⟩))]) ⟨rfl,rfl,rfl,rfl,rfl,trivial⟩ ?_
 refine CW.seq (CW.seq (CW.region ?_))
 refine WL.vv rfl rfl (bf rfl rfl) (by decide) ?_
 refine WL.vv rfl rfl (gQ (b:=false) rfl rfl rfl rfl (by simp [bb];omega)) (by decide) ?_
 refine WL.nil (NX.next (CW.no rfl (CW.skip (NX.next ?_))))
 refine CW.sub (E':=[(1,.int .i64 (((k+1:Nat):Int):Int)),(3,.pointer (some ⟨w.heap.size,0,none⟩)),(5,.pointer (some ⟨w1.heap.size,0,none⟩)),(6,.pointer (some ⟨w2.heap.size,0,none⟩)),(7,.pointer (some ⟨w3.heap.size,0,none⟩))]) ⟨rfl,rfl,rfl,rfl,rfl,trivial⟩ ?_
 refine CW.seq (CW.region ?_)
 refine WL.vv rfl rfl (bh rfl rfl Tryz.underlying37 rfl ax.bl aY) (by decide) ?_
 refine WL.vv rfl rfl (bf rfl rfl) (by decide) ?_
 refine WL.vv rfl rfl (bh rfl rfl Tryz.underlying43 rfl az.bl kG) (by decide) ?_
 refine WL.c rfl rfl (bu (args:= #[.agg (aF p S1 (.slice (some ⟨b,o,none⟩) p.af.length cap)),.int .i64 ((k+1:Nat):Int),.agg #[.string x.method,.string x.key,.int .i64 x.val,.string x.text]]) (by kernel_rfl) rfl rfl rfl) (by decide) (OW K sr _ _ _ p x H hx hp hc hk ho) ?_
 rintro _ w5 ⟨U,q,r,own,rfl,H',hfc,ht,hf⟩
 refine ⟨_,rfl,?_⟩
 replace HF:=HF.mQ hfc
 replace ax:=ax.bY hfc
 replace az:=az.bY hfc
 replace aq:=aq.bY hfc
 replace aw:=aw.bY hfc
 have ajM:=hfc.size
 cases own
 case false =>
  obtain ⟨hq,he,lS⟩:=hf rfl
  subst hq
  have hone:=H'.gz
  replace H:=H.back hfc H'
  clear H'
  refine WL.vv rfl rfl (bf rfl rfl) (by decide) ?_
  refine WL.vv rfl rfl (cJ rfl rfl rfl) (by decide) ?_
  refine WL.vv rfl rfl (cJ rfl rfl rfl) (by decide) ?_
  refine WL.vv rfl rfl (cJ rfl rfl rfl) (by decide) ?_
  refine WL.vv rfl rfl (bp rfl dH) (by decide) ?_
  have aau:=ax.lt
  have aav:=az.lt
  have aaw:=aq.lt
  have aax:=aw.lt
  obtain ⟨w6,Tp,z8,nA,oR,H',eF,adh⟩:=H.alloc 37 aH
  change WL _ _ _ _ _ _ (w5.alloc (.cells aH 37))
  rw [<-z8]
  clear z8
  replace H:=H'
  clear H'
  replace HF:=HF.bT nA
  replace ax:=(ax.below nA).more oR
  replace az:=(az.below nA).more oR
  replace aq:=(aq.below nA).more oR
  replace aw:=(aw.below nA).more oR
  replace HN:=fun i hi=>oR i (HN i hi)
  have Hz:=nA.size
  refine WL.vv rfl rfl (bp rfl dr) (by decide) ?_
  have aay:=ax.lt
  have aaz:=az.lt
  have aaA:=aq.lt
  have aaB:=aw.lt
  have aaC:=eF.lt
  obtain ⟨w7,JF,Aa,gH,ni,H',eX,adi⟩:=H.alloc 39 aC
  change WL _ _ _ _ _ _ (w6.alloc (.cells aC 39))
  rw [<-Aa]
  clear Aa
  replace H:=H'
  clear H'
  replace HF:=HF.bT gH
  replace ax:=(ax.below gH).more ni
  replace az:=(az.below gH).more ni
  replace aq:=(aq.below gH).more ni
  replace aw:=(aw.below gH).more ni
  replace eF:=(eF.below gH).more ni
  replace HN:=fun i hi=>ni i (HN i hi)
  have HE:=gH.size
  refine WL.st rfl rfl rfl rfl rfl eF.bl rfl hone aY fun wa zD gT=> ?_
  replace H:=H.one gT eF.n eF.k eF.g
  replace HF:=HF.one gT (.inr (by omega))
  replace ax:=ax.other gT (by omega)
  replace az:=az.other gT (by omega)
  replace aq:=aq.other gT (by omega)
  replace aw:=aw.other gT (by omega)
  replace eX:=eX.other gT (by omega)
  replace eF:=eF.put zD
  have Oa:=Nat.le_of_eq gT.size.symm
  refine WL.st rfl rfl rfl rfl rfl eX.bl rfl (da _) aZ fun wb zE gU=> ?_
  replace H:=H.one gU eX.n eX.k eX.g
  replace HF:=HF.one gU (.inr (by omega))
  replace ax:=ax.other gU (by omega)
  replace az:=az.other gU (by omega)
  replace aq:=aq.other gU (by omega)
  replace aw:=aw.other gU (by omega)
  replace eF:=eF.other gU (by omega)
  replace eX:=eX.put zE
  have Ob:=Nat.le_of_eq gU.size.symm
  refine WL.vv rfl rfl (cO rfl rfl) (by decide) ?_
  refine WL.nil (NX.next ?_)
  refine CW.sub (E':=[(1,.int .i64 (((k+1:Nat):Int):Int)),(3,.pointer (some ⟨w.heap.size,0,none⟩)),(5,.pointer (some ⟨w1.heap.size,0,none⟩)),(6,.pointer (some ⟨w2.heap.size,0,none⟩)),(7,.pointer (some ⟨w3.heap.size,0,none⟩)),(10,.pointer (some ⟨w5.heap.size,0,none⟩)),(11,.pointer (some ⟨w6.heap.size,0,none⟩)),(12,.bool false)]) ⟨rfl,rfl,rfl,rfl,rfl,rfl,rfl,rfl,trivial⟩ ?_
  refine CW.seq (CW.seq (CW.region ?_))
  refine WL.vv rfl rfl (bf rfl rfl) (by decide) ?_
  refine WL.nil (NX.next (CW.no rfl (CW.skip (NX.next ?_))))
  refine CW.sub (E':=[(1,.int .i64 (((k+1:Nat):Int):Int)),(3,.pointer (some ⟨w.heap.size,0,none⟩)),(5,.pointer (some ⟨w1.heap.size,0,none⟩)),(6,.pointer (some ⟨w2.heap.size,0,none⟩)),(7,.pointer (some ⟨w3.heap.size,0,none⟩))]) ⟨rfl,rfl,rfl,rfl,rfl,trivial⟩ ?_
  refine CW.seq (CW.region ?_)
  refine WL.vv rfl rfl (bh rfl rfl Tryz.underlying37 rfl ax.bl aY) (by decide) ?_
  refine WL.vv rfl rfl (bf rfl rfl) (by decide) ?_
  refine WL.vv rfl rfl (iI rfl rfl rfl rfl hw) (by decide) ?_
  refine WL.vv rfl rfl (bh rfl rfl Tryz.underlying43 rfl az.bl kG) (by decide) ?_
  refine WL.c rfl rfl (bu (args:= #[.agg (aF q S1 (.slice (some ⟨b,o,none⟩) q.af.length cap)),.int .i64 (k:Int),.agg #[.string x.method,.string x.key,.int .i64 x.val,.string x.text]]) (by kernel_rfl) rfl rfl rfl) (by decide) (IH K JF _ _ _ q x H hx hp hc (by omega) lS) ?_
  rintro _ w8 ⟨E6,rfl,H',lP⟩
  refine ⟨_,rfl,?_⟩
  replace H:=H'
  clear H'
  replace HF:=HF.mQ lP
  replace ax:=ax.bY lP
  replace az:=az.bY lP
  replace aq:=aq.bY lP
  replace aw:=aw.bY lP
  replace eF:=eF.bY lP
  replace eX:=eX.bY lP
  have N9:=lP.size
  refine WL.vv rfl rfl (cJ rfl rfl rfl) (by decide) ?_
  refine WL.vv rfl rfl (cJ rfl rfl rfl) (by decide) ?_
  refine WL.st rfl rfl rfl rfl rfl aq.bl rfl H.gz aY fun w9 E0 ku=> ?_
  replace H:=H.one ku aq.n aq.k aq.g
  replace HF:=HF.one ku (.inr (by omega))
  replace ax:=ax.other ku (by omega)
  replace az:=az.other ku (by omega)
  replace aw:=aw.other ku (by omega)
  replace eF:=eF.other ku (by omega)
  replace eX:=eX.other ku (by omega)
  replace aq:=aq.put E0
  have HL:=Nat.le_of_eq ku.size.symm
  refine WL.st rfl rfl rfl rfl rfl aw.bl rfl (da _) aZ fun Ca EX kq=> ?_
  replace H:=H.one kq aw.n aw.k aw.g
  replace HF:=HF.one kq (.inr (by omega))
  replace ax:=ax.other kq (by omega)
  replace az:=az.other kq (by omega)
  replace aq:=aq.other kq (by omega)
  replace eF:=eF.other kq (by omega)
  replace eX:=eX.other kq (by omega)
  replace aw:=aw.put EX
  have Hv:=Nat.le_of_eq kq.size.symm
  refine WL.nil (NX.next (CW.ret ?_))
  exact NX.oK rfl rfl rfl aq.bl aw.bl Tryz.underlying37 Tryz.underlying39 rfl rfl aY aZ (wV.mk (q:=(aA k q x).1) rfl (he) H HN hK HF)
 case true =>
  clear H
  have H:=H'
  have hone:=H.gz
  clear H'
  refine WL.vv rfl rfl (bf rfl rfl) (by decide) ?_
  refine WL.vv rfl rfl (cJ rfl rfl rfl) (by decide) ?_
  refine WL.vv rfl rfl (cJ rfl rfl rfl) (by decide) ?_
  refine WL.vv rfl rfl (cJ rfl rfl rfl) (by decide) ?_
  refine WL.vv rfl rfl (bp rfl dH) (by decide) ?_
  have akD:=ax.lt
  have akE:=az.lt
  have akF:=aq.lt
  have akG:=aw.lt
  obtain ⟨rT,aie,K4,jH,Ai,H',iW,alG⟩:=H.alloc 37 aH
  change WL _ _ _ _ _ _ (w5.alloc (.cells aH 37))
  rw [<-K4]
  clear K4
  replace H:=H'
  clear H'
  replace HF:=HF.bT jH
  replace ax:=(ax.below jH).more Ai
  replace az:=(az.below jH).more Ai
  replace aq:=(aq.below jH).more Ai
  replace aw:=(aw.below jH).more Ai
  replace HN:=fun i hi=>Ai i (HN i hi)
  have NZ:=jH.size
  refine WL.vv rfl rfl (bp rfl dr) (by decide) ?_
  have akH:=ax.lt
  have akJ:=az.lt
  have akK:=aq.lt
  have akL:=aw.lt
  have akI:=iW.lt
  obtain ⟨Jc,aif,K5,jm,xZ,H',jT,alH⟩:=H.alloc 39 aC
  change WL _ _ _ _ _ _ (rT.alloc (.cells aC 39))
  rw [<-K5]
  clear K5
  replace H:=H'
  clear H'
  replace HF:=HF.bT jm
  replace ax:=(ax.below jm).more xZ
  replace az:=(az.below jm).more xZ
  replace aq:=(aq.below jm).more xZ
  replace aw:=(aw.below jm).more xZ
  replace iW:=(iW.below jm).more xZ
  replace HN:=fun i hi=>xZ i (HN i hi)
  have N7:=jm.size
  refine WL.st rfl rfl rfl rfl rfl iW.bl rfl hone aY fun wa zD gT=> ?_
  replace H:=H.one gT iW.n iW.k iW.g
  replace HF:=HF.one gT (.inr (by omega))
  replace ax:=ax.other gT (by omega)
  replace az:=az.other gT (by omega)
  replace aq:=aq.other gT (by omega)
  replace aw:=aw.other gT (by omega)
  replace jT:=jT.other gT (by omega)
  replace iW:=iW.put zD
  have Oa:=Nat.le_of_eq gT.size.symm
  refine WL.st rfl rfl rfl rfl rfl jT.bl rfl (da _) aZ fun wb zE gU=> ?_
  replace H:=H.one gU jT.n jT.k jT.g
  replace HF:=HF.one gU (.inr (by omega))
  replace ax:=ax.other gU (by omega)
  replace az:=az.other gU (by omega)
  replace aq:=aq.other gU (by omega)
  replace aw:=aw.other gU (by omega)
  replace iW:=iW.other gU (by omega)
  replace jT:=jT.put zE
  have Ob:=Nat.le_of_eq gU.size.symm
  refine WL.vv rfl rfl (cO rfl rfl) (by decide) ?_
  refine WL.nil (NX.next ?_)
  refine CW.sub (E':=[(1,.int .i64 (((k+1:Nat):Int):Int)),(3,.pointer (some ⟨w.heap.size,0,none⟩)),(5,.pointer (some ⟨w1.heap.size,0,none⟩)),(6,.pointer (some ⟨w2.heap.size,0,none⟩)),(7,.pointer (some ⟨w3.heap.size,0,none⟩)),(10,.pointer (some ⟨w5.heap.size,0,none⟩)),(11,.pointer (some ⟨rT.heap.size,0,none⟩)),(12,.bool true)]) ⟨rfl,rfl,rfl,rfl,rfl,rfl,rfl,rfl,trivial⟩ ?_
  refine CW.seq (CW.seq (CW.region ?_))
  refine WL.vv rfl rfl (bf rfl rfl) (by decide) ?_
  refine WL.nil (NX.next (CW.yes rfl ?_))
  refine CW.sub (E':=[(6,.pointer (some ⟨w2.heap.size,0,none⟩)),(7,.pointer (some ⟨w3.heap.size,0,none⟩)),(10,.pointer (some ⟨w5.heap.size,0,none⟩)),(11,.pointer (some ⟨rT.heap.size,0,none⟩))]) ⟨rfl,rfl,rfl,rfl,trivial⟩ ?_
  refine CW.seq (CW.any (fun W=>ai W w5.heap.size 37 (aF q U (.slice (some ⟨b,o,none⟩) p.af.length cap))/\ai W rT.heap.size 39 (cK r)) 3 mo fun Jd hwd fA=> ?_)
  replace H:=H.below fA
  replace HF:=HF.bT fA
  replace ax:=ax.below fA
  replace az:=az.below fA
  replace aq:=aq.below fA
  replace aw:=aw.below fA
  replace iW:=iW.below fA
  replace jT:=jT.below fA
  have NY:=fA.size
  clear hwd
  refine ⟨⟨iW.bl,jT.bl⟩,?_⟩
  refine AU.tk 0 rfl (by kernel_rfl) (fun _ _ _ h=>h) rfl rfl (fun W hW=>bh rfl rfl Tryz.underlying37 rfl hW.1 aY) (by decide) ⟨iW.bl,jT.bl⟩ ?_
  refine AU.tk 1 rfl (by kernel_rfl) (fun _ _ _ h=>h) rfl rfl (fun W hW=>bh rfl rfl Tryz.underlying39 rfl hW.2 aZ) (by decide) ⟨iW.bl,jT.bl⟩ ?_
  refine AU.st 2 rfl (by kernel_rfl) rfl rfl rfl rfl rfl aq.bl rfl H.gz aY (fun w' ho _=>⟨(ho.block _ (by omega)).trans iW.bl,(ho.block _ (by omega)).trans jT.bl⟩) fun zr EY kN=> ?_
  replace H:=H.one kN aq.n aq.k aq.g
  replace HF:=HF.one kN (.inr (by omega))
  replace ax:=ax.other kN (by omega)
  replace az:=az.other kN (by omega)
  replace aw:=aw.other kN (by omega)
  replace iW:=iW.other kN (by omega)
  replace jT:=jT.other kN (by omega)
  replace aq:=aq.put EY
  have N8:=Nat.le_of_eq kN.size.symm
  refine AU.st 3 rfl (by kernel_rfl) rfl rfl rfl rfl rfl aw.bl rfl (da _) aZ (fun _ _ h=>absurd rfl h) fun EI EZ kO=> ?_
  replace H:=H.one kO aw.n aw.k aw.g
  replace HF:=HF.one kO (.inr (by omega))
  replace ax:=ax.other kO (by omega)
  replace az:=az.other kO (by omega)
  replace aq:=aq.other kO (by omega)
  replace iW:=iW.other kO (by omega)
  replace jT:=jT.other kO (by omega)
  replace aw:=aw.put EZ
  have Hw:=Nat.le_of_eq kO.size.symm
  refine AU.done (by kernel_rfl) (NX.next (CW.ret ?_))
  exact NX.ret (NX.oK rfl rfl rfl aq.bl aw.bl Tryz.underlying37 Tryz.underlying39 rfl rfl aY aZ (wV.mk (q:=q) rfl (ht rfl) H HN hK HF))
theorem FD: ∀k,wX k
 | 0=>Wy
 | k+1=>Wx (abn (FD k)) (FD k)
end
section
open Go.RowKit Go
variable [GC]
theorem cB.own{K:Nat->Prop}{w:World}{g:Nat}{S:Value}{l:List (ByteArray×Int)}(h:cB K w g S l):cB (fun b=>bM S b) w g S l:=by
 obtain ⟨a,cap,rfl,h1,h2,h3,h4,h5⟩:=h
 refine ⟨a,cap,rfl,h1,h2,h3,h4,fun b o s e hc=> ?_⟩
 obtain ⟨q1,q2,q3,q4⟩:=h5 b o s e hc
 exact ⟨q1,⟨o,s,_,cap,by rw [e],hc⟩,q3,q4⟩
theorem PV.made{wa w6:World}{g:Nat}{p:Part}{S1 S2:Value}(H6:PB (fun b=>wa.heap.size<=b/\b<w6.heap.size) w6 g S2 p)(k1:cB (fun b=>wa.heap.size<=b/\b<w6.heap.size) w6 g S1 (dc p.core.cells))(ha: ∀b,bM S1 b-> ¬bM S2 b)(hw:wa.heap.size<=w6.heap.size) :
  PV (fun b=>bM S2 b) (fun b=>b<wa.heap.size\/bM S2 b\/b=g) w6 S1 S2 p:=by
 have hg:=H6.uY
 refine ⟨H6.gi,fun b hb=>(H6.kb b (H6.ly.out hb).1).1,fun b hb=> .inr (.inl hb),fun b hb=> ?_,?_,⟨g,H6.ly.own⟩,H6.ks,H6.ct⟩
 ·rcases hb with hb|hb|rfl
  ·omega
  ·exact (H6.ly.out hb).1.2
  ·exact hg
 ·show R w6 _ (.sl (p.core.cells.map bC.cells)) S1
  rw [<-vZ]
  refine k1.rd fun b o cap i e hk hi hq=> ?_
  have eS:bM S1 b:=by
   obtain ⟨a',cap',e',z1,_⟩:=k1
   rw [e] at e'
   simp only [Value.slice.injEq] at e'
   exact ⟨o,none,_,cap,e,by have:=e'.2.2;omega⟩
  rcases hq with hq|hq|hq
  ·have:=(k1.out eS).1.1;simp only at hq;omega
  ·exact ha b eS hq
  ·exact (k1.out eS).2.1 hq
theorem CK{K N:Nat->Prop}{w wk:World}{M:Addr->Prop}{S1 S2:Value}{q:Part}{r:dW}{e:Ending}(hM:jU w M)(H:PV K N wk S1 S2 q)(hK: ∀b,K b->w.heap.size<=b)(hN: ∀b,b<w.heap.size->N b)(hF:eE K w wk)(he:e= .returned (.tuple #[.agg (aF q S1 S2),.agg (cK r)]))(hr:R wk M (enc r) (rO r)) :
  ∃v,e= .returned v/\R wk M (.aE [enc q,enc r]) v/\Below w.heap.size w wk:=by
 subst he
 obtain ⟨g,hl⟩:=H.ly
 have c1:R wk M (bg q.core.cells) S1:=R.less H.cs fun a ha=>hN _ (hM.1 a ha)
 have c2:R wk M (.sl ((fX q.af).map j7)) S2:=hl.rd fun b o cap i _ hk _ hq=>by have:=hM.1 _ hq;have:=hK b hk;simp only at *;omega
 rw [BA] at c2
 exact ⟨_,rfl,⟨_,rfl,⟨_,_,rfl,⟨_,rfl,⟨_,_,rfl,⟨rfl,H.ks⟩,_,_,rfl,rfl,_,_,rfl,rfl,_,_,rfl,c1,_,_,rfl,⟨rfl,H.ct⟩,_,_,rfl,c2,rfl⟩⟩,_,_,rfl,hr,rfl⟩⟩,hF.lF (Nat.le_refl _) hK⟩
set_option maxHeartbeats 8000000 in
theorem Vt(p:Part)(x:Call)(hc:p.core.cells.length<=4294967296)(hl:p.af.length<=4294967296)(hx:x.text.size<4294967281):aG Tryz.prog 7 none [enc p,enc x] (.aE [enc (bq p x).1,enc (bq p x).2]) []:=by
 refine aG.vU (by kernel_rfl) fun w M vs hM hr=> ?_
 obtain ⟨vp,q,rfl,hp,vx,q',rfl,yJ,rfl⟩:=hr
 obtain ⟨G8,hxm,hxk,mF⟩:=Cy yJ
 subst G8
 have hfits:mS x:=⟨hxm,hxk,mF,hx⟩
 obtain ⟨S1,S2,G7, -, -,hks,hct⟩:=qk hp
 have HW:=show Below w.heap.size w ((((w.alloc (.cells (aF p S1 S2) 37)).alloc (.cells #[.string x.method,.string x.key,.int .i64 x.val,.string x.text] 43)).alloc (.cells aH 37)).alloc (.cells aC 39)) by go_grown
 have hsz:((((w.alloc (.cells (aF p S1 S2) 37)).alloc (.cells #[.string x.method,.string x.key,.int .i64 x.val,.string x.text] 43)).alloc (.cells aH 37)).alloc (.cells aC 39)).heap.size=w.heap.size+1+1+1+1:=by simp only [World.size_alloc]
 have p0:=show ai ((((w.alloc (.cells (aF p S1 S2) 37)).alloc (.cells #[.string x.method,.string x.key,.int .i64 x.val,.string x.text] 43)).alloc (.cells aH 37)).alloc (.cells aC 39)) w.heap.size 37 (aF p S1 S2) from (((ai.new w _ _).alloc _).alloc _).alloc _
 have p1:=show ai ((((w.alloc (.cells (aF p S1 S2) 37)).alloc (.cells #[.string x.method,.string x.key,.int .i64 x.val,.string x.text] 43)).alloc (.cells aH 37)).alloc (.cells aC 39)) (w.heap.size+1) 43 #[.string x.method,.string x.key,.int .i64 x.val,.string x.text] by
  have:=(ai.new (w.alloc (.cells (aF p S1 S2) 37)) 43 #[.string x.method,.string x.key,.int .i64 x.val,.string x.text]);simp only [World.size_alloc] at this;exact (this.alloc _).alloc _
 have p2:=show ai ((((w.alloc (.cells (aF p S1 S2) 37)).alloc (.cells #[.string x.method,.string x.key,.int .i64 x.val,.string x.text] 43)).alloc (.cells aH 37)).alloc (.cells aC 39)) (w.heap.size+1+1) 37 aH by
  have:=(ai.new ((w.alloc (.cells (aF p S1 S2) 37)).alloc (.cells #[.string x.method,.string x.key,.int .i64 x.val,.string x.text] 43)) 37 aH);simp only [World.size_alloc] at this;exact this.alloc _
 have p3:=show ai ((((w.alloc (.cells (aF p S1 S2) 37)).alloc (.cells #[.string x.method,.string x.key,.int .i64 x.val,.string x.text] 43)).alloc (.cells aH 37)).alloc (.cells aC 39)) (w.heap.size+1+1+1) 39 aC by
  have:=(ai.new (((w.alloc (.cells (aF p S1 S2) 37)).alloc (.cells #[.string x.method,.string x.key,.int .i64 x.val,.string x.text] 43)).alloc (.cells aH 37)) 39 aC);simp only [World.size_alloc] at this;exact this
 have tW:=R.keep (bo.below (M':=M) HW fun _ _ h=>h) _ _ hp
 have hxa:=R.keep (bo.below (M':=M) HW fun _ _ h=>h) _ _ yJ
 have oP:=hM.below HW (M':=M) fun q hq=>Nat.lt_of_lt_of_le (hM.1 q hq) HW.size
 subst G7
 refine pT (E:=[(0,.agg (aF p S1 S2)),(1,cm x)]) Tryz.func7 rfl Tryz.ntmps7 (by simp) (by simp [aF]) ?_
 refine CW.seq (CW.region ?_)
 refine WL.vv rfl rfl (ju rfl rfl) (by decide) ?_
 refine WL.vv rfl rfl (ju rfl rfl) (by decide) ?_
 refine WL.vv rfl rfl (bp rfl dH) (by decide) ?_
 refine WL.vv rfl rfl (bp rfl dr) (by decide) ?_
 refine WL.nil (NX.next ?_)
 show CW _ Tryz.prog _ _ _ ((((w.alloc (.cells (aF p S1 S2) 37)).alloc (.cells #[.string x.method,.string x.key,.int .i64 x.val,.string x.text] 43)).alloc (.cells aH 37)).alloc (.cells aC 39))
 refine CW.sub (E':=[(2,.pointer (some ⟨w.heap.size,0,none⟩)),(3,.pointer (some ⟨w.heap.size+1,0,none⟩)),(4,.pointer (some ⟨w.heap.size+1+1,0,none⟩)),(5,.pointer (some ⟨w.heap.size+1+1+1,0,none⟩))]) ⟨rfl,by simp only [World.size_alloc];rfl,by simp only [World.size_alloc];rfl,by simp only [World.size_alloc];rfl,trivial⟩ ?_
 generalize ((((w.alloc (.cells (aF p S1 S2) 37)).alloc (.cells #[.string x.method,.string x.key,.int .i64 x.val,.string x.text] 43)).alloc (.cells aH 37)).alloc (.cells aC 39))=wa at HW hsz p0 p1 p2 p3 tW hxa oP ⊢
 refine CW.seq (CW.region ?_)
 refine WL.vv rfl rfl (bh rfl rfl Tryz.underlying37 rfl p0 aY) (by decide) ?_
 refine WL.c rfl rfl (bu (args:= #[.agg (aF p S1 S2)]) (by kernel_rfl) rfl rfl rfl) (by decide) ((VL p hc hl).2 wa M 0 [.agg (aF p S1 S2)] oP ⟨_,[],rfl,tW,rfl⟩ (fun cs h=>by cases h)) ?_
 rintro _ v5 ⟨v,rfl,hv,eI,ef, -⟩
 obtain ⟨T1,T2,rfl,yj,tH, -, -⟩:=qk hv
 refine ⟨_,rfl,?_⟩
 have hb5:=eI.lF
 obtain ⟨⟨a1,n1,c1,e1⟩,⟨a2,m2,c2,e2⟩⟩:(∃a n c,T1= .slice a n c)/\(∃a c m,T2= .slice a c m):=by
  obtain ⟨a,n,c,e,_⟩:=yj
  obtain ⟨a',n',c',e',_⟩:=tH
  exact ⟨⟨a,n,c,e⟩,⟨a',n',c',e'⟩⟩
 have hn2:m2=p.af.length:=by
  obtain ⟨a',n',c',e',h,_⟩:=tH
  rw [e2] at e'
  simp only [Value.slice.injEq] at e'
  rw [e'.2.1,h];simp [bg]
 have hone:=vW p (a1:=a1) (n1:=n1) (c1:=c1) (a2:=a2) (n2:=m2) (c2:=c2)
 rw [<-e1, <-e2] at hone
 subst hn2
 refine WL.vv rfl rfl (bp rfl dH) (by decide) ?_
 refine WL.st rfl rfl rfl rfl (cs:=aF p T1 T2) rfl (show ai (v5.alloc (.cells aH 37)) v5.heap.size 37 aH from ai.new v5 _ _) rfl hone aY fun w6 R6 O6=> ?_
 have xS:Below v5.heap.size v5 w6:=uM O6
 have DQ:v5.heap.size<w6.heap.size:=R6.lt
 have hf: ∀(S:Value) (d:D),R v5 (fun q=>M q\/iM (.agg (aF p T1 T2)) [(3,2),(5,2)] q) d S->R v5 (fun _=>False) d S:=fun S d h=>R.less h fun _ h=>h.elim
 obtain ⟨H6,k1,ha⟩:=PB.made oP hb5 (hf _ _ yj) (hf _ _ tH) (ef.1 (3,2) (by simp)) (ef.1 (5,2) (by simp)) (ef.2 0 1 (3,2) (5,2) rfl rfl (by simp)) hks hct R6 xS DQ
 have dZ:Below wa.heap.size wa w6:=bt hb5 xS
 replace p0:=p0.below dZ p0.lt
 replace p1:=p1.below dZ p1.lt
 replace p2:=p2.below dZ p2.lt
 replace p3:=p3.below dZ p3.lt
 have dY:=R.keep (bo.below (M':=M) dZ fun _ _ h=>h) _ _ tW
 have hxb:=R.keep (bo.below (M':=M) dZ fun _ _ h=>h) _ _ hxa
 have cR:=oP.below dZ (M':=M) fun q hq=>Nat.lt_of_lt_of_le (oP.1 q hq) dZ.size
 have hBw:Below w.heap.size w w6:=bt HW dZ
 refine WL.nil (NX.next ?_)
 generalize v5.heap.size=g at *
 refine CW.sub (E':=[(2,.pointer (some ⟨w.heap.size,0,none⟩)),(3,.pointer (some ⟨w.heap.size+1,0,none⟩)),(4,.pointer (some ⟨w.heap.size+1+1,0,none⟩)),(5,.pointer (some ⟨w.heap.size+1+1+1,0,none⟩)),(6,.pointer (some ⟨g,0,none⟩))]) ⟨rfl,rfl,rfl,rfl,rfl,trivial⟩ ?_
 have H:=PV.made H6 k1 ha dZ.size
 have nW: ∀b,bM T2 b->w.heap.size<=b:=fun b hb=>by have:=(H6.ly.out hb).1.1;have:=HW.size;omega
 have Ag: ∀b,b<wa.heap.size-> ¬bM T2 b:=fun b hb ho=>by have:=(H6.ly.out ho).1.1;omega
 have MJ: ¬bM T2 g:=fun ho=>(H6.ly.out ho).2.1 rfl
 have hNG:=hM.2.2
 have hgg:wa.heap.size<=g:=H6.kg.1
 have M2:MB (fun b=>bM T2 b) (fun b=>b<wa.heap.size\/bM T2 b\/b=g) w6 w.heap.size 37 (aF p S1 S2):=⟨p0,.inl (by omega),Ag _ (by omega),by omega⟩
 have M3:MB (fun b=>bM T2 b) (fun b=>b<wa.heap.size\/bM T2 b\/b=g) w6 (w.heap.size+1) 43 _:=⟨p1,.inl (by omega),Ag _ (by omega),by omega⟩
 have M4:MB (fun b=>bM T2 b) (fun b=>b<wa.heap.size\/bM T2 b\/b=g) w6 (w.heap.size+1+1) 37 aH:=⟨p2,.inl (by omega),Ag _ (by omega),by omega⟩
 have M5:MB (fun b=>bM T2 b) (fun b=>b<wa.heap.size\/bM T2 b\/b=g) w6 (w.heap.size+1+1+1) 39 aC:=⟨p3,.inl (by omega),Ag _ (by omega),by omega⟩
 have M6:MB (fun b=>bM T2 b) (fun b=>b<wa.heap.size\/bM T2 b\/b=g) w6 g 37 (aF p T1 T2):=⟨R6,.inr (.inr rfl),MJ,by omega⟩
 have wZ: ∀b,b<w.heap.size->(b<wa.heap.size\/bM T2 b\/b=g):=fun b hb=> .inl (by omega)
 have HF:eE (fun b=>bM T2 b) w w6:=eE.below hBw
 generalize Mj:(fun b=>b<wa.heap.size\/bM T2 b\/b=g)=N at H M2 M3 M4 M5 M6
 replace wZ: ∀b,b<w.heap.size->N b:=by rw [<-Mj];exact wZ
 clear Mj
 generalize Mh:(fun b=>bM T2 b)=K at H M2 M3 M4 M5 M6 HF
 replace nW: ∀b,K b->w.heap.size<=b:=by rw [<-Mh];exact nW
 clear Mh
 clear H6 k1 ha Ag MJ p0 p1 p2 p3 R6 hBw HW hone
 refine CW.seq (CW.seq (CW.region ?_))
 refine WL.vv rfl rfl (bh rfl rfl Tryz.underlying37 rfl M2.bl aY) (by decide) ?_
 refine WL.c rfl rfl (bu (args:= #[.agg (aF p S1 S2)]) (by kernel_rfl) rfl rfl rfl) (by decide) ((Vv p).calls (M:=M) cR ⟨_,[],rfl,dY,rfl⟩) ?_
 rintro _ w1 ⟨vw1,rfl,Nr,jc⟩
 refine ⟨_,rfl,?_⟩
 obtain ⟨rfl, -⟩:vw1= .bool (fj p)/\True:=⟨Nr,trivial⟩
 clear Nr
 replace H:=H.below jc
 replace HF:=HF.bT jc
 replace M2:=M2.below jc
 replace M3:=M3.below jc
 replace M4:=M4.below jc
 replace M5:=M5.below jc
 replace M6:=M6.below jc
 have ajr:=jc.size
 replace dY:=R.keep (bo.below (M':=M) jc fun _ _ h=>h) _ _ dY
 replace hxb:=R.keep (bo.below (M':=M) jc fun _ _ h=>h) _ _ hxb
 replace cR:=cR.below jc (M':=M) fun q hq=>Nat.lt_of_lt_of_le (cR.1 q hq) jc.size
 refine WL.vv rfl rfl (v8 rfl rfl) (by decide) ?_
 refine WL.vv rfl rfl (bf rfl rfl) (by decide) ?_
 cases p9:fj p with
 | false =>
  refine WL.no (b:=true) rfl rfl rfl rfl (by decide) ?_
  refine WL.no (b:=true) rfl rfl rfl rfl (by decide) ?_
  refine WL.no (b:=true) rfl rfl rfl rfl (by decide) ?_
  refine WL.vv rfl rfl (wh rfl rfl rfl) (by decide) ?_
  refine WL.nil (NX.next (CW.yes rfl ?_))
  refine CW.sub (E':=[(4,.pointer (some ⟨(w.heap.size+1+1),0,none⟩)),(5,.pointer (some ⟨(w.heap.size+1+1+1),0,none⟩)),(6,.pointer (some ⟨g,0,none⟩))]) ⟨rfl,rfl,rfl,trivial⟩ ?_
  refine CW.seq (CW.region ?_)
  refine WL.vv rfl rfl (bh rfl rfl Tryz.underlying37 rfl M6.bl aY) (by decide) ?_
  refine WL.vv rfl rfl (jv (vs:=[(0,.int .i64 7)]) rfl rfl (xu _)) (by decide) ?_
  refine WL.st rfl rfl rfl rfl rfl M4.bl rfl H.gz aY fun w2 Ty ux=> ?_
  replace H:=H.one ux M4.n M4.k M4.g
  replace HF:=HF.one ux (.inr (by omega))
  replace M2:=M2.other ux (by omega)
  replace M3:=M3.other ux (by omega)
  replace M5:=M5.other ux (by omega)
  replace M6:=M6.other ux (by omega)
  replace M4:=M4.put Ty
  have DY:=Nat.le_of_eq ux.size.symm
  refine WL.st rfl rfl rfl rfl rfl M5.bl rfl (da _) aZ fun w3 TG uy=> ?_
  replace H:=H.one uy M5.n M5.k M5.g
  replace HF:=HF.one uy (.inr (by omega))
  replace M2:=M2.other uy (by omega)
  replace M3:=M3.other uy (by omega)
  replace M4:=M4.other uy (by omega)
  replace M6:=M6.other uy (by omega)
  replace M5:=M5.put TG
  have DZ:=Nat.le_of_eq uy.size.symm
  refine WL.nil (NX.next (CW.ret ?_))
  have e:bq p x=(p,(rep 7 0 0 0)):=by unfold bq;rw [if_pos (.inl p9)]
  rw [e]
  exact NX.ret (NX.oK rfl rfl rfl M4.bl M5.bl Tryz.underlying37 Tryz.underlying39 rfl rfl aY aZ (CK (q:=p) (r:=(rep 7 0 0 0)) hM H nW wZ HF rfl (ub (r:=rep 7 0 0 0) (show IntKind.i64.min<=(7:Int)/\(7:Int)<=IntKind.i64.max by decide) (show IntKind.i64.min<=(0:Int)/\(0:Int)<=IntKind.i64.max by decide) (by decide) (show IntKind.i64.min<=(0:Int)/\(0:Int)<=IntKind.i64.max by decide) (show IntKind.i64.min<=(0:Int)/\(0:Int)<=IntKind.i64.max by decide))))
 | true =>
  refine WL.vg (b:=false) rfl rfl rfl rfl (bh rfl rfl Tryz.underlying43 rfl M3.bl kG) (by decide) ?_
  refine WL.cg (b:=false) rfl rfl rfl rfl (bu (args:= #[cm x]) (by kernel_rfl) rfl rfl rfl) (by decide) ((Kk x).calls (M:=M) cR ⟨_,[],rfl,hxb,rfl⟩) ?_
  rintro _ w4 ⟨vw4,rfl,Nv,fU⟩
  refine ⟨_,rfl,?_⟩
  obtain ⟨rfl, -⟩:vw4= .bool (eH x)/\True:=⟨Nv,trivial⟩
  clear Nv
  replace H:=H.below fU
  replace HF:=HF.bT fU
  replace M2:=M2.below fU
  replace M3:=M3.below fU
  replace M4:=M4.below fU
  replace M5:=M5.below fU
  replace M6:=M6.below fU
  have ajA:=fU.size
  replace dY:=R.keep (bo.below (M':=M) fU fun _ _ h=>h) _ _ dY
  replace hxb:=R.keep (bo.below (M':=M) fU fun _ _ h=>h) _ _ hxb
  replace cR:=cR.below fU (M':=M) fun q hq=>Nat.lt_of_lt_of_le (cR.1 q hq) fU.size
  refine WL.vg (b:=false) rfl rfl rfl rfl (v8 rfl rfl) (by decide) ?_
  refine WL.vv rfl rfl (pg rfl rfl rfl) (by decide) ?_
  cases hcc:eH x with
  | false =>
   refine WL.nil (NX.next (CW.yes rfl ?_))
   refine CW.sub (E':=[(4,.pointer (some ⟨(w.heap.size+1+1),0,none⟩)),(5,.pointer (some ⟨(w.heap.size+1+1+1),0,none⟩)),(6,.pointer (some ⟨g,0,none⟩))]) ⟨rfl,rfl,rfl,trivial⟩ ?_
   refine CW.seq (CW.region ?_)
   refine WL.vv rfl rfl (bh rfl rfl Tryz.underlying37 rfl M6.bl aY) (by decide) ?_
   refine WL.vv rfl rfl (jv (vs:=[(0,.int .i64 7)]) rfl rfl (xu _)) (by decide) ?_
   refine WL.st rfl rfl rfl rfl rfl M4.bl rfl H.gz aY fun w5 TW uA=> ?_
   replace H:=H.one uA M4.n M4.k M4.g
   replace HF:=HF.one uA (.inr (by omega))
   replace M2:=M2.other uA (by omega)
   replace M3:=M3.other uA (by omega)
   replace M5:=M5.other uA (by omega)
   replace M6:=M6.other uA (by omega)
   replace M4:=M4.put TW
   have aak:=Nat.le_of_eq uA.size.symm
   refine WL.st rfl rfl rfl rfl rfl M5.bl rfl (da _) aZ fun w6 cv kr=> ?_
   replace H:=H.one kr M5.n M5.k M5.g
   replace HF:=HF.one kr (.inr (by omega))
   replace M2:=M2.other kr (by omega)
   replace M3:=M3.other kr (by omega)
   replace M4:=M4.other kr (by omega)
   replace M6:=M6.other kr (by omega)
   replace M5:=M5.put cv
   have Hz:=Nat.le_of_eq kr.size.symm
   refine WL.nil (NX.next (CW.ret ?_))
   have e:bq p x=(p,(rep 7 0 0 0)):=by unfold bq;rw [if_pos (.inr hcc)]
   rw [e]
   exact NX.ret (NX.oK rfl rfl rfl M4.bl M5.bl Tryz.underlying37 Tryz.underlying39 rfl rfl aY aZ (CK (q:=p) (r:=(rep 7 0 0 0)) hM H nW wZ HF rfl (ub (r:=rep 7 0 0 0) (show IntKind.i64.min<=(7:Int)/\(7:Int)<=IntKind.i64.max by decide) (show IntKind.i64.min<=(0:Int)/\(0:Int)<=IntKind.i64.max by decide) (by decide) (show IntKind.i64.min<=(0:Int)/\(0:Int)<=IntKind.i64.max by decide) (show IntKind.i64.min<=(0:Int)/\(0:Int)<=IntKind.i64.max by decide))))
  | true =>
   refine WL.nil (NX.next (CW.no rfl (CW.skip (NX.next ?_))))
   refine CW.sub (E':=[(2,.pointer (some ⟨w.heap.size,0,none⟩)),(3,.pointer (some ⟨(w.heap.size+1),0,none⟩)),(4,.pointer (some ⟨(w.heap.size+1+1),0,none⟩)),(5,.pointer (some ⟨(w.heap.size+1+1+1),0,none⟩)),(6,.pointer (some ⟨g,0,none⟩))]) ⟨rfl,rfl,rfl,rfl,rfl,trivial⟩ ?_
   have A9:IntKind.i64.min<=bK x.method/\bK x.method<=IntKind.i64.max:=by
    obtain ⟨j,ew,_⟩:=Bq (xx hcc)
    rw [ew]
    have: ∀j:Fin 6,IntKind.i64.min<=((2^j.val:Nat):Int)/\((2^j.val:Nat):Int)<=IntKind.i64.max:=by decide
    exact this j
   have hfl:IntKind.i64.min<=((fF p:Nat):Int)/\((fF p:Nat):Int)<=IntKind.i64.max:=by
    have:=LK p
    have e1:IntKind.i64.min= -9223372036854775808/\IntKind.i64.max=9223372036854775807:=by decide
    rw [e1.1,e1.2];omega
   refine CW.seq (CW.seq (CW.any (fun W=>ai W w.heap.size 37 (aF p S1 S2)/\ai W (w.heap.size+1) 43 #[.string x.method,.string x.key,.int .i64 x.val,.string x.text]) 6 mo fun w7 hwd gH=> ?_))
   replace H:=H.below gH
   replace HF:=HF.bT gH
   replace M2:=M2.below gH
   replace M3:=M3.below gH
   replace M4:=M4.below gH
   replace M5:=M5.below gH
   replace M6:=M6.below gH
   have ajI:=gH.size
   replace dY:=R.keep (bo.below (M':=M) gH fun _ _ h=>h) _ _ dY
   replace hxb:=R.keep (bo.below (M':=M) gH fun _ _ h=>h) _ _ hxb
   replace cR:=cR.below gH (M':=M) fun q hq=>Nat.lt_of_lt_of_le (cR.1 q hq) gH.size
   clear hwd
   refine ⟨⟨M2.bl,M3.bl⟩,?_⟩
   refine AU.tk 0 rfl (by kernel_rfl) (fun _ _ _ h=>h) rfl rfl (fun W hW=>bh rfl rfl Tryz.underlying37 rfl hW.1 aY) (by decide) ⟨M2.bl,M3.bl⟩ ?_
   refine AU.tk 2 rfl (by kernel_rfl) (fun _ _ _ h=>h) rfl rfl (fun W hW=>cY rfl rfl mz) (by decide) ⟨M2.bl,M3.bl⟩ ?_
   refine AU.tk 3 rfl (by kernel_rfl) (fun _ _ _ h=>h) rfl rfl (fun W hW=>cz rfl rfl Tryz.underlying9 rfl (v:= .string x.method) ((hW.2.cell 0).trans rfl)) (by decide) ⟨M2.bl,M3.bl⟩ ?_
   refine AU.c 1 (args:= #[.agg (aF p S1 S2)]) rfl (by kernel_rfl) rfl rfl (bu (by kernel_rfl) rfl rfl rfl) (by decide) ((Ki p).calls (M:=M) cR ⟨_,[],rfl,dY,rfl⟩) ?_
   rintro _ w8 ⟨vw8,rfl,Nw,iQ⟩
   obtain ⟨rfl, -⟩:vw8= .int .i64 ((fF p:Nat):Int)/\True:=⟨Nw.1,trivial⟩
   clear Nw
   replace H:=H.below iQ
   replace HF:=HF.bT iQ
   replace M2:=M2.below iQ
   replace M3:=M3.below iQ
   replace M4:=M4.below iQ
   replace M5:=M5.below iQ
   replace M6:=M6.below iQ
   have aac:=iQ.size
   replace dY:=R.keep (bo.below (M':=M) iQ fun _ _ h=>h) _ _ dY
   replace hxb:=R.keep (bo.below (M':=M) iQ fun _ _ h=>h) _ _ hxb
   replace cR:=cR.below iQ (M':=M) fun q hq=>Nat.lt_of_lt_of_le (cR.1 q hq) iQ.size
   refine ⟨_,rfl,fun _=>⟨M2.bl,M3.bl⟩,?_⟩
   refine AU.c 4 (args:= #[.string x.method]) rfl (by kernel_rfl) rfl rfl (bu (by kernel_rfl) rfl rfl rfl) (by decide) ((Ct x.method).calls (M:=M) cR ⟨_,[],rfl,⟨rfl,hxm⟩,rfl⟩) ?_
   rintro _ w9 ⟨vw9,rfl,Nx,jI⟩
   obtain ⟨rfl, -⟩:vw9= .int .i64 (bK x.method)/\True:=⟨Nx.1,trivial⟩
   clear Nx
   replace H:=H.below jI
   replace HF:=HF.bT jI
   replace M2:=M2.below jI
   replace M3:=M3.below jI
   replace M4:=M4.below jI
   replace M5:=M5.below jI
   replace M6:=M6.below jI
   have ajK:=jI.size
   replace dY:=R.keep (bo.below (M':=M) jI fun _ _ h=>h) _ _ dY
   replace hxb:=R.keep (bo.below (M':=M) jI fun _ _ h=>h) _ _ hxb
   replace cR:=cR.below jI (M':=M) fun q hq=>Nat.lt_of_lt_of_le (cR.1 q hq) jI.size
   refine ⟨_,rfl,fun _=>⟨M2.bl,M3.bl⟩,?_⟩
   refine AU.c 5 (args:= #[.int .i64 ((fF p:Nat):Int),.int .i64 (bK x.method)]) rfl (by kernel_rfl) rfl rfl (bu (by kernel_rfl) rfl rfl rfl) (by decide) ((Fp (fF p) (bK x.method)).calls (M:=M) cR ⟨_,_,rfl,⟨rfl,hfl⟩,_,[],rfl,⟨rfl,A9⟩,rfl⟩) ?_
   rintro _ Ca ⟨ahG,rfl,Ns,jl⟩
   obtain ⟨rfl, -⟩:ahG= .bool (cV (fF p) (bK x.method))/\True:=⟨Ns,trivial⟩
   clear Ns
   replace H:=H.below jl
   replace HF:=HF.bT jl
   replace M2:=M2.below jl
   replace M3:=M3.below jl
   replace M4:=M4.below jl
   replace M5:=M5.below jl
   replace M6:=M6.below jl
   have ajs:=jl.size
   replace dY:=R.keep (bo.below (M':=M) jl fun _ _ h=>h) _ _ dY
   replace hxb:=R.keep (bo.below (M':=M) jl fun _ _ h=>h) _ _ hxb
   replace cR:=cR.below jl (M':=M) fun q hq=>Nat.lt_of_lt_of_le (cR.1 q hq) jl.size
   refine ⟨_,rfl,fun _=>⟨M2.bl,M3.bl⟩,?_⟩
   refine AU.vv 6 rfl (by kernel_rfl) rfl rfl (v8 rfl rfl) (by decide) (fun h=>absurd rfl h) ?_
   cases tV:cV (fF p) (bK x.method) with
   | false =>
    refine AU.done (by kernel_rfl) (NX.next (CW.yes rfl ?_))
    refine CW.sub (E':=[(2,.pointer (some ⟨w.heap.size,0,none⟩)),(3,.pointer (some ⟨(w.heap.size+1),0,none⟩)),(4,.pointer (some ⟨(w.heap.size+1+1),0,none⟩)),(5,.pointer (some ⟨(w.heap.size+1+1+1),0,none⟩)),(6,.pointer (some ⟨g,0,none⟩))]) ⟨rfl,rfl,rfl,rfl,rfl,trivial⟩ ?_
    refine CW.seq (CW.any (fun W=>ai W g 37 (aF p T1 T2)/\ai W (w.heap.size+1) 43 #[.string x.method,.string x.key,.int .i64 x.val,.string x.text]/\ai W w.heap.size 37 (aF p S1 S2)) 8 mo fun rT hwd jH=> ?_)
    replace H:=H.below jH
    replace HF:=HF.bT jH
    replace M2:=M2.below jH
    replace M3:=M3.below jH
    replace M4:=M4.below jH
    replace M5:=M5.below jH
    replace M6:=M6.below jH
    have ajt:=jH.size
    replace dY:=R.keep (bo.below (M':=M) jH fun _ _ h=>h) _ _ dY
    replace hxb:=R.keep (bo.below (M':=M) jH fun _ _ h=>h) _ _ hxb
    replace cR:=cR.below jH (M':=M) fun q hq=>Nat.lt_of_lt_of_le (cR.1 q hq) jH.size
    clear hwd
    refine ⟨⟨M6.bl,M3.bl,M2.bl⟩,?_⟩
    refine AU.tk 0 rfl (by kernel_rfl) (fun _ _ _ h=>h) rfl rfl (fun W hW=>bh rfl rfl Tryz.underlying37 rfl hW.1 aY) (by decide) ⟨M6.bl,M3.bl,M2.bl⟩ ?_
    refine AU.tk 1 rfl (by kernel_rfl) (fun _ _ _ h=>h) rfl rfl (fun W hW=>cY rfl rfl mz) (by decide) ⟨M6.bl,M3.bl,M2.bl⟩ ?_
    refine AU.tk 2 rfl (by kernel_rfl) (fun _ _ _ h=>h) rfl rfl (fun W hW=>cz rfl rfl Tryz.underlying9 rfl (v:= .string x.method) ((hW.2.1.cell 0).trans rfl)) (by decide) ⟨M6.bl,M3.bl,M2.bl⟩ ?_
    refine AU.tk 4 rfl (by kernel_rfl) (fun _ _ _ h=>h) rfl rfl (fun W hW=>bh rfl rfl Tryz.underlying37 rfl hW.2.2 aY) (by decide) ⟨M6.bl,M3.bl,M2.bl⟩ ?_
    refine AU.c 3 (args:= #[.string x.method]) rfl (by kernel_rfl) rfl rfl (bu (by kernel_rfl) rfl rfl rfl) (by decide) ((Ct x.method).calls (M:=M) cR ⟨_,[],rfl,⟨rfl,hxm⟩,rfl⟩) ?_
    rintro _ Jc ⟨ahH,rfl,Nt,jm⟩
    obtain ⟨rfl, -⟩:ahH= .int .i64 (bK x.method)/\True:=⟨Nt.1,trivial⟩
    clear Nt
    replace H:=H.below jm
    replace HF:=HF.bT jm
    replace M2:=M2.below jm
    replace M3:=M3.below jm
    replace M4:=M4.below jm
    replace M5:=M5.below jm
    replace M6:=M6.below jm
    have aju:=jm.size
    replace dY:=R.keep (bo.below (M':=M) jm fun _ _ h=>h) _ _ dY
    replace hxb:=R.keep (bo.below (M':=M) jm fun _ _ h=>h) _ _ hxb
    replace cR:=cR.below jm (M':=M) fun q hq=>Nat.lt_of_lt_of_le (cR.1 q hq) jm.size
    refine ⟨_,rfl,fun _=>⟨M6.bl,M3.bl,M2.bl⟩,?_⟩
    refine AU.c 5 (args:= #[.agg (aF p S1 S2)]) rfl (by kernel_rfl) rfl rfl (bu (by kernel_rfl) rfl rfl rfl) (by decide) ((Ki p).calls (M:=M) cR ⟨_,[],rfl,dY,rfl⟩) ?_
    rintro _ Jd ⟨ahI,rfl,Nu,fA⟩
    obtain ⟨rfl, -⟩:ahI= .int .i64 ((fF p:Nat):Int)/\True:=⟨Nu.1,trivial⟩
    clear Nu
    replace H:=H.below fA
    replace HF:=HF.bT fA
    replace M2:=M2.below fA
    replace M3:=M3.below fA
    replace M4:=M4.below fA
    replace M5:=M5.below fA
    replace M6:=M6.below fA
    have NY:=fA.size
    replace dY:=R.keep (bo.below (M':=M) fA fun _ _ h=>h) _ _ dY
    replace hxb:=R.keep (bo.below (M':=M) fA fun _ _ h=>h) _ _ hxb
    replace cR:=cR.below fA (M':=M) fun q hq=>Nat.lt_of_lt_of_le (cR.1 q hq) fA.size
    refine ⟨_,rfl,fun _=>⟨M6.bl,M3.bl,M2.bl⟩,?_⟩
    refine AU.tk 6 rfl (by kernel_rfl) (fun _ _ _ h=>h) rfl rfl (fun W hW=>jv (vs:=[(0,.int .i64 1),(3,.int .i64 (bK x.method)),(4,.int .i64 ((fF p:Nat):Int))]) rfl rfl (J0 1 _ _)) (by decide) ⟨M6.bl,M3.bl,M2.bl⟩ ?_
    refine AU.st 7 rfl (by kernel_rfl) rfl rfl rfl rfl rfl M4.bl rfl H.gz aY (fun w' ho _=>⟨(ho.block _ (by omega)).trans M6.bl,(ho.block _ (by omega)).trans M3.bl,(ho.block _ (by omega)).trans M2.bl⟩) fun zr EY kN=> ?_
    replace H:=H.one kN M4.n M4.k M4.g
    replace HF:=HF.one kN (.inr (by omega))
    replace M2:=M2.other kN (by omega)
    replace M3:=M3.other kN (by omega)
    replace M5:=M5.other kN (by omega)
    replace M6:=M6.other kN (by omega)
    replace M4:=M4.put EY
    have N8:=Nat.le_of_eq kN.size.symm
    refine AU.st 8 rfl (by kernel_rfl) rfl rfl rfl rfl rfl M5.bl rfl (da _) aZ (fun _ _ h=>absurd rfl h) fun EI EZ kO=> ?_
    replace H:=H.one kO M5.n M5.k M5.g
    replace HF:=HF.one kO (.inr (by omega))
    replace M2:=M2.other kO (by omega)
    replace M3:=M3.other kO (by omega)
    replace M4:=M4.other kO (by omega)
    replace M6:=M6.other kO (by omega)
    replace M5:=M5.put EZ
    have Hw:=Nat.le_of_eq kO.size.symm
    refine AU.done (by kernel_rfl) (NX.next (CW.ret ?_))
    have e:bq p x=(p,(rep 1 0 (bK x.method) ((fF p:Nat):Int))):=by unfold bq;rw [if_neg (by simp [p9,hcc]),if_pos tV]
    rw [e]
    exact NX.ret (NX.oK rfl rfl rfl M4.bl M5.bl Tryz.underlying37 Tryz.underlying39 rfl rfl aY aZ (CK (q:=p) (r:=(rep 1 0 (bK x.method) ((fF p:Nat):Int))) hM H nW wZ HF rfl (ub (r:=rep 1 0 (bK x.method) (fF p)) (show IntKind.i64.min<=(1:Int)/\(1:Int)<=IntKind.i64.max by decide) (show IntKind.i64.min<=(0:Int)/\(0:Int)<=IntKind.i64.max by decide) (show cS.size<=maxLen by unfold maxLen;decide) A9 hfl)))
   | true =>
    refine AU.done (by kernel_rfl) (NX.next (CW.no rfl (CW.skip (NX.next ?_))))
    refine CW.sub (E':=[(3,.pointer (some ⟨(w.heap.size+1),0,none⟩)),(4,.pointer (some ⟨(w.heap.size+1+1),0,none⟩)),(5,.pointer (some ⟨(w.heap.size+1+1+1),0,none⟩)),(6,.pointer (some ⟨g,0,none⟩))]) ⟨rfl,rfl,rfl,rfl,trivial⟩ ?_
    refine CW.seq (CW.region ?_)
    refine WL.vv rfl rfl (bh rfl rfl Tryz.underlying37 rfl M6.bl aY) (by decide) ?_
    refine WL.vv rfl rfl (cY rfl rfl oO) (by decide) ?_
    refine WL.vv rfl rfl (cz rfl rfl Tryz.underlying35 rfl (v:= .slice a2 p.af.length c2) (by rw [<-e2];exact (M6.bl.cell 5).trans rfl)) (by decide) ?_
    refine WL.vv rfl rfl (Pn rfl rfl rfl rfl Tryz.underlying35 rfl) (by decide) ?_
    refine WL.vv rfl rfl (bh rfl rfl Tryz.underlying43 rfl M3.bl kG) (by decide) ?_
    refine WL.c rfl rfl (bu (args:= #[.agg (aF p T1 T2),.int .i64 ((p.af.length:Nat):Int),cm x]) (by kernel_rfl) rfl rfl rfl) (by decide) (FD p.af.length K N _ T1 T2 p x H hfits p9 hcc (Nat.le_refl _) tV) ?_
    rintro _ SD ⟨U,rfl,H',hf⟩
    refine ⟨_,rfl,?_⟩
    replace H:=H'
    clear H'
    replace HF:=HF.mQ hf
    replace M2:=M2.bY hf
    replace M3:=M3.bY hf
    replace M4:=M4.bY hf
    replace M5:=M5.bY hf
    replace M6:=M6.bY hf
    have ajL:=hf.size
    refine WL.vv rfl rfl (cJ rfl rfl rfl) (by decide) ?_
    refine WL.vv rfl rfl (cJ rfl rfl rfl) (by decide) ?_
    refine WL.st rfl rfl rfl rfl rfl M4.bl rfl H.gz aY fun wa' Ul uC=> ?_
    replace H:=H.one uC M4.n M4.k M4.g
    replace HF:=HF.one uC (.inr (by omega))
    replace M2:=M2.other uC (by omega)
    replace M3:=M3.other uC (by omega)
    replace M5:=M5.other uC (by omega)
    replace M6:=M6.other uC (by omega)
    replace M4:=M4.put Ul
    have akv:=Nat.le_of_eq uC.size.symm
    refine WL.st rfl rfl rfl rfl rfl M5.bl rfl (da _) aZ fun wb' Um uD=> ?_
    replace H:=H.one uD M5.n M5.k M5.g
    replace HF:=HF.one uD (.inr (by omega))
    replace M2:=M2.other uD (by omega)
    replace M3:=M3.other uD (by omega)
    replace M4:=M4.other uD (by omega)
    replace M6:=M6.other uD (by omega)
    replace M5:=M5.put Um
    have akw:=Nat.le_of_eq uD.size.symm
    refine WL.nil (NX.next (CW.ret ?_))
    obtain ⟨_,_,_,_,v0,v9⟩:=pI p.af.length p x p9 (Nat.le_refl _) hcc tV
    obtain ⟨⟨s0,s7⟩,s1,s2,s3⟩:=I0 p.af.length p x
    have e1:IntKind.i64.min= -9223372036854775808/\IntKind.i64.max=9223372036854775807:=by decide
    have e:bq p x=((aA p.af.length p x).1,(aA p.af.length p x).2):=by unfold bq;rw [if_neg (by simp [p9,hcc]),if_neg (by simp [tV])]
    rw [e]
    exact NX.oK rfl rfl rfl M4.bl M5.bl Tryz.underlying37 Tryz.underlying39 rfl rfl aY aZ (CK (q:=(aA p.af.length p x).1) (r:=(aA p.af.length p x).2) hM H nW wZ HF rfl (ub (by rw [e1.1,e1.2];omega) (by rw [e1.1,e1.2];omega) (by unfold maxLen;omega) (by rw [s2];decide) (by rw [s3];decide)))
end
section
open Go.RowKit Go
variable [GC]
theorem ada{K:Nat->Prop}{w wc W3:World}{g:Nat}{S2:Value}{p:Part}{l:List Cell}{T:TypeId}{a3:Option Addr}{m c3:Nat}{xs:List Value}(h:St K w g S2 K p wc)(hB:Below wc.heap.size wc W3)
  (ho:W3.ownsRow wc.heap.size T 2 (.slice a3 m c3) m xs) (hx:xs=eY (dc l)) (hm:m=(dc l).length) (hok: ∀x∈dc l,y7 x) :
  St K w g S2 (Gr K wc W3) ⟨⟨p.core.kind,p.core.on,p.core.broken,l,p.core.count⟩,p.af⟩ (W3.setCell ⟨g,3,none⟩ (.slice a3 m c3)):=by
 have hg:=h.pb.uY
 have P:=(h.pb.below hB).mono (K':=Gr K wc W3) (fun b hb=> .inl hb) (fun b hb=>by
  rcases hb with hb|hb
  ·have:=h.pb.kb b hb;exact ⟨this.1,Nat.lt_of_lt_of_le this.2 hB.size⟩
  ·exact ⟨Nat.le_trans h.pb.gi.2 hb.1,hb.2⟩)
 have hr:=cB.owns (K:=Gr K wc W3) (g:=g) ho hx hm hok (fun b h1 h2=> .inr ⟨h1,h2⟩) (fun b h1 _ e=>by omega)
 have P3:=P.setCells hr (fun b hb h2=>by
  have hl:=(h.pb.ly.out h2).2.2
  obtain ⟨o,s,len,cap',e,hc⟩:=hb
  obtain ⟨_,⟨e0,_⟩|⟨g',cap,cur,e0,h1,_⟩⟩:=ho
  ·rw [e0] at e;cases e
  ·rw [e0] at e;cases e;omega)
 exact ⟨P3,h.nb,fun b hk=>by
  rcases hk with hk|hk
  ·exact .inl hk
  ·exact .inr ⟨Nat.le_trans h.fr.size hk.1,by simpa using hk.2⟩,(h.fr.bT hB).BP _ (.inl h.pb.kg)⟩
theorem yU{K:Nat->Prop}{w wc W3:World}{g:Nat}{S2:Value}{p:Part}{x:Call}{T TR:TypeId}{a3:Option Addr}{n k m c3 r:Nat}{xs:List Value}{cs:Array Value}(h:St K w g S2 K p wc)(hx:mS x)
  (hn:n=p.core.cells.length) (hk:bZ p.core.cells x.key=k) (jq:eZ p.core.cells x.key=false) (hB:Below wc.heap.size wc W3)
  (ho:W3.ownsRow wc.heap.size T 2 (.slice a3 m c3) m xs) (hm:m=k+1+(n-k)) (hxs:xs=eY ((dc p.core.cells).take k)++[.string x.key,.int .i64 x.val]++eY ((dc p.core.cells).drop k))
  (hr:ai wc r TR cs) (hkr: ¬K r) :
  ∃K',St K w g S2 K' ⟨⟨p.core.kind,p.core.on,p.core.broken,iH p.core.cells x.key x.val,p.core.count⟩,p.af⟩ (W3.setCell ⟨g,3,none⟩ (.slice a3 (k+1+(n-k)) c3))/\ ¬K' r/\ai (W3.setCell ⟨g,3,none⟩ (.slice a3 (k+1+(n-k)) c3)) r TR cs:=by
 have eP:iH p.core.cells x.key x.val=p.core.cells.take k++[⟨x.key,x.val⟩]++p.core.cells.drop k:=by
  unfold iH
  rw [if_neg (by rw [jq];simp),hk]
 have hkn:k<=n:=by rw [hn, <-hk];exact uL _ _
 have hks: ∀c∈p.core.cells,y7 (c.key,c.val):=fun c hc=>by
  obtain ⟨S1,_,q2,_⟩:=h.pb.bx
  exact q2.ok (List.mem_map.2 ⟨c,hc,rfl⟩)
 subst hm
 refine ⟨_,ada h hB ho ?_ ?_ ?_,?_,?_⟩
 ·rw [hxs,eP]
  simp [dc,eY,List.map_take,List.map_drop]
 ·rw [vY,eP]
  simp [<-hn]
  omega
 ·intro y hy
  obtain ⟨c,hc,rfl⟩:=List.mem_map.1 hy
  rw [eP] at hc
  rcases List.mem_append.1 hc with hc|hc
  ·rcases List.mem_append.1 hc with hc|hc
   ·exact hks c (List.mem_of_mem_take hc)
   ·cases List.mem_singleton.1 hc
    exact ⟨hx.key,hx.val⟩
  ·exact hks c (List.mem_of_mem_drop hc)
 ·intro hkk
  rcases hkk with hkk|hkk
  ·exact hkr hkk
  ·have:=hr.lt;omega
 ·exact (hr.below hB hr.lt).far (fun e=>hkr (by rw [e];exact h.pb.kg)) _
theorem O0{w:World}{B n sz:Nat}{e:TypeId}{a:Option Addr}{c:Nat}{xs:List Value}(h:w.ownsRow B e sz (.slice a n c) n xs):n<=c:=by
 obtain ⟨_,⟨e0,hz⟩|⟨g',cap,cur,e0,h1,h2,h3,_⟩⟩:=h
 ·cases e0;exact Nat.le_refl _
 ·cases e0;omega
theorem Et{P:Program}{ops:Array Oper}{o:Oper}{a:Act}{w:World}{K:Act->World->Prop}{Q:Exit->Act->World->Prop}{E:Prop}
  (hg:o.guard=none) (s x:Operand) (t:TypeId) (hop:o.op=Op.call {callee:=Callee.builtin Builtin.append,args:= #[s,x],argTypes:= #[t,t]})
  (e:TypeId) (i:TypeInfo) (ht:P.underlying t=some (.slice e)) (hi:P.info? e=some i)
  (base:Option Addr) (n cap:Nat) (hs:a.eval s= .slice base n cap) (hle:n<=cap) (hx:a.eval x= .slice none 0 0)
  (hK:K (a.put o.dst (.slice base n cap)) w) :
  if Region.wanted o (yielded ops a.tmps)=true then Oper.wp P o a w K Q else E:=by
 have hw:Region.wanted o (yielded ops a.tmps)=true:=by simp [Region.wanted,hg]
 rw [if_pos hw]
 have hr:(Builtin.append_ #[t,t] o.type #[.slice base n cap,.slice none 0 0]).run P w= .ok (.slice base n cap) w :=
  run_append_nothing w t t o.type e i ht hi base n cap hle (.slice none 0 0) (Src.ofNil w ht 0)
 unfold Oper.wp execOp
 simp only [hop,resolve,invoke,builtin,Sem.run_bind,Sem.run_pure,Result.andThen_ok,List.map_toArray,List.map_cons,List.map_nil,hs,hx,hr]
 exact hK
end
end Go.Proofs.YtimickglpboilaaGreatDoor
