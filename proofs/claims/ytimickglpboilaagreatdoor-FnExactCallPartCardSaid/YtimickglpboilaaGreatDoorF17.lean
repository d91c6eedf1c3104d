/- Regions of laws: a chain of calls whose two answers go into new boxes, in whatever order. -/
import Derived.Test.YtimickglpboilaaGreatDoorF16
set_option linter.unusedVariables false
set_option linter.unusedSimpArgs false
set_option maxRecDepth 100000
set_option linter.unusedSectionVars false
namespace Go.Proofs.YtimickglpboilaaGreatDoor
open Go.RowKit Go
variable [GC]
theorem UF{B:Nat}{a b c:World}{g:Nat}(h:Below B a b)(ho:fD b c g)(hg:B<=g):Below B a c :=
 ⟨ho.os.trans h.os,ho.tape.trans h.tape,ho.output.trans h.output,by rw [ho.size];exact h.size,fun i hi=>(ho.block i (by omega)).trans (h.block i hi)⟩
def bF(n:Nat)(l:List Nat):Array Bool:=((List.range n).map fun i=>l.any (Nat.beq i)).toArray
structure NK(wd:World)(N:Nat->Prop)(W:World):Prop where
 b:Below wd.heap.size wd W
 n: ∀b,N b->wd.heap.size<=b/\b<W.heap.size
theorem NK.below{wd W W':World}{N:Nat->Prop}(h:NK wd N W)(hb:Below W.heap.size W W'):NK wd N W':=⟨bt h.b hb,fun b hn=>⟨(h.n b hn).1,Nat.lt_of_lt_of_le (h.n b hn).2 hb.size⟩⟩
theorem NK.one{wd W W':World}{N:Nat->Prop}{g:Nat}(h:NK wd N W)(ho:fD W W' g)(hn:N g):NK wd N W':=⟨UF h.b ho (h.n g hn).1,fun b hb=>by rw [ho.size];exact h.n b hb⟩
theorem NK.alloc{wd W:World}{N:Nat->Prop}(h:NK wd N W)(T:TypeId)(z:Array Value):NK wd (fun b=>N b\/b=W.heap.size) (W.alloc (.cells z T)):=by
 have hb:=cU W z T
 have hs:(W.alloc (.cells z T)).heap.size=W.heap.size+1:=by simp [World.size_alloc]
 refine ⟨bt h.b hb,fun b hn=> ?_⟩
 rcases hn with hn|rfl
 ·have:=h.n b hn;omega
 ·have:=h.b.size;omega
structure nQ{α:Type}(P:(Nat->Prop)->World->α->Prop):Prop where
 b: ∀N N' W W' v,P N W v->Below W.heap.size W W'->(∀b,N' b->N b\/W.heap.size<=b)->P N' W' v
 o: ∀N W W' g v,P N W v->fD W W' g->N g->P N W' v
noncomputable def bO:Array Oper:=Ec Tryz.f3 8
noncomputable def CH:Go.Call:=match (opAt bO 1).op with
 | .call c=>c
 | _=>{callee:= .value (.const (.bool true)),args:= #[],argTypes:= #[]}
noncomputable def CI:Go.Call:=match (opAt bO 3).op with
 | .call c=>c
 | _=>{callee:= .value (.const (.bool true)),args:= #[],argTypes:= #[]}
noncomputable def CJ:Go.Call:=match (opAt bO 4).op with
 | .call c=>c
 | _=>{callee:= .value (.const (.bool true)),args:= #[],argTypes:= #[]}
set_option maxHeartbeats 8000000 in
theorem ZW{Q:Exit->Act->World->Prop}(hQ: ∀c a t v w,Q (.panic c) (Act.put a t v) w->Q (.panic c) a w){wd:World}{gA gB:Nat}{aN aO:Array Value}(hA:ai wd gA 27 aN)(hB:ai wd gB 29 aO)(iA:(Tryz.prog.info? 27).map (·.size)=some aN.size)(iB:(Tryz.prog.info? 29).map (·.size)=some aO.size)
  {P0:(Nat->Prop)->World->Value->Prop} (S0:nQ P0)
  {P1:(Nat->Prop)->World->Value->Prop} (S1:nQ P1)
  {PZ:(Nat->Prop)->World->Array Value×Array Value->Prop} (SZ:nQ PZ)
  (C0: ∀(N:Nat->Prop) (W:World),NK wd N W->Calls Tryz.prog 8 #[.agg aN] W fun e w'=> ∃v,e= .returned v/\P0 N w' v/\Below W.heap.size W w')
  (C1: ∀(N:Nat->Prop) (W:World) (v0:Value),NK wd N W->P0 N W v0->Calls Tryz.prog 9 #[.agg aO] W fun e w'=> ∃v,e= .returned v/\P1 N w' v/\Below W.heap.size W w')
  (C2: ∀(N:Nat->Prop) (W:World) (v0:Value) (v1:Value),NK wd N W->P0 N W v0->P1 N W v1->Calls Tryz.prog 7 #[v0,v1] W fun e w'=> ∃u1 u2,e= .returned (.tuple #[.agg u1,.agg u2])/\PZ N w' (u1,u2)/\Below W.heap.size W w')
  (hZ: ∀N W u1 u2,PZ N W (u1,u2)->(u1.size=aH.size/\ ∀u∈u1.toList,u.oneCell'=true)/\u2.size=aC.size/\ ∀u∈u2.toList,u.oneCell'=true)
  (fin: ∀(N:Nat->Prop) (W:World) (v0:Value) (v1:Value) (u1 u2:Array Value) (b8 b9:Nat),NK wd N W->P0 N W v0->P1 N W v1->PZ N W (u1,u2)->ai W b8 37 u1->ai W b9 39 u2->N b8->N b9->b8≠b9->NX 112 (Q .normal) [(2,PH gA),(3,PH gB),(6,PH b8),(7,PH b9)] W) :
  AU 112 Tryz.prog bO Q (fun W=>ai W gA 27 aN/\ai W gB 29 aO) 11 12 (Array.replicate 12 false) [(2,PH gA),(3,PH gB)] wd:=by
 have pG: ∀(N:Nat->Prop) (W:World) (v0:Value) (v1:Value) (u1 u2:Array Value) (b8:Nat) (b9:Nat),NK wd N W->P0 N W v0->P1 N W v1->PZ N W (u1,u2)->(ai W b8 37 aH/\N b8)->(ai W b9 39 aC/\N b9)->b8≠b9->AU 112 Tryz.prog bO Q (fun W=>ai W gA 27 aN/\ai W gB 29 aO) 11 2 (bF 12 [0,1,2,3,4,5,6,7,8,9]) [(2,PH gA),(3,PH gB),(32,.agg u1),(33,.agg u2),(6,PH b8),(7,PH b9)] W:=by
  intro N W v0 v1 u1 u2 b8 b9 H p0 p1 pz h8 h9 hne
  obtain ⟨⟨z1,z2⟩,z3,z4⟩:=hZ N W u1 u2 pz
  have l8:=(H.n _ h8.2).1
  have l9:=(H.n _ h9.2).1
  have lA:=hA.lt
  have lB:=hB.lt
  refine AU.st (o:=opAt bO 10) 10 (by kernel_rfl) (by kernel_rfl) (by kernel_rfl) (by kernel_rfl) (T:=37) (x:= .tmp 6) (y:= .tmp 32) (C:=aH) (by kernel_rfl) rfl rfl h8.1 (by rw [z1]) z2 (by rw [z1];exact aY) (fun w' ho _=>⟨(ho.block _ (by omega)).trans (hA.below H.b hA.lt),(ho.block _ (by omega)).trans (hB.below H.b hB.lt)⟩) fun W1 R1 O1=> ?_
  have H1:=H.one O1 h8.2
  have Ae:=(O1.block _ (Ne.symm hne)).trans h9.1
  refine AU.st (o:=opAt bO 11) 11 (by kernel_rfl) (by kernel_rfl) (by kernel_rfl) (by kernel_rfl) (T:=39) (x:= .tmp 7) (y:= .tmp 33) (C:=aC) (by kernel_rfl) rfl rfl Ae (by rw [z3]) z4 (by rw [z3];exact aZ) (fun _ _ h=>absurd rfl h) fun W2 R2 O2=> ?_
  have H2:=H1.one O2 h9.2
  refine AU.done (by kernel_rfl) ?_
  exact fun ac hE=>fin N W2 v0 v1 u1 u2 b8 b9 H2 (S0.o _ _ _ _ _ (S0.o _ _ _ _ _ p0 O1 h8.2) O2 h9.2) (S1.o _ _ _ _ _ (S1.o _ _ _ _ _ p1 O1 h8.2) O2 h9.2) (SZ.o _ _ _ _ _ (SZ.o _ _ _ _ _ pz O1 h8.2) O2 h9.2) ((O2.block _ hne).trans R1) R2 h8.2 h9.2 hne ac (hE.sub ⟨rfl,rfl,rfl,rfl,trivial⟩)
 have uh: ∀(N:Nat->Prop) (W:World) (v0:Value) (v1:Value) (u1 u2:Array Value) (b8:Nat),NK wd N W->P0 N W v0->P1 N W v1->PZ N W (u1,u2)->(ai W b8 37 aH/\N b8)->AU 112 Tryz.prog bO Q (fun W=>ai W gA 27 aN/\ai W gB 29 aO) 11 3 (bF 12 [0,1,2,3,4,5,6,7,8]) [(2,PH gA),(3,PH gB),(32,.agg u1),(33,.agg u2),(6,PH b8)] W:=by
  intro N W v0 v1 u1 u2 b8 H p0 p1 pz h8
  refine AU.m1 (show Region.ready .any bO (bF 12 [0,1,2,3,4,5,6,7,8])=[9] by kernel_rfl) ?_
  ·have hb:=cU W aC 39
   have H':=H.alloc 39 aC
   have hn: ∀b,(N b\/b=W.heap.size)->N b\/W.heap.size<=b:=fun b hb=>hb.imp id fun e=>by omega
   refine aV.vv (o:=opAt bO 9) (d:=7) (by kernel_rfl) (by kernel_rfl) (by kernel_rfl) (bp (z:= .agg aC) (by kernel_rfl) dr) (by decide) ⟨hA.below H'.b hA.lt,hB.below H'.b hB.lt⟩ ?_
   exact AU.re (by kernel_rfl) (show aW _ [(2,PH gA),(3,PH gB),(32,.agg u1),(33,.agg u2),(6,PH b8),(7,PH W.heap.size)] from ⟨rfl,rfl,rfl,rfl,rfl,rfl,trivial⟩) (pG _ _ _ _ _ _ _ _ H' (S0.b _ _ _ _ _ p0 hb hn) (S1.b _ _ _ _ _ p1 hb hn) (SZ.b _ _ _ _ _ pz hb hn) ⟨h8.1.below hb h8.1.lt,.inl h8.2⟩ ⟨ai.new W 39 aC,.inr rfl⟩ (by have:=h8.1.lt;omega))
 have ug: ∀(N:Nat->Prop) (W:World) (v0:Value) (v1:Value) (u1 u2:Array Value) (b9:Nat),NK wd N W->P0 N W v0->P1 N W v1->PZ N W (u1,u2)->(ai W b9 39 aC/\N b9)->AU 112 Tryz.prog bO Q (fun W=>ai W gA 27 aN/\ai W gB 29 aO) 11 3 (bF 12 [0,1,2,3,4,5,6,7,9]) [(2,PH gA),(3,PH gB),(32,.agg u1),(33,.agg u2),(7,PH b9)] W:=by
  intro N W v0 v1 u1 u2 b9 H p0 p1 pz h9
  refine AU.m1 (show Region.ready .any bO (bF 12 [0,1,2,3,4,5,6,7,9])=[8] by kernel_rfl) ?_
  ·have hb:=cU W aH 37
   have H':=H.alloc 37 aH
   have hn: ∀b,(N b\/b=W.heap.size)->N b\/W.heap.size<=b:=fun b hb=>hb.imp id fun e=>by omega
   refine aV.vv (o:=opAt bO 8) (d:=6) (by kernel_rfl) (by kernel_rfl) (by kernel_rfl) (bp (z:= .agg aH) (by kernel_rfl) dH) (by decide) ⟨hA.below H'.b hA.lt,hB.below H'.b hB.lt⟩ ?_
   exact AU.re (by kernel_rfl) (show aW _ [(2,PH gA),(3,PH gB),(32,.agg u1),(33,.agg u2),(6,PH W.heap.size),(7,PH b9)] from ⟨rfl,rfl,rfl,rfl,rfl,rfl,trivial⟩) (pG _ _ _ _ _ _ _ _ H' (S0.b _ _ _ _ _ p0 hb hn) (S1.b _ _ _ _ _ p1 hb hn) (SZ.b _ _ _ _ _ pz hb hn) ⟨ai.new W 37 aH,.inr rfl⟩ ⟨h9.1.below hb h9.1.lt,.inl h9.2⟩ (by have:=h9.1.lt;omega))
 have BF: ∀(N:Nat->Prop) (W:World) (v0:Value) (v1:Value) (u1 u2:Array Value),NK wd N W->P0 N W v0->P1 N W v1->PZ N W (u1,u2)->AU 112 Tryz.prog bO Q (fun W=>ai W gA 27 aN/\ai W gB 29 aO) 11 4 (bF 12 [0,1,2,3,4,5,6,7]) [(2,PH gA),(3,PH gB),(32,.agg u1),(33,.agg u2)] W:=by
  intro N W v0 v1 u1 u2 H p0 p1 pz
  refine AU.m2 (show Region.ready .any bO (bF 12 [0,1,2,3,4,5,6,7])=[8,9] by kernel_rfl) ?_ ?_
  ·have hb:=cU W aH 37
   have H':=H.alloc 37 aH
   have hn: ∀b,(N b\/b=W.heap.size)->N b\/W.heap.size<=b:=fun b hb=>hb.imp id fun e=>by omega
   refine aV.vv (o:=opAt bO 8) (d:=6) (by kernel_rfl) (by kernel_rfl) (by kernel_rfl) (bp (z:= .agg aH) (by kernel_rfl) dH) (by decide) ⟨hA.below H'.b hA.lt,hB.below H'.b hB.lt⟩ ?_
   exact AU.re (by kernel_rfl) (show aW _ [(2,PH gA),(3,PH gB),(32,.agg u1),(33,.agg u2),(6,PH W.heap.size)] from ⟨rfl,rfl,rfl,rfl,rfl,trivial⟩) (uh _ _ _ _ _ _ _ H' (S0.b _ _ _ _ _ p0 hb hn) (S1.b _ _ _ _ _ p1 hb hn) (SZ.b _ _ _ _ _ pz hb hn) ⟨ai.new W 37 aH,.inr rfl⟩)
  ·have hb:=cU W aC 39
   have H':=H.alloc 39 aC
   have hn: ∀b,(N b\/b=W.heap.size)->N b\/W.heap.size<=b:=fun b hb=>hb.imp id fun e=>by omega
   refine aV.vv (o:=opAt bO 9) (d:=7) (by kernel_rfl) (by kernel_rfl) (by kernel_rfl) (bp (z:= .agg aC) (by kernel_rfl) dr) (by decide) ⟨hA.below H'.b hA.lt,hB.below H'.b hB.lt⟩ ?_
   exact AU.re (by kernel_rfl) (show aW _ [(2,PH gA),(3,PH gB),(32,.agg u1),(33,.agg u2),(7,PH W.heap.size)] from ⟨rfl,rfl,rfl,rfl,rfl,trivial⟩) (ug _ _ _ _ _ _ _ H' (S0.b _ _ _ _ _ p0 hb hn) (S1.b _ _ _ _ _ p1 hb hn) (SZ.b _ _ _ _ _ pz hb hn) ⟨ai.new W 39 aC,.inr rfl⟩)
 have ma: ∀(N:Nat->Prop) (W:World) (v0:Value) (v1:Value) (b8:Nat) (b9:Nat),NK wd N W->P0 N W v0->P1 N W v1->(ai W b8 37 aH/\N b8)->(ai W b9 39 aC/\N b9)->b8≠b9->AU 112 Tryz.prog bO Q (fun W=>ai W gA 27 aN/\ai W gB 29 aO) 11 6 (bF 12 [0,1,2,3,8,9]) [(2,PH gA),(3,PH gB),(27,.agg aN),(29,.agg aO),(28,v0),(30,v1),(6,PH b8),(7,PH b9)] W:=by
  intro N W v0 v1 b8 b9 H p0 p1 h8 h9 hne
  refine AU.m1 (show Region.ready .any bO (bF 12 [0,1,2,3,8,9])=[4] by kernel_rfl) ?_
  ·refine aV.c (o:=opAt bO 4) (d:=31) (by kernel_rfl) (by kernel_rfl) (by kernel_rfl) (bu (cl:=CJ) (args:= #[v0,v1]) (by kernel_rfl) (by kernel_rfl) (by kernel_rfl) rfl) (by decide) (C2 N W v0 v1 H p0 p1) ?_
   rintro _ W' ⟨u1,u2,rfl,pz,hb⟩
   have H':=H.below hb
   have hn: ∀b,N b->N b\/W.heap.size<=b:=fun b hb=> .inl hb
   refine ⟨_,rfl,⟨hA.below H'.b hA.lt,hB.below H'.b hB.lt⟩,?_⟩
   refine AU.tk (o:=opAt bO 5) (d:=26) 5 (by kernel_rfl) (by kernel_rfl) (fun _ _ _ h=>hQ _ _ _ _ _ h) (by kernel_rfl) (by kernel_rfl) (fun W hW=>bf (x:= .tmp 31) (by kernel_rfl) rfl) (by decide) ⟨hA.below H'.b hA.lt,hB.below H'.b hB.lt⟩ ?_
   refine AU.tk (o:=opAt bO 6) (d:=32) 6 (by kernel_rfl) (by kernel_rfl) (fun _ _ _ h=>hQ _ _ _ _ _ h) (by kernel_rfl) (by kernel_rfl) (fun W hW=>cJ (x:= .tmp 26) (i:=0) (by kernel_rfl) rfl rfl) (by decide) ⟨hA.below H'.b hA.lt,hB.below H'.b hB.lt⟩ ?_
   refine AU.tk (o:=opAt bO 7) (d:=33) 7 (by kernel_rfl) (by kernel_rfl) (fun _ _ _ h=>hQ _ _ _ _ _ h) (by kernel_rfl) (by kernel_rfl) (fun W hW=>cJ (x:= .tmp 26) (i:=1) (by kernel_rfl) rfl rfl) (by decide) ⟨hA.below H'.b hA.lt,hB.below H'.b hB.lt⟩ ?_
   exact AU.re (by kernel_rfl) (show aW _ [(2,PH gA),(3,PH gB),(32,.agg u1),(33,.agg u2),(6,PH b8),(7,PH b9)] from ⟨rfl,rfl,rfl,rfl,rfl,rfl,trivial⟩) (pG _ _ _ _ _ _ _ _ H' (S0.b _ _ _ _ _ p0 hb hn) (S1.b _ _ _ _ _ p1 hb hn) pz ⟨h8.1.below hb h8.1.lt,h8.2⟩ ⟨h9.1.below hb h9.1.lt,h9.2⟩ hne)
 have pF: ∀(N:Nat->Prop) (W:World) (v0:Value) (v1:Value) (b8:Nat),NK wd N W->P0 N W v0->P1 N W v1->(ai W b8 37 aH/\N b8)->AU 112 Tryz.prog bO Q (fun W=>ai W gA 27 aN/\ai W gB 29 aO) 11 7 (bF 12 [0,1,2,3,8]) [(2,PH gA),(3,PH gB),(27,.agg aN),(29,.agg aO),(28,v0),(30,v1),(6,PH b8)] W:=by
  intro N W v0 v1 b8 H p0 p1 h8
  refine AU.m2 (show Region.ready .any bO (bF 12 [0,1,2,3,8])=[4,9] by kernel_rfl) ?_ ?_
  ·refine aV.c (o:=opAt bO 4) (d:=31) (by kernel_rfl) (by kernel_rfl) (by kernel_rfl) (bu (cl:=CJ) (args:= #[v0,v1]) (by kernel_rfl) (by kernel_rfl) (by kernel_rfl) rfl) (by decide) (C2 N W v0 v1 H p0 p1) ?_
   rintro _ W' ⟨u1,u2,rfl,pz,hb⟩
   have H':=H.below hb
   have hn: ∀b,N b->N b\/W.heap.size<=b:=fun b hb=> .inl hb
   refine ⟨_,rfl,⟨hA.below H'.b hA.lt,hB.below H'.b hB.lt⟩,?_⟩
   refine AU.tk (o:=opAt bO 5) (d:=26) 5 (by kernel_rfl) (by kernel_rfl) (fun _ _ _ h=>hQ _ _ _ _ _ h) (by kernel_rfl) (by kernel_rfl) (fun W hW=>bf (x:= .tmp 31) (by kernel_rfl) rfl) (by decide) ⟨hA.below H'.b hA.lt,hB.below H'.b hB.lt⟩ ?_
   refine AU.tk (o:=opAt bO 6) (d:=32) 6 (by kernel_rfl) (by kernel_rfl) (fun _ _ _ h=>hQ _ _ _ _ _ h) (by kernel_rfl) (by kernel_rfl) (fun W hW=>cJ (x:= .tmp 26) (i:=0) (by kernel_rfl) rfl rfl) (by decide) ⟨hA.below H'.b hA.lt,hB.below H'.b hB.lt⟩ ?_
   refine AU.tk (o:=opAt bO 7) (d:=33) 7 (by kernel_rfl) (by kernel_rfl) (fun _ _ _ h=>hQ _ _ _ _ _ h) (by kernel_rfl) (by kernel_rfl) (fun W hW=>cJ (x:= .tmp 26) (i:=1) (by kernel_rfl) rfl rfl) (by decide) ⟨hA.below H'.b hA.lt,hB.below H'.b hB.lt⟩ ?_
   exact AU.re (by kernel_rfl) (show aW _ [(2,PH gA),(3,PH gB),(32,.agg u1),(33,.agg u2),(6,PH b8)] from ⟨rfl,rfl,rfl,rfl,rfl,trivial⟩) (uh _ _ _ _ _ _ _ H' (S0.b _ _ _ _ _ p0 hb hn) (S1.b _ _ _ _ _ p1 hb hn) pz ⟨h8.1.below hb h8.1.lt,h8.2⟩)
  ·have hb:=cU W aC 39
   have H':=H.alloc 39 aC
   have hn: ∀b,(N b\/b=W.heap.size)->N b\/W.heap.size<=b:=fun b hb=>hb.imp id fun e=>by omega
   refine aV.vv (o:=opAt bO 9) (d:=7) (by kernel_rfl) (by kernel_rfl) (by kernel_rfl) (bp (z:= .agg aC) (by kernel_rfl) dr) (by decide) ⟨hA.below H'.b hA.lt,hB.below H'.b hB.lt⟩ ?_
   exact AU.re (by kernel_rfl) (show aW _ [(2,PH gA),(3,PH gB),(27,.agg aN),(29,.agg aO),(28,v0),(30,v1),(6,PH b8),(7,PH W.heap.size)] from ⟨rfl,rfl,rfl,rfl,rfl,rfl,rfl,rfl,trivial⟩) (ma _ _ _ _ _ _ H' (S0.b _ _ _ _ _ p0 hb hn) (S1.b _ _ _ _ _ p1 hb hn) ⟨h8.1.below hb h8.1.lt,.inl h8.2⟩ ⟨ai.new W 39 aC,.inr rfl⟩ (by have:=h8.1.lt;omega))
 have pE: ∀(N:Nat->Prop) (W:World) (v0:Value) (v1:Value) (b9:Nat),NK wd N W->P0 N W v0->P1 N W v1->(ai W b9 39 aC/\N b9)->AU 112 Tryz.prog bO Q (fun W=>ai W gA 27 aN/\ai W gB 29 aO) 11 7 (bF 12 [0,1,2,3,9]) [(2,PH gA),(3,PH gB),(27,.agg aN),(29,.agg aO),(28,v0),(30,v1),(7,PH b9)] W:=by
  intro N W v0 v1 b9 H p0 p1 h9
  refine AU.m2 (show Region.ready .any bO (bF 12 [0,1,2,3,9])=[4,8] by kernel_rfl) ?_ ?_
  ·refine aV.c (o:=opAt bO 4) (d:=31) (by kernel_rfl) (by kernel_rfl) (by kernel_rfl) (bu (cl:=CJ) (args:= #[v0,v1]) (by kernel_rfl) (by kernel_rfl) (by kernel_rfl) rfl) (by decide) (C2 N W v0 v1 H p0 p1) ?_
   rintro _ W' ⟨u1,u2,rfl,pz,hb⟩
   have H':=H.below hb
   have hn: ∀b,N b->N b\/W.heap.size<=b:=fun b hb=> .inl hb
   refine ⟨_,rfl,⟨hA.below H'.b hA.lt,hB.below H'.b hB.lt⟩,?_⟩
   refine AU.tk (o:=opAt bO 5) (d:=26) 5 (by kernel_rfl) (by kernel_rfl) (fun _ _ _ h=>hQ _ _ _ _ _ h) (by kernel_rfl) (by kernel_rfl) (fun W hW=>bf (x:= .tmp 31) (by kernel_rfl) rfl) (by decide) ⟨hA.below H'.b hA.lt,hB.below H'.b hB.lt⟩ ?_
   refine AU.tk (o:=opAt bO 6) (d:=32) 6 (by kernel_rfl) (by kernel_rfl) (fun _ _ _ h=>hQ _ _ _ _ _ h) (by kernel_rfl) (by kernel_rfl) (fun W hW=>cJ (x:= .tmp 26) (i:=0) (by kernel_rfl) rfl rfl) (by decide) ⟨hA.below H'.b hA.lt,hB.below H'.b hB.lt⟩ ?_
   refine AU.tk (o:=opAt bO 7) (d:=33) 7 (by kernel_rfl) (by kernel_rfl) (fun _ _ _ h=>hQ _ _ _ _ _ h) (by kernel_rfl) (by kernel_rfl) (fun W hW=>cJ (x:= .tmp 26) (i:=1) (by kernel_rfl) rfl rfl) (by decide) ⟨hA.below H'.b hA.lt,hB.below H'.b hB.lt⟩ ?_
   exact AU.re (by kernel_rfl) (show aW _ [(2,PH gA),(3,PH gB),(32,.agg u1),(33,.agg u2),(7,PH b9)] from ⟨rfl,rfl,rfl,rfl,rfl,trivial⟩) (ug _ _ _ _ _ _ _ H' (S0.b _ _ _ _ _ p0 hb hn) (S1.b _ _ _ _ _ p1 hb hn) pz ⟨h9.1.below hb h9.1.lt,h9.2⟩)
  ·have hb:=cU W aH 37
   have H':=H.alloc 37 aH
   have hn: ∀b,(N b\/b=W.heap.size)->N b\/W.heap.size<=b:=fun b hb=>hb.imp id fun e=>by omega
   refine aV.vv (o:=opAt bO 8) (d:=6) (by kernel_rfl) (by kernel_rfl) (by kernel_rfl) (bp (z:= .agg aH) (by kernel_rfl) dH) (by decide) ⟨hA.below H'.b hA.lt,hB.below H'.b hB.lt⟩ ?_
   exact AU.re (by kernel_rfl) (show aW _ [(2,PH gA),(3,PH gB),(27,.agg aN),(29,.agg aO),(28,v0),(30,v1),(6,PH W.heap.size),(7,PH b9)] from ⟨rfl,rfl,rfl,rfl,rfl,rfl,rfl,rfl,trivial⟩) (ma _ _ _ _ _ _ H' (S0.b _ _ _ _ _ p0 hb hn) (S1.b _ _ _ _ _ p1 hb hn) ⟨ai.new W 37 aH,.inr rfl⟩ ⟨h9.1.below hb h9.1.lt,.inl h9.2⟩ (by have:=h9.1.lt;omega))
 have wG: ∀(N:Nat->Prop) (W:World) (v0:Value) (v1:Value),NK wd N W->P0 N W v0->P1 N W v1->AU 112 Tryz.prog bO Q (fun W=>ai W gA 27 aN/\ai W gB 29 aO) 11 8 (bF 12 [0,1,2,3]) [(2,PH gA),(3,PH gB),(27,.agg aN),(29,.agg aO),(28,v0),(30,v1)] W:=by
  intro N W v0 v1 H p0 p1
  refine AU.m3 (show Region.ready .any bO (bF 12 [0,1,2,3])=[4,8,9] by kernel_rfl) ?_ ?_ ?_
  ·refine aV.c (o:=opAt bO 4) (d:=31) (by kernel_rfl) (by kernel_rfl) (by kernel_rfl) (bu (cl:=CJ) (args:= #[v0,v1]) (by kernel_rfl) (by kernel_rfl) (by kernel_rfl) rfl) (by decide) (C2 N W v0 v1 H p0 p1) ?_
   rintro _ W' ⟨u1,u2,rfl,pz,hb⟩
   have H':=H.below hb
   have hn: ∀b,N b->N b\/W.heap.size<=b:=fun b hb=> .inl hb
   refine ⟨_,rfl,⟨hA.below H'.b hA.lt,hB.below H'.b hB.lt⟩,?_⟩
   refine AU.tk (o:=opAt bO 5) (d:=26) 5 (by kernel_rfl) (by kernel_rfl) (fun _ _ _ h=>hQ _ _ _ _ _ h) (by kernel_rfl) (by kernel_rfl) (fun W hW=>bf (x:= .tmp 31) (by kernel_rfl) rfl) (by decide) ⟨hA.below H'.b hA.lt,hB.below H'.b hB.lt⟩ ?_
   refine AU.tk (o:=opAt bO 6) (d:=32) 6 (by kernel_rfl) (by kernel_rfl) (fun _ _ _ h=>hQ _ _ _ _ _ h) (by kernel_rfl) (by kernel_rfl) (fun W hW=>cJ (x:= .tmp 26) (i:=0) (by kernel_rfl) rfl rfl) (by decide) ⟨hA.below H'.b hA.lt,hB.below H'.b hB.lt⟩ ?_
   refine AU.tk (o:=opAt bO 7) (d:=33) 7 (by kernel_rfl) (by kernel_rfl) (fun _ _ _ h=>hQ _ _ _ _ _ h) (by kernel_rfl) (by kernel_rfl) (fun W hW=>cJ (x:= .tmp 26) (i:=1) (by kernel_rfl) rfl rfl) (by decide) ⟨hA.below H'.b hA.lt,hB.below H'.b hB.lt⟩ ?_
   exact AU.re (by kernel_rfl) (show aW _ [(2,PH gA),(3,PH gB),(32,.agg u1),(33,.agg u2)] from ⟨rfl,rfl,rfl,rfl,trivial⟩) (BF _ _ _ _ _ _ H' (S0.b _ _ _ _ _ p0 hb hn) (S1.b _ _ _ _ _ p1 hb hn) pz)
  ·have hb:=cU W aH 37
   have H':=H.alloc 37 aH
   have hn: ∀b,(N b\/b=W.heap.size)->N b\/W.heap.size<=b:=fun b hb=>hb.imp id fun e=>by omega
   refine aV.vv (o:=opAt bO 8) (d:=6) (by kernel_rfl) (by kernel_rfl) (by kernel_rfl) (bp (z:= .agg aH) (by kernel_rfl) dH) (by decide) ⟨hA.below H'.b hA.lt,hB.below H'.b hB.lt⟩ ?_
   exact AU.re (by kernel_rfl) (show aW _ [(2,PH gA),(3,PH gB),(27,.agg aN),(29,.agg aO),(28,v0),(30,v1),(6,PH W.heap.size)] from ⟨rfl,rfl,rfl,rfl,rfl,rfl,rfl,trivial⟩) (pF _ _ _ _ _ H' (S0.b _ _ _ _ _ p0 hb hn) (S1.b _ _ _ _ _ p1 hb hn) ⟨ai.new W 37 aH,.inr rfl⟩)
  ·have hb:=cU W aC 39
   have H':=H.alloc 39 aC
   have hn: ∀b,(N b\/b=W.heap.size)->N b\/W.heap.size<=b:=fun b hb=>hb.imp id fun e=>by omega
   refine aV.vv (o:=opAt bO 9) (d:=7) (by kernel_rfl) (by kernel_rfl) (by kernel_rfl) (bp (z:= .agg aC) (by kernel_rfl) dr) (by decide) ⟨hA.below H'.b hA.lt,hB.below H'.b hB.lt⟩ ?_
   exact AU.re (by kernel_rfl) (show aW _ [(2,PH gA),(3,PH gB),(27,.agg aN),(29,.agg aO),(28,v0),(30,v1),(7,PH W.heap.size)] from ⟨rfl,rfl,rfl,rfl,rfl,rfl,rfl,trivial⟩) (pE _ _ _ _ _ H' (S0.b _ _ _ _ _ p0 hb hn) (S1.b _ _ _ _ _ p1 hb hn) ⟨ai.new W 39 aC,.inr rfl⟩)
 have lZ: ∀(N:Nat->Prop) (W:World) (v0:Value) (b8:Nat) (b9:Nat),NK wd N W->P0 N W v0->(ai W b8 37 aH/\N b8)->(ai W b9 39 aC/\N b9)->b8≠b9->AU 112 Tryz.prog bO Q (fun W=>ai W gA 27 aN/\ai W gB 29 aO) 11 7 (bF 12 [0,1,2,8,9]) [(2,PH gA),(3,PH gB),(27,.agg aN),(29,.agg aO),(28,v0),(6,PH b8),(7,PH b9)] W:=by
  intro N W v0 b8 b9 H p0 h8 h9 hne
  refine AU.m1 (show Region.ready .any bO (bF 12 [0,1,2,8,9])=[3] by kernel_rfl) ?_
  ·refine aV.c (o:=opAt bO 3) (d:=30) (by kernel_rfl) (by kernel_rfl) (by kernel_rfl) (bu (cl:=CI) (args:= #[.agg aO]) (by kernel_rfl) (by kernel_rfl) (by kernel_rfl) rfl) (by decide) (C1 N W v0 H p0) ?_
   rintro _ W' ⟨v1,rfl,pn,hb⟩
   have H':=H.below hb
   have hn: ∀b,N b->N b\/W.heap.size<=b:=fun b hb=> .inl hb
   refine ⟨_,rfl,⟨hA.below H'.b hA.lt,hB.below H'.b hB.lt⟩,?_⟩
   exact AU.re (by kernel_rfl) (show aW _ [(2,PH gA),(3,PH gB),(27,.agg aN),(29,.agg aO),(28,v0),(30,v1),(6,PH b8),(7,PH b9)] from ⟨rfl,rfl,rfl,rfl,rfl,rfl,rfl,rfl,trivial⟩) (ma _ _ _ _ _ _ H' (S0.b _ _ _ _ _ p0 hb hn) pn ⟨h8.1.below hb h8.1.lt,h8.2⟩ ⟨h9.1.below hb h9.1.lt,h9.2⟩ hne)
 have pu: ∀(N:Nat->Prop) (W:World) (v0:Value) (b8:Nat),NK wd N W->P0 N W v0->(ai W b8 37 aH/\N b8)->AU 112 Tryz.prog bO Q (fun W=>ai W gA 27 aN/\ai W gB 29 aO) 11 8 (bF 12 [0,1,2,8]) [(2,PH gA),(3,PH gB),(27,.agg aN),(29,.agg aO),(28,v0),(6,PH b8)] W:=by
  intro N W v0 b8 H p0 h8
  refine AU.m2 (show Region.ready .any bO (bF 12 [0,1,2,8])=[3,9] by kernel_rfl) ?_ ?_
  ·refine aV.c (o:=opAt bO 3) (d:=30) (by kernel_rfl) (by kernel_rfl) (by kernel_rfl) (bu (cl:=CI) (args:= #[.agg aO]) (by kernel_rfl) (by kernel_rfl) (by kernel_rfl) rfl) (by decide) (C1 N W v0 H p0) ?_
   rintro _ W' ⟨v1,rfl,pn,hb⟩
   have H':=H.below hb
   have hn: ∀b,N b->N b\/W.heap.size<=b:=fun b hb=> .inl hb
   refine ⟨_,rfl,⟨hA.below H'.b hA.lt,hB.below H'.b hB.lt⟩,?_⟩
   exact AU.re (by kernel_rfl) (show aW _ [(2,PH gA),(3,PH gB),(27,.agg aN),(29,.agg aO),(28,v0),(30,v1),(6,PH b8)] from ⟨rfl,rfl,rfl,rfl,rfl,rfl,rfl,trivial⟩) (pF _ _ _ _ _ H' (S0.b _ _ _ _ _ p0 hb hn) pn ⟨h8.1.below hb h8.1.lt,h8.2⟩)
  ·have hb:=cU W aC 39
   have H':=H.alloc 39 aC
   have hn: ∀b,(N b\/b=W.heap.size)->N b\/W.heap.size<=b:=fun b hb=>hb.imp id fun e=>by omega
   refine aV.vv (o:=opAt bO 9) (d:=7) (by kernel_rfl) (by kernel_rfl) (by kernel_rfl) (bp (z:= .agg aC) (by kernel_rfl) dr) (by decide) ⟨hA.below H'.b hA.lt,hB.below H'.b hB.lt⟩ ?_
   exact AU.re (by kernel_rfl) (show aW _ [(2,PH gA),(3,PH gB),(27,.agg aN),(29,.agg aO),(28,v0),(6,PH b8),(7,PH W.heap.size)] from ⟨rfl,rfl,rfl,rfl,rfl,rfl,rfl,trivial⟩) (lZ _ _ _ _ _ H' (S0.b _ _ _ _ _ p0 hb hn) ⟨h8.1.below hb h8.1.lt,.inl h8.2⟩ ⟨ai.new W 39 aC,.inr rfl⟩ (by have:=h8.1.lt;omega))
 have pq: ∀(N:Nat->Prop) (W:World) (v0:Value) (b9:Nat),NK wd N W->P0 N W v0->(ai W b9 39 aC/\N b9)->AU 112 Tryz.prog bO Q (fun W=>ai W gA 27 aN/\ai W gB 29 aO) 11 8 (bF 12 [0,1,2,9]) [(2,PH gA),(3,PH gB),(27,.agg aN),(29,.agg aO),(28,v0),(7,PH b9)] W:=by
  intro N W v0 b9 H p0 h9
  refine AU.m2 (show Region.ready .any bO (bF 12 [0,1,2,9])=[3,8] by kernel_rfl) ?_ ?_
  ·refine aV.c (o:=opAt bO 3) (d:=30) (by kernel_rfl) (by kernel_rfl) (by kernel_rfl) (bu (cl:=CI) (args:= #[.agg aO]) (by kernel_rfl) (by kernel_rfl) (by kernel_rfl) rfl) (by decide) (C1 N W v0 H p0) ?_
   rintro _ W' ⟨v1,rfl,pn,hb⟩
   have H':=H.below hb
   have hn: ∀b,N b->N b\/W.heap.size<=b:=fun b hb=> .inl hb
   refine ⟨_,rfl,⟨hA.below H'.b hA.lt,hB.below H'.b hB.lt⟩,?_⟩
   exact AU.re (by kernel_rfl) (show aW _ [(2,PH gA),(3,PH gB),(27,.agg aN),(29,.agg aO),(28,v0),(30,v1),(7,PH b9)] from ⟨rfl,rfl,rfl,rfl,rfl,rfl,rfl,trivial⟩) (pE _ _ _ _ _ H' (S0.b _ _ _ _ _ p0 hb hn) pn ⟨h9.1.below hb h9.1.lt,h9.2⟩)
  ·have hb:=cU W aH 37
   have H':=H.alloc 37 aH
   have hn: ∀b,(N b\/b=W.heap.size)->N b\/W.heap.size<=b:=fun b hb=>hb.imp id fun e=>by omega
   refine aV.vv (o:=opAt bO 8) (d:=6) (by kernel_rfl) (by kernel_rfl) (by kernel_rfl) (bp (z:= .agg aH) (by kernel_rfl) dH) (by decide) ⟨hA.below H'.b hA.lt,hB.below H'.b hB.lt⟩ ?_
   exact AU.re (by kernel_rfl) (show aW _ [(2,PH gA),(3,PH gB),(27,.agg aN),(29,.agg aO),(28,v0),(6,PH W.heap.size),(7,PH b9)] from ⟨rfl,rfl,rfl,rfl,rfl,rfl,rfl,trivial⟩) (lZ _ _ _ _ _ H' (S0.b _ _ _ _ _ p0 hb hn) ⟨ai.new W 37 aH,.inr rfl⟩ ⟨h9.1.below hb h9.1.lt,.inl h9.2⟩ (by have:=h9.1.lt;omega))
 have wF: ∀(N:Nat->Prop) (W:World) (v0:Value),NK wd N W->P0 N W v0->AU 112 Tryz.prog bO Q (fun W=>ai W gA 27 aN/\ai W gB 29 aO) 11 9 (bF 12 [0,1,2]) [(2,PH gA),(3,PH gB),(27,.agg aN),(29,.agg aO),(28,v0)] W:=by
  intro N W v0 H p0
  refine AU.m3 (show Region.ready .any bO (bF 12 [0,1,2])=[3,8,9] by kernel_rfl) ?_ ?_ ?_
  ·refine aV.c (o:=opAt bO 3) (d:=30) (by kernel_rfl) (by kernel_rfl) (by kernel_rfl) (bu (cl:=CI) (args:= #[.agg aO]) (by kernel_rfl) (by kernel_rfl) (by kernel_rfl) rfl) (by decide) (C1 N W v0 H p0) ?_
   rintro _ W' ⟨v1,rfl,pn,hb⟩
   have H':=H.below hb
   have hn: ∀b,N b->N b\/W.heap.size<=b:=fun b hb=> .inl hb
   refine ⟨_,rfl,⟨hA.below H'.b hA.lt,hB.below H'.b hB.lt⟩,?_⟩
   exact AU.re (by kernel_rfl) (show aW _ [(2,PH gA),(3,PH gB),(27,.agg aN),(29,.agg aO),(28,v0),(30,v1)] from ⟨rfl,rfl,rfl,rfl,rfl,rfl,trivial⟩) (wG _ _ _ _ H' (S0.b _ _ _ _ _ p0 hb hn) pn)
  ·have hb:=cU W aH 37
   have H':=H.alloc 37 aH
   have hn: ∀b,(N b\/b=W.heap.size)->N b\/W.heap.size<=b:=fun b hb=>hb.imp id fun e=>by omega
   refine aV.vv (o:=opAt bO 8) (d:=6) (by kernel_rfl) (by kernel_rfl) (by kernel_rfl) (bp (z:= .agg aH) (by kernel_rfl) dH) (by decide) ⟨hA.below H'.b hA.lt,hB.below H'.b hB.lt⟩ ?_
   exact AU.re (by kernel_rfl) (show aW _ [(2,PH gA),(3,PH gB),(27,.agg aN),(29,.agg aO),(28,v0),(6,PH W.heap.size)] from ⟨rfl,rfl,rfl,rfl,rfl,rfl,trivial⟩) (pu _ _ _ _ H' (S0.b _ _ _ _ _ p0 hb hn) ⟨ai.new W 37 aH,.inr rfl⟩)
  ·have hb:=cU W aC 39
   have H':=H.alloc 39 aC
   have hn: ∀b,(N b\/b=W.heap.size)->N b\/W.heap.size<=b:=fun b hb=>hb.imp id fun e=>by omega
   refine aV.vv (o:=opAt bO 9) (d:=7) (by kernel_rfl) (by kernel_rfl) (by kernel_rfl) (bp (z:= .agg aC) (by kernel_rfl) dr) (by decide) ⟨hA.below H'.b hA.lt,hB.below H'.b hB.lt⟩ ?_
   exact AU.re (by kernel_rfl) (show aW _ [(2,PH gA),(3,PH gB),(27,.agg aN),(29,.agg aO),(28,v0),(7,PH W.heap.size)] from ⟨rfl,rfl,rfl,rfl,rfl,rfl,trivial⟩) (pq _ _ _ _ H' (S0.b _ _ _ _ _ p0 hb hn) ⟨ai.new W 39 aC,.inr rfl⟩)
 have pj: ∀(N:Nat->Prop) (W:World) (b8:Nat) (b9:Nat),NK wd N W->(ai W b8 37 aH/\N b8)->(ai W b9 39 aC/\N b9)->b8≠b9->AU 112 Tryz.prog bO Q (fun W=>ai W gA 27 aN/\ai W gB 29 aO) 11 8 (bF 12 [0,2,8,9]) [(2,PH gA),(3,PH gB),(27,.agg aN),(29,.agg aO),(6,PH b8),(7,PH b9)] W:=by
  intro N W b8 b9 H h8 h9 hne
  refine AU.m1 (show Region.ready .any bO (bF 12 [0,2,8,9])=[1] by kernel_rfl) ?_
  ·refine aV.c (o:=opAt bO 1) (d:=28) (by kernel_rfl) (by kernel_rfl) (by kernel_rfl) (bu (cl:=CH) (args:= #[.agg aN]) (by kernel_rfl) (by kernel_rfl) (by kernel_rfl) rfl) (by decide) (C0 N W H) ?_
   rintro _ W' ⟨v0,rfl,pn,hb⟩
   have H':=H.below hb
   have hn: ∀b,N b->N b\/W.heap.size<=b:=fun b hb=> .inl hb
   refine ⟨_,rfl,⟨hA.below H'.b hA.lt,hB.below H'.b hB.lt⟩,?_⟩
   exact AU.re (by kernel_rfl) (show aW _ [(2,PH gA),(3,PH gB),(27,.agg aN),(29,.agg aO),(28,v0),(6,PH b8),(7,PH b9)] from ⟨rfl,rfl,rfl,rfl,rfl,rfl,rfl,trivial⟩) (lZ _ _ _ _ _ H' pn ⟨h8.1.below hb h8.1.lt,h8.2⟩ ⟨h9.1.below hb h9.1.lt,h9.2⟩ hne)
 have wE: ∀(N:Nat->Prop) (W:World) (b8:Nat),NK wd N W->(ai W b8 37 aH/\N b8)->AU 112 Tryz.prog bO Q (fun W=>ai W gA 27 aN/\ai W gB 29 aO) 11 9 (bF 12 [0,2,8]) [(2,PH gA),(3,PH gB),(27,.agg aN),(29,.agg aO),(6,PH b8)] W:=by
  intro N W b8 H h8
  refine AU.m2 (show Region.ready .any bO (bF 12 [0,2,8])=[1,9] by kernel_rfl) ?_ ?_
  ·refine aV.c (o:=opAt bO 1) (d:=28) (by kernel_rfl) (by kernel_rfl) (by kernel_rfl) (bu (cl:=CH) (args:= #[.agg aN]) (by kernel_rfl) (by kernel_rfl) (by kernel_rfl) rfl) (by decide) (C0 N W H) ?_
   rintro _ W' ⟨v0,rfl,pn,hb⟩
   have H':=H.below hb
   have hn: ∀b,N b->N b\/W.heap.size<=b:=fun b hb=> .inl hb
   refine ⟨_,rfl,⟨hA.below H'.b hA.lt,hB.below H'.b hB.lt⟩,?_⟩
   exact AU.re (by kernel_rfl) (show aW _ [(2,PH gA),(3,PH gB),(27,.agg aN),(29,.agg aO),(28,v0),(6,PH b8)] from ⟨rfl,rfl,rfl,rfl,rfl,rfl,trivial⟩) (pu _ _ _ _ H' pn ⟨h8.1.below hb h8.1.lt,h8.2⟩)
  ·have hb:=cU W aC 39
   have H':=H.alloc 39 aC
   have hn: ∀b,(N b\/b=W.heap.size)->N b\/W.heap.size<=b:=fun b hb=>hb.imp id fun e=>by omega
   refine aV.vv (o:=opAt bO 9) (d:=7) (by kernel_rfl) (by kernel_rfl) (by kernel_rfl) (bp (z:= .agg aC) (by kernel_rfl) dr) (by decide) ⟨hA.below H'.b hA.lt,hB.below H'.b hB.lt⟩ ?_
   exact AU.re (by kernel_rfl) (show aW _ [(2,PH gA),(3,PH gB),(27,.agg aN),(29,.agg aO),(6,PH b8),(7,PH W.heap.size)] from ⟨rfl,rfl,rfl,rfl,rfl,rfl,trivial⟩) (pj _ _ _ _ H' ⟨h8.1.below hb h8.1.lt,.inl h8.2⟩ ⟨ai.new W 39 aC,.inr rfl⟩ (by have:=h8.1.lt;omega))
 have wD: ∀(N:Nat->Prop) (W:World) (b9:Nat),NK wd N W->(ai W b9 39 aC/\N b9)->AU 112 Tryz.prog bO Q (fun W=>ai W gA 27 aN/\ai W gB 29 aO) 11 9 (bF 12 [0,2,9]) [(2,PH gA),(3,PH gB),(27,.agg aN),(29,.agg aO),(7,PH b9)] W:=by
  intro N W b9 H h9
  refine AU.m2 (show Region.ready .any bO (bF 12 [0,2,9])=[1,8] by kernel_rfl) ?_ ?_
  ·refine aV.c (o:=opAt bO 1) (d:=28) (by kernel_rfl) (by kernel_rfl) (by kernel_rfl) (bu (cl:=CH) (args:= #[.agg aN]) (by kernel_rfl) (by kernel_rfl) (by kernel_rfl) rfl) (by decide) (C0 N W H) ?_
   rintro _ W' ⟨v0,rfl,pn,hb⟩
   have H':=H.below hb
   have hn: ∀b,N b->N b\/W.heap.size<=b:=fun b hb=> .inl hb
   refine ⟨_,rfl,⟨hA.below H'.b hA.lt,hB.below H'.b hB.lt⟩,?_⟩
   exact AU.re (by kernel_rfl) (show aW _ [(2,PH gA),(3,PH gB),(27,.agg aN),(29,.agg aO),(28,v0),(7,PH b9)] from ⟨rfl,rfl,rfl,rfl,rfl,rfl,trivial⟩) (pq _ _ _ _ H' pn ⟨h9.1.below hb h9.1.lt,h9.2⟩)
  ·have hb:=cU W aH 37
   have H':=H.alloc 37 aH
   have hn: ∀b,(N b\/b=W.heap.size)->N b\/W.heap.size<=b:=fun b hb=>hb.imp id fun e=>by omega
   refine aV.vv (o:=opAt bO 8) (d:=6) (by kernel_rfl) (by kernel_rfl) (by kernel_rfl) (bp (z:= .agg aH) (by kernel_rfl) dH) (by decide) ⟨hA.below H'.b hA.lt,hB.below H'.b hB.lt⟩ ?_
   exact AU.re (by kernel_rfl) (show aW _ [(2,PH gA),(3,PH gB),(27,.agg aN),(29,.agg aO),(6,PH W.heap.size),(7,PH b9)] from ⟨rfl,rfl,rfl,rfl,rfl,rfl,trivial⟩) (pj _ _ _ _ H' ⟨ai.new W 37 aH,.inr rfl⟩ ⟨h9.1.below hb h9.1.lt,.inl h9.2⟩ (by have:=h9.1.lt;omega))
 have wC: ∀(N:Nat->Prop) (W:World),NK wd N W->AU 112 Tryz.prog bO Q (fun W=>ai W gA 27 aN/\ai W gB 29 aO) 11 10 (bF 12 [0,2]) [(2,PH gA),(3,PH gB),(27,.agg aN),(29,.agg aO)] W:=by
  intro N W H
  refine AU.m3 (show Region.ready .any bO (bF 12 [0,2])=[1,8,9] by kernel_rfl) ?_ ?_ ?_
  ·refine aV.c (o:=opAt bO 1) (d:=28) (by kernel_rfl) (by kernel_rfl) (by kernel_rfl) (bu (cl:=CH) (args:= #[.agg aN]) (by kernel_rfl) (by kernel_rfl) (by kernel_rfl) rfl) (by decide) (C0 N W H) ?_
   rintro _ W' ⟨v0,rfl,pn,hb⟩
   have H':=H.below hb
   have hn: ∀b,N b->N b\/W.heap.size<=b:=fun b hb=> .inl hb
   refine ⟨_,rfl,⟨hA.below H'.b hA.lt,hB.below H'.b hB.lt⟩,?_⟩
   exact AU.re (by kernel_rfl) (show aW _ [(2,PH gA),(3,PH gB),(27,.agg aN),(29,.agg aO),(28,v0)] from ⟨rfl,rfl,rfl,rfl,rfl,trivial⟩) (wF _ _ _ H' pn)
  ·have hb:=cU W aH 37
   have H':=H.alloc 37 aH
   have hn: ∀b,(N b\/b=W.heap.size)->N b\/W.heap.size<=b:=fun b hb=>hb.imp id fun e=>by omega
   refine aV.vv (o:=opAt bO 8) (d:=6) (by kernel_rfl) (by kernel_rfl) (by kernel_rfl) (bp (z:= .agg aH) (by kernel_rfl) dH) (by decide) ⟨hA.below H'.b hA.lt,hB.below H'.b hB.lt⟩ ?_
   exact AU.re (by kernel_rfl) (show aW _ [(2,PH gA),(3,PH gB),(27,.agg aN),(29,.agg aO),(6,PH W.heap.size)] from ⟨rfl,rfl,rfl,rfl,rfl,trivial⟩) (wE _ _ _ H' ⟨ai.new W 37 aH,.inr rfl⟩)
  ·have hb:=cU W aC 39
   have H':=H.alloc 39 aC
   have hn: ∀b,(N b\/b=W.heap.size)->N b\/W.heap.size<=b:=fun b hb=>hb.imp id fun e=>by omega
   refine aV.vv (o:=opAt bO 9) (d:=7) (by kernel_rfl) (by kernel_rfl) (by kernel_rfl) (bp (z:= .agg aC) (by kernel_rfl) dr) (by decide) ⟨hA.below H'.b hA.lt,hB.below H'.b hB.lt⟩ ?_
   exact AU.re (by kernel_rfl) (show aW _ [(2,PH gA),(3,PH gB),(27,.agg aN),(29,.agg aO),(7,PH W.heap.size)] from ⟨rfl,rfl,rfl,rfl,rfl,trivial⟩) (wD _ _ _ H' ⟨ai.new W 39 aC,.inr rfl⟩)
 refine AU.tk (o:=opAt bO 0) (d:=27) 0 (by kernel_rfl) (by kernel_rfl) (fun _ _ _ h=>hQ _ _ _ _ _ h) (by kernel_rfl) (by kernel_rfl) (fun W hW=>bh (T:=27) (x:= .tmp 2) (by kernel_rfl) rfl Tryz.underlying27 rfl hW.1 iA) (by decide) ⟨hA,hB⟩ ?_
 refine AU.tk (o:=opAt bO 2) (d:=29) 2 (by kernel_rfl) (by kernel_rfl) (fun _ _ _ h=>hQ _ _ _ _ _ h) (by kernel_rfl) (by kernel_rfl) (fun W hW=>bh (T:=29) (x:= .tmp 3) (by kernel_rfl) rfl Tryz.underlying29 rfl hW.2 iB) (by decide) ⟨hA,hB⟩ ?_
 exact AU.re (by kernel_rfl) (show aW _ [(2,PH gA),(3,PH gB),(27,.agg aN),(29,.agg aO)] from ⟨rfl,rfl,rfl,rfl,trivial⟩) (wC (fun _=>False) wd ⟨Below.refl _ _,fun b h=>h.elim⟩)
noncomputable def cy:Array Oper:=Ec Tryz.f3 10
noncomputable def CC:Go.Call:=match (opAt cy 2).op with
 | .call c=>c
 | _=>{callee:= .value (.const (.bool true)),args:= #[],argTypes:= #[]}
noncomputable def CD:Go.Call:=match (opAt cy 3).op with
 | .call c=>c
 | _=>{callee:= .value (.const (.bool true)),args:= #[],argTypes:= #[]}
set_option maxHeartbeats 8000000 in
theorem ZU{Q:Exit->Act->World->Prop}(hQ: ∀c a t v w,Q (.panic c) (Act.put a t v) w->Q (.panic c) a w){wd:World}{gA gB:Nat}{aN aO:Array Value}(hA:ai wd gA 37 aN)(hB:ai wd gB 29 aO)(iA:(Tryz.prog.info? 37).map (·.size)=some aN.size)(iB:(Tryz.prog.info? 29).map (·.size)=some aO.size){x2 x6 x7:Nat}
  {P0:(Nat->Prop)->World->Value->Prop} (S0:nQ P0)
  {PZ:(Nat->Prop)->World->Array Value×Array Value->Prop} (SZ:nQ PZ)
  (C0: ∀(N:Nat->Prop) (W:World),NK wd N W->Calls Tryz.prog 9 #[.agg aO] W fun e w'=> ∃v,e= .returned v/\P0 N w' v/\Below W.heap.size W w')
  (C1: ∀(N:Nat->Prop) (W:World) (v0:Value),NK wd N W->P0 N W v0->Calls Tryz.prog 10 #[.agg aN,v0] W fun e w'=> ∃u1 u2,e= .returned (.tuple #[.agg u1,.agg u2])/\PZ N w' (u1,u2)/\Below W.heap.size W w')
  (hZ: ∀N W u1 u2,PZ N W (u1,u2)->(u1.size=aH.size/\ ∀u∈u1.toList,u.oneCell'=true)/\u2.size=aC.size/\ ∀u∈u2.toList,u.oneCell'=true)
  (fin: ∀(N:Nat->Prop) (W:World) (v0:Value) (u1 u2:Array Value) (b8 b9:Nat),NK wd N W->P0 N W v0->PZ N W (u1,u2)->ai W b8 37 u1->ai W b9 39 u2->N b8->N b9->b8≠b9->NX 112 (Q .normal) [(2,PH x2),(3,PH gB),(6,PH x6),(7,PH x7),(8,PH gA),(9,PH b8),(10,PH b9)] W) :
  AU 112 Tryz.prog cy Q (fun W=>ai W gA 37 aN/\ai W gB 29 aO) 10 11 (Array.replicate 11 false) [(2,PH x2),(3,PH gB),(6,PH x6),(7,PH x7),(8,PH gA)] wd:=by
 have ma: ∀(N:Nat->Prop) (W:World) (v0:Value) (u1 u2:Array Value) (b8:Nat) (b9:Nat),NK wd N W->P0 N W v0->PZ N W (u1,u2)->(ai W b8 37 aH/\N b8)->(ai W b9 39 aC/\N b9)->b8≠b9->AU 112 Tryz.prog cy Q (fun W=>ai W gA 37 aN/\ai W gB 29 aO) 10 2 (bF 11 [0,1,2,3,4,5,6,7,8]) [(2,PH x2),(3,PH gB),(6,PH x6),(7,PH x7),(8,PH gA),(41,.agg u1),(42,.agg u2),(9,PH b8),(10,PH b9)] W:=by
  intro N W v0 u1 u2 b8 b9 H p0 pz h8 h9 hne
  obtain ⟨⟨z1,z2⟩,z3,z4⟩:=hZ N W u1 u2 pz
  have l8:=(H.n _ h8.2).1
  have l9:=(H.n _ h9.2).1
  have lA:=hA.lt
  have lB:=hB.lt
  refine AU.st (o:=opAt cy 9) 9 (by kernel_rfl) (by kernel_rfl) (by kernel_rfl) (by kernel_rfl) (T:=37) (x:= .tmp 9) (y:= .tmp 41) (C:=aH) (by kernel_rfl) rfl rfl h8.1 (by rw [z1]) z2 (by rw [z1];exact aY) (fun w' ho _=>⟨(ho.block _ (by omega)).trans (hA.below H.b hA.lt),(ho.block _ (by omega)).trans (hB.below H.b hB.lt)⟩) fun W1 R1 O1=> ?_
  have H1:=H.one O1 h8.2
  have Ae:=(O1.block _ (Ne.symm hne)).trans h9.1
  refine AU.st (o:=opAt cy 10) 10 (by kernel_rfl) (by kernel_rfl) (by kernel_rfl) (by kernel_rfl) (T:=39) (x:= .tmp 10) (y:= .tmp 42) (C:=aC) (by kernel_rfl) rfl rfl Ae (by rw [z3]) z4 (by rw [z3];exact aZ) (fun _ _ h=>absurd rfl h) fun W2 R2 O2=> ?_
  have H2:=H1.one O2 h9.2
  refine AU.done (by kernel_rfl) ?_
  exact fun ac hE=>fin N W2 v0 u1 u2 b8 b9 H2 (S0.o _ _ _ _ _ (S0.o _ _ _ _ _ p0 O1 h8.2) O2 h9.2) (SZ.o _ _ _ _ _ (SZ.o _ _ _ _ _ pz O1 h8.2) O2 h9.2) ((O2.block _ hne).trans R1) R2 h8.2 h9.2 hne ac (hE.sub ⟨rfl,rfl,rfl,rfl,rfl,rfl,rfl,trivial⟩)
 have pF: ∀(N:Nat->Prop) (W:World) (v0:Value) (u1 u2:Array Value) (b8:Nat),NK wd N W->P0 N W v0->PZ N W (u1,u2)->(ai W b8 37 aH/\N b8)->AU 112 Tryz.prog cy Q (fun W=>ai W gA 37 aN/\ai W gB 29 aO) 10 3 (bF 11 [0,1,2,3,4,5,6,7]) [(2,PH x2),(3,PH gB),(6,PH x6),(7,PH x7),(8,PH gA),(41,.agg u1),(42,.agg u2),(9,PH b8)] W:=by
  intro N W v0 u1 u2 b8 H p0 pz h8
  refine AU.m1 (show Region.ready .any cy (bF 11 [0,1,2,3,4,5,6,7])=[8] by kernel_rfl) ?_
  ·have hb:=cU W aC 39
   have H':=H.alloc 39 aC
   have hn: ∀b,(N b\/b=W.heap.size)->N b\/W.heap.size<=b:=fun b hb=>hb.imp id fun e=>by omega
   refine aV.vv (o:=opAt cy 8) (d:=10) (by kernel_rfl) (by kernel_rfl) (by kernel_rfl) (bp (z:= .agg aC) (by kernel_rfl) dr) (by decide) ⟨hA.below H'.b hA.lt,hB.below H'.b hB.lt⟩ ?_
   exact AU.re (by kernel_rfl) (show aW _ [(2,PH x2),(3,PH gB),(6,PH x6),(7,PH x7),(8,PH gA),(41,.agg u1),(42,.agg u2),(9,PH b8),(10,PH W.heap.size)] from ⟨rfl,rfl,rfl,rfl,rfl,rfl,rfl,rfl,rfl,trivial⟩) (ma _ _ _ _ _ _ _ H' (S0.b _ _ _ _ _ p0 hb hn) (SZ.b _ _ _ _ _ pz hb hn) ⟨h8.1.below hb h8.1.lt,.inl h8.2⟩ ⟨ai.new W 39 aC,.inr rfl⟩ (by have:=h8.1.lt;omega))
 have pE: ∀(N:Nat->Prop) (W:World) (v0:Value) (u1 u2:Array Value) (b9:Nat),NK wd N W->P0 N W v0->PZ N W (u1,u2)->(ai W b9 39 aC/\N b9)->AU 112 Tryz.prog cy Q (fun W=>ai W gA 37 aN/\ai W gB 29 aO) 10 3 (bF 11 [0,1,2,3,4,5,6,8]) [(2,PH x2),(3,PH gB),(6,PH x6),(7,PH x7),(8,PH gA),(41,.agg u1),(42,.agg u2),(10,PH b9)] W:=by
  intro N W v0 u1 u2 b9 H p0 pz h9
  refine AU.m1 (show Region.ready .any cy (bF 11 [0,1,2,3,4,5,6,8])=[7] by kernel_rfl) ?_
  ·have hb:=cU W aH 37
   have H':=H.alloc 37 aH
   have hn: ∀b,(N b\/b=W.heap.size)->N b\/W.heap.size<=b:=fun b hb=>hb.imp id fun e=>by omega
   refine aV.vv (o:=opAt cy 7) (d:=9) (by kernel_rfl) (by kernel_rfl) (by kernel_rfl) (bp (z:= .agg aH) (by kernel_rfl) dH) (by decide) ⟨hA.below H'.b hA.lt,hB.below H'.b hB.lt⟩ ?_
   exact AU.re (by kernel_rfl) (show aW _ [(2,PH x2),(3,PH gB),(6,PH x6),(7,PH x7),(8,PH gA),(41,.agg u1),(42,.agg u2),(9,PH W.heap.size),(10,PH b9)] from ⟨rfl,rfl,rfl,rfl,rfl,rfl,rfl,rfl,rfl,trivial⟩) (ma _ _ _ _ _ _ _ H' (S0.b _ _ _ _ _ p0 hb hn) (SZ.b _ _ _ _ _ pz hb hn) ⟨ai.new W 37 aH,.inr rfl⟩ ⟨h9.1.below hb h9.1.lt,.inl h9.2⟩ (by have:=h9.1.lt;omega))
 have wG: ∀(N:Nat->Prop) (W:World) (v0:Value) (u1 u2:Array Value),NK wd N W->P0 N W v0->PZ N W (u1,u2)->AU 112 Tryz.prog cy Q (fun W=>ai W gA 37 aN/\ai W gB 29 aO) 10 4 (bF 11 [0,1,2,3,4,5,6]) [(2,PH x2),(3,PH gB),(6,PH x6),(7,PH x7),(8,PH gA),(41,.agg u1),(42,.agg u2)] W:=by
  intro N W v0 u1 u2 H p0 pz
  refine AU.m2 (show Region.ready .any cy (bF 11 [0,1,2,3,4,5,6])=[7,8] by kernel_rfl) ?_ ?_
  ·have hb:=cU W aH 37
   have H':=H.alloc 37 aH
   have hn: ∀b,(N b\/b=W.heap.size)->N b\/W.heap.size<=b:=fun b hb=>hb.imp id fun e=>by omega
   refine aV.vv (o:=opAt cy 7) (d:=9) (by kernel_rfl) (by kernel_rfl) (by kernel_rfl) (bp (z:= .agg aH) (by kernel_rfl) dH) (by decide) ⟨hA.below H'.b hA.lt,hB.below H'.b hB.lt⟩ ?_
   exact AU.re (by kernel_rfl) (show aW _ [(2,PH x2),(3,PH gB),(6,PH x6),(7,PH x7),(8,PH gA),(41,.agg u1),(42,.agg u2),(9,PH W.heap.size)] from ⟨rfl,rfl,rfl,rfl,rfl,rfl,rfl,rfl,trivial⟩) (pF _ _ _ _ _ _ H' (S0.b _ _ _ _ _ p0 hb hn) (SZ.b _ _ _ _ _ pz hb hn) ⟨ai.new W 37 aH,.inr rfl⟩)
  ·have hb:=cU W aC 39
   have H':=H.alloc 39 aC
   have hn: ∀b,(N b\/b=W.heap.size)->N b\/W.heap.size<=b:=fun b hb=>hb.imp id fun e=>by omega
   refine aV.vv (o:=opAt cy 8) (d:=10) (by kernel_rfl) (by kernel_rfl) (by kernel_rfl) (bp (z:= .agg aC) (by kernel_rfl) dr) (by decide) ⟨hA.below H'.b hA.lt,hB.below H'.b hB.lt⟩ ?_
   exact AU.re (by kernel_rfl) (show aW _ [(2,PH x2),(3,PH gB),(6,PH x6),(7,PH x7),(8,PH gA),(41,.agg u1),(42,.agg u2),(10,PH W.heap.size)] from ⟨rfl,rfl,rfl,rfl,rfl,rfl,rfl,rfl,trivial⟩) (pE _ _ _ _ _ _ H' (S0.b _ _ _ _ _ p0 hb hn) (SZ.b _ _ _ _ _ pz hb hn) ⟨ai.new W 39 aC,.inr rfl⟩)
 have lZ: ∀(N:Nat->Prop) (W:World) (v0:Value) (b8:Nat) (b9:Nat),NK wd N W->P0 N W v0->(ai W b8 37 aH/\N b8)->(ai W b9 39 aC/\N b9)->b8≠b9->AU 112 Tryz.prog cy Q (fun W=>ai W gA 37 aN/\ai W gB 29 aO) 10 6 (bF 11 [0,1,2,7,8]) [(2,PH x2),(3,PH gB),(6,PH x6),(7,PH x7),(8,PH gA),(37,.agg aN),(38,.agg aO),(39,v0),(9,PH b8),(10,PH b9)] W:=by
  intro N W v0 b8 b9 H p0 h8 h9 hne
  refine AU.m1 (show Region.ready .any cy (bF 11 [0,1,2,7,8])=[3] by kernel_rfl) ?_
  ·refine aV.c (o:=opAt cy 3) (d:=40) (by kernel_rfl) (by kernel_rfl) (by kernel_rfl) (bu (cl:=CD) (args:= #[.agg aN,v0]) (by kernel_rfl) (by kernel_rfl) (by kernel_rfl) rfl) (by decide) (C1 N W v0 H p0) ?_
   rintro _ W' ⟨u1,u2,rfl,pz,hb⟩
   have H':=H.below hb
   have hn: ∀b,N b->N b\/W.heap.size<=b:=fun b hb=> .inl hb
   refine ⟨_,rfl,⟨hA.below H'.b hA.lt,hB.below H'.b hB.lt⟩,?_⟩
   refine AU.tk (o:=opAt cy 4) (d:=36) 4 (by kernel_rfl) (by kernel_rfl) (fun _ _ _ h=>hQ _ _ _ _ _ h) (by kernel_rfl) (by kernel_rfl) (fun W hW=>bf (x:= .tmp 40) (by kernel_rfl) rfl) (by decide) ⟨hA.below H'.b hA.lt,hB.below H'.b hB.lt⟩ ?_
   refine AU.tk (o:=opAt cy 5) (d:=41) 5 (by kernel_rfl) (by kernel_rfl) (fun _ _ _ h=>hQ _ _ _ _ _ h) (by kernel_rfl) (by kernel_rfl) (fun W hW=>cJ (x:= .tmp 36) (i:=0) (by kernel_rfl) rfl rfl) (by decide) ⟨hA.below H'.b hA.lt,hB.below H'.b hB.lt⟩ ?_
   refine AU.tk (o:=opAt cy 6) (d:=42) 6 (by kernel_rfl) (by kernel_rfl) (fun _ _ _ h=>hQ _ _ _ _ _ h) (by kernel_rfl) (by kernel_rfl) (fun W hW=>cJ (x:= .tmp 36) (i:=1) (by kernel_rfl) rfl rfl) (by decide) ⟨hA.below H'.b hA.lt,hB.below H'.b hB.lt⟩ ?_
   exact AU.re (by kernel_rfl) (show aW _ [(2,PH x2),(3,PH gB),(6,PH x6),(7,PH x7),(8,PH gA),(41,.agg u1),(42,.agg u2),(9,PH b8),(10,PH b9)] from ⟨rfl,rfl,rfl,rfl,rfl,rfl,rfl,rfl,rfl,trivial⟩) (ma _ _ _ _ _ _ _ H' (S0.b _ _ _ _ _ p0 hb hn) pz ⟨h8.1.below hb h8.1.lt,h8.2⟩ ⟨h9.1.below hb h9.1.lt,h9.2⟩ hne)
 have pu: ∀(N:Nat->Prop) (W:World) (v0:Value) (b8:Nat),NK wd N W->P0 N W v0->(ai W b8 37 aH/\N b8)->AU 112 Tryz.prog cy Q (fun W=>ai W gA 37 aN/\ai W gB 29 aO) 10 7 (bF 11 [0,1,2,7]) [(2,PH x2),(3,PH gB),(6,PH x6),(7,PH x7),(8,PH gA),(37,.agg aN),(38,.agg aO),(39,v0),(9,PH b8)] W:=by
  intro N W v0 b8 H p0 h8
  refine AU.m2 (show Region.ready .any cy (bF 11 [0,1,2,7])=[3,8] by kernel_rfl) ?_ ?_
  ·refine aV.c (o:=opAt cy 3) (d:=40) (by kernel_rfl) (by kernel_rfl) (by kernel_rfl) (bu (cl:=CD) (args:= #[.agg aN,v0]) (by kernel_rfl) (by kernel_rfl) (by kernel_rfl) rfl) (by decide) (C1 N W v0 H p0) ?_
   rintro _ W' ⟨u1,u2,rfl,pz,hb⟩
   have H':=H.below hb
   have hn: ∀b,N b->N b\/W.heap.size<=b:=fun b hb=> .inl hb
   refine ⟨_,rfl,⟨hA.below H'.b hA.lt,hB.below H'.b hB.lt⟩,?_⟩
   refine AU.tk (o:=opAt cy 4) (d:=36) 4 (by kernel_rfl) (by kernel_rfl) (fun _ _ _ h=>hQ _ _ _ _ _ h) (by kernel_rfl) (by kernel_rfl) (fun W hW=>bf (x:= .tmp 40) (by kernel_rfl) rfl) (by decide) ⟨hA.below H'.b hA.lt,hB.below H'.b hB.lt⟩ ?_
   refine AU.tk (o:=opAt cy 5) (d:=41) 5 (by kernel_rfl) (by kernel_rfl) (fun _ _ _ h=>hQ _ _ _ _ _ h) (by kernel_rfl) (by kernel_rfl) (fun W hW=>cJ (x:= .tmp 36) (i:=0) (by kernel_rfl) rfl rfl) (by decide) ⟨hA.below H'.b hA.lt,hB.below H'.b hB.lt⟩ ?_
   refine AU.tk (o:=opAt cy 6) (d:=42) 6 (by kernel_rfl) (by kernel_rfl) (fun _ _ _ h=>hQ _ _ _ _ _ h) (by kernel_rfl) (by kernel_rfl) (fun W hW=>cJ (x:= .tmp 36) (i:=1) (by kernel_rfl) rfl rfl) (by decide) ⟨hA.below H'.b hA.lt,hB.below H'.b hB.lt⟩ ?_
   exact AU.re (by kernel_rfl) (show aW _ [(2,PH x2),(3,PH gB),(6,PH x6),(7,PH x7),(8,PH gA),(41,.agg u1),(42,.agg u2),(9,PH b8)] from ⟨rfl,rfl,rfl,rfl,rfl,rfl,rfl,rfl,trivial⟩) (pF _ _ _ _ _ _ H' (S0.b _ _ _ _ _ p0 hb hn) pz ⟨h8.1.below hb h8.1.lt,h8.2⟩)
  ·have hb:=cU W aC 39
   have H':=H.alloc 39 aC
   have hn: ∀b,(N b\/b=W.heap.size)->N b\/W.heap.size<=b:=fun b hb=>hb.imp id fun e=>by omega
   refine aV.vv (o:=opAt cy 8) (d:=10) (by kernel_rfl) (by kernel_rfl) (by kernel_rfl) (bp (z:= .agg aC) (by kernel_rfl) dr) (by decide) ⟨hA.below H'.b hA.lt,hB.below H'.b hB.lt⟩ ?_
   exact AU.re (by kernel_rfl) (show aW _ [(2,PH x2),(3,PH gB),(6,PH x6),(7,PH x7),(8,PH gA),(37,.agg aN),(38,.agg aO),(39,v0),(9,PH b8),(10,PH W.heap.size)] from ⟨rfl,rfl,rfl,rfl,rfl,rfl,rfl,rfl,rfl,rfl,trivial⟩) (lZ _ _ _ _ _ H' (S0.b _ _ _ _ _ p0 hb hn) ⟨h8.1.below hb h8.1.lt,.inl h8.2⟩ ⟨ai.new W 39 aC,.inr rfl⟩ (by have:=h8.1.lt;omega))
 have pq: ∀(N:Nat->Prop) (W:World) (v0:Value) (b9:Nat),NK wd N W->P0 N W v0->(ai W b9 39 aC/\N b9)->AU 112 Tryz.prog cy Q (fun W=>ai W gA 37 aN/\ai W gB 29 aO) 10 7 (bF 11 [0,1,2,8]) [(2,PH x2),(3,PH gB),(6,PH x6),(7,PH x7),(8,PH gA),(37,.agg aN),(38,.agg aO),(39,v0),(10,PH b9)] W:=by
  intro N W v0 b9 H p0 h9
  refine AU.m2 (show Region.ready .any cy (bF 11 [0,1,2,8])=[3,7] by kernel_rfl) ?_ ?_
  ·refine aV.c (o:=opAt cy 3) (d:=40) (by kernel_rfl) (by kernel_rfl) (by kernel_rfl) (bu (cl:=CD) (args:= #[.agg aN,v0]) (by kernel_rfl) (by kernel_rfl) (by kernel_rfl) rfl) (by decide) (C1 N W v0 H p0) ?_
   rintro _ W' ⟨u1,u2,rfl,pz,hb⟩
   have H':=H.below hb
   have hn: ∀b,N b->N b\/W.heap.size<=b:=fun b hb=> .inl hb
   refine ⟨_,rfl,⟨hA.below H'.b hA.lt,hB.below H'.b hB.lt⟩,?_⟩
   refine AU.tk (o:=opAt cy 4) (d:=36) 4 (by kernel_rfl) (by kernel_rfl) (fun _ _ _ h=>hQ _ _ _ _ _ h) (by kernel_rfl) (by kernel_rfl) (fun W hW=>bf (x:= .tmp 40) (by kernel_rfl) rfl) (by decide) ⟨hA.below H'.b hA.lt,hB.below H'.b hB.lt⟩ ?_
   refine AU.tk (o:=opAt cy 5) (d:=41) 5 (by kernel_rfl) (by kernel_rfl) (fun _ _ _ h=>hQ _ _ _ _ _ h) (by kernel_rfl) (by kernel_rfl) (fun W hW=>cJ (x:= .tmp 36) (i:=0) (by kernel_rfl) rfl rfl) (by decide) ⟨hA.below H'.b hA.lt,hB.below H'.b hB.lt⟩ ?_
   refine AU.tk (o:=opAt cy 6) (d:=42) 6 (by kernel_rfl) (by kernel_rfl) (fun _ _ _ h=>hQ _ _ _ _ _ h) (by kernel_rfl) (by kernel_rfl) (fun W hW=>cJ (x:= .tmp 36) (i:=1) (by kernel_rfl) rfl rfl) (by decide) ⟨hA.below H'.b hA.lt,hB.below H'.b hB.lt⟩ ?_
   exact AU.re (by kernel_rfl) (show aW _ [(2,PH x2),(3,PH gB),(6,PH x6),(7,PH x7),(8,PH gA),(41,.agg u1),(42,.agg u2),(10,PH b9)] from ⟨rfl,rfl,rfl,rfl,rfl,rfl,rfl,rfl,trivial⟩) (pE _ _ _ _ _ _ H' (S0.b _ _ _ _ _ p0 hb hn) pz ⟨h9.1.below hb h9.1.lt,h9.2⟩)
  ·have hb:=cU W aH 37
   have H':=H.alloc 37 aH
   have hn: ∀b,(N b\/b=W.heap.size)->N b\/W.heap.size<=b:=fun b hb=>hb.imp id fun e=>by omega
   refine aV.vv (o:=opAt cy 7) (d:=9) (by kernel_rfl) (by kernel_rfl) (by kernel_rfl) (bp (z:= .agg aH) (by kernel_rfl) dH) (by decide) ⟨hA.below H'.b hA.lt,hB.below H'.b hB.lt⟩ ?_
   exact AU.re (by kernel_rfl) (show aW _ [(2,PH x2),(3,PH gB),(6,PH x6),(7,PH x7),(8,PH gA),(37,.agg aN),(38,.agg aO),(39,v0),(9,PH W.heap.size),(10,PH b9)] from ⟨rfl,rfl,rfl,rfl,rfl,rfl,rfl,rfl,rfl,rfl,trivial⟩) (lZ _ _ _ _ _ H' (S0.b _ _ _ _ _ p0 hb hn) ⟨ai.new W 37 aH,.inr rfl⟩ ⟨h9.1.below hb h9.1.lt,.inl h9.2⟩ (by have:=h9.1.lt;omega))
 have wF: ∀(N:Nat->Prop) (W:World) (v0:Value),NK wd N W->P0 N W v0->AU 112 Tryz.prog cy Q (fun W=>ai W gA 37 aN/\ai W gB 29 aO) 10 8 (bF 11 [0,1,2]) [(2,PH x2),(3,PH gB),(6,PH x6),(7,PH x7),(8,PH gA),(37,.agg aN),(38,.agg aO),(39,v0)] W:=by
  intro N W v0 H p0
  refine AU.m3 (show Region.ready .any cy (bF 11 [0,1,2])=[3,7,8] by kernel_rfl) ?_ ?_ ?_
  ·refine aV.c (o:=opAt cy 3) (d:=40) (by kernel_rfl) (by kernel_rfl) (by kernel_rfl) (bu (cl:=CD) (args:= #[.agg aN,v0]) (by kernel_rfl) (by kernel_rfl) (by kernel_rfl) rfl) (by decide) (C1 N W v0 H p0) ?_
   rintro _ W' ⟨u1,u2,rfl,pz,hb⟩
   have H':=H.below hb
   have hn: ∀b,N b->N b\/W.heap.size<=b:=fun b hb=> .inl hb
   refine ⟨_,rfl,⟨hA.below H'.b hA.lt,hB.below H'.b hB.lt⟩,?_⟩
   refine AU.tk (o:=opAt cy 4) (d:=36) 4 (by kernel_rfl) (by kernel_rfl) (fun _ _ _ h=>hQ _ _ _ _ _ h) (by kernel_rfl) (by kernel_rfl) (fun W hW=>bf (x:= .tmp 40) (by kernel_rfl) rfl) (by decide) ⟨hA.below H'.b hA.lt,hB.below H'.b hB.lt⟩ ?_
   refine AU.tk (o:=opAt cy 5) (d:=41) 5 (by kernel_rfl) (by kernel_rfl) (fun _ _ _ h=>hQ _ _ _ _ _ h) (by kernel_rfl) (by kernel_rfl) (fun W hW=>cJ (x:= .tmp 36) (i:=0) (by kernel_rfl) rfl rfl) (by decide) ⟨hA.below H'.b hA.lt,hB.below H'.b hB.lt⟩ ?_
   refine AU.tk (o:=opAt cy 6) (d:=42) 6 (by kernel_rfl) (by kernel_rfl) (fun _ _ _ h=>hQ _ _ _ _ _ h) (by kernel_rfl) (by kernel_rfl) (fun W hW=>cJ (x:= .tmp 36) (i:=1) (by kernel_rfl) rfl rfl) (by decide) ⟨hA.below H'.b hA.lt,hB.below H'.b hB.lt⟩ ?_
   exact AU.re (by kernel_rfl) (show aW _ [(2,PH x2),(3,PH gB),(6,PH x6),(7,PH x7),(8,PH gA),(41,.agg u1),(42,.agg u2)] from ⟨rfl,rfl,rfl,rfl,rfl,rfl,rfl,trivial⟩) (wG _ _ _ _ _ H' (S0.b _ _ _ _ _ p0 hb hn) pz)
  ·have hb:=cU W aH 37
   have H':=H.alloc 37 aH
   have hn: ∀b,(N b\/b=W.heap.size)->N b\/W.heap.size<=b:=fun b hb=>hb.imp id fun e=>by omega
   refine aV.vv (o:=opAt cy 7) (d:=9) (by kernel_rfl) (by kernel_rfl) (by kernel_rfl) (bp (z:= .agg aH) (by kernel_rfl) dH) (by decide) ⟨hA.below H'.b hA.lt,hB.below H'.b hB.lt⟩ ?_
   exact AU.re (by kernel_rfl) (show aW _ [(2,PH x2),(3,PH gB),(6,PH x6),(7,PH x7),(8,PH gA),(37,.agg aN),(38,.agg aO),(39,v0),(9,PH W.heap.size)] from ⟨rfl,rfl,rfl,rfl,rfl,rfl,rfl,rfl,rfl,trivial⟩) (pu _ _ _ _ H' (S0.b _ _ _ _ _ p0 hb hn) ⟨ai.new W 37 aH,.inr rfl⟩)
  ·have hb:=cU W aC 39
   have H':=H.alloc 39 aC
   have hn: ∀b,(N b\/b=W.heap.size)->N b\/W.heap.size<=b:=fun b hb=>hb.imp id fun e=>by omega
   refine aV.vv (o:=opAt cy 8) (d:=10) (by kernel_rfl) (by kernel_rfl) (by kernel_rfl) (bp (z:= .agg aC) (by kernel_rfl) dr) (by decide) ⟨hA.below H'.b hA.lt,hB.below H'.b hB.lt⟩ ?_
   exact AU.re (by kernel_rfl) (show aW _ [(2,PH x2),(3,PH gB),(6,PH x6),(7,PH x7),(8,PH gA),(37,.agg aN),(38,.agg aO),(39,v0),(10,PH W.heap.size)] from ⟨rfl,rfl,rfl,rfl,rfl,rfl,rfl,rfl,rfl,trivial⟩) (pq _ _ _ _ H' (S0.b _ _ _ _ _ p0 hb hn) ⟨ai.new W 39 aC,.inr rfl⟩)
 have pj: ∀(N:Nat->Prop) (W:World) (b8:Nat) (b9:Nat),NK wd N W->(ai W b8 37 aH/\N b8)->(ai W b9 39 aC/\N b9)->b8≠b9->AU 112 Tryz.prog cy Q (fun W=>ai W gA 37 aN/\ai W gB 29 aO) 10 7 (bF 11 [0,1,7,8]) [(2,PH x2),(3,PH gB),(6,PH x6),(7,PH x7),(8,PH gA),(37,.agg aN),(38,.agg aO),(9,PH b8),(10,PH b9)] W:=by
  intro N W b8 b9 H h8 h9 hne
  refine AU.m1 (show Region.ready .any cy (bF 11 [0,1,7,8])=[2] by kernel_rfl) ?_
  ·refine aV.c (o:=opAt cy 2) (d:=39) (by kernel_rfl) (by kernel_rfl) (by kernel_rfl) (bu (cl:=CC) (args:= #[.agg aO]) (by kernel_rfl) (by kernel_rfl) (by kernel_rfl) rfl) (by decide) (C0 N W H) ?_
   rintro _ W' ⟨v0,rfl,pn,hb⟩
   have H':=H.below hb
   have hn: ∀b,N b->N b\/W.heap.size<=b:=fun b hb=> .inl hb
   refine ⟨_,rfl,⟨hA.below H'.b hA.lt,hB.below H'.b hB.lt⟩,?_⟩
   exact AU.re (by kernel_rfl) (show aW _ [(2,PH x2),(3,PH gB),(6,PH x6),(7,PH x7),(8,PH gA),(37,.agg aN),(38,.agg aO),(39,v0),(9,PH b8),(10,PH b9)] from ⟨rfl,rfl,rfl,rfl,rfl,rfl,rfl,rfl,rfl,rfl,trivial⟩) (lZ _ _ _ _ _ H' pn ⟨h8.1.below hb h8.1.lt,h8.2⟩ ⟨h9.1.below hb h9.1.lt,h9.2⟩ hne)
 have wE: ∀(N:Nat->Prop) (W:World) (b8:Nat),NK wd N W->(ai W b8 37 aH/\N b8)->AU 112 Tryz.prog cy Q (fun W=>ai W gA 37 aN/\ai W gB 29 aO) 10 8 (bF 11 [0,1,7]) [(2,PH x2),(3,PH gB),(6,PH x6),(7,PH x7),(8,PH gA),(37,.agg aN),(38,.agg aO),(9,PH b8)] W:=by
  intro N W b8 H h8
  refine AU.m2 (show Region.ready .any cy (bF 11 [0,1,7])=[2,8] by kernel_rfl) ?_ ?_
  ·refine aV.c (o:=opAt cy 2) (d:=39) (by kernel_rfl) (by kernel_rfl) (by kernel_rfl) (bu (cl:=CC) (args:= #[.agg aO]) (by kernel_rfl) (by kernel_rfl) (by kernel_rfl) rfl) (by decide) (C0 N W H) ?_
   rintro _ W' ⟨v0,rfl,pn,hb⟩
   have H':=H.below hb
   have hn: ∀b,N b->N b\/W.heap.size<=b:=fun b hb=> .inl hb
   refine ⟨_,rfl,⟨hA.below H'.b hA.lt,hB.below H'.b hB.lt⟩,?_⟩
   exact AU.re (by kernel_rfl) (show aW _ [(2,PH x2),(3,PH gB),(6,PH x6),(7,PH x7),(8,PH gA),(37,.agg aN),(38,.agg aO),(39,v0),(9,PH b8)] from ⟨rfl,rfl,rfl,rfl,rfl,rfl,rfl,rfl,rfl,trivial⟩) (pu _ _ _ _ H' pn ⟨h8.1.below hb h8.1.lt,h8.2⟩)
  ·have hb:=cU W aC 39
   have H':=H.alloc 39 aC
   have hn: ∀b,(N b\/b=W.heap.size)->N b\/W.heap.size<=b:=fun b hb=>hb.imp id fun e=>by omega
   refine aV.vv (o:=opAt cy 8) (d:=10) (by kernel_rfl) (by kernel_rfl) (by kernel_rfl) (bp (z:= .agg aC) (by kernel_rfl) dr) (by decide) ⟨hA.below H'.b hA.lt,hB.below H'.b hB.lt⟩ ?_
   exact AU.re (by kernel_rfl) (show aW _ [(2,PH x2),(3,PH gB),(6,PH x6),(7,PH x7),(8,PH gA),(37,.agg aN),(38,.agg aO),(9,PH b8),(10,PH W.heap.size)] from ⟨rfl,rfl,rfl,rfl,rfl,rfl,rfl,rfl,rfl,trivial⟩) (pj _ _ _ _ H' ⟨h8.1.below hb h8.1.lt,.inl h8.2⟩ ⟨ai.new W 39 aC,.inr rfl⟩ (by have:=h8.1.lt;omega))
 have wD: ∀(N:Nat->Prop) (W:World) (b9:Nat),NK wd N W->(ai W b9 39 aC/\N b9)->AU 112 Tryz.prog cy Q (fun W=>ai W gA 37 aN/\ai W gB 29 aO) 10 8 (bF 11 [0,1,8]) [(2,PH x2),(3,PH gB),(6,PH x6),(7,PH x7),(8,PH gA),(37,.agg aN),(38,.agg aO),(10,PH b9)] W:=by
  intro N W b9 H h9
  refine AU.m2 (show Region.ready .any cy (bF 11 [0,1,8])=[2,7] by kernel_rfl) ?_ ?_
  ·refine aV.c (o:=opAt cy 2) (d:=39) (by kernel_rfl) (by kernel_rfl) (by kernel_rfl) (bu (cl:=CC) (args:= #[.agg aO]) (by kernel_rfl) (by kernel_rfl) (by kernel_rfl) rfl) (by decide) (C0 N W H) ?_
   rintro _ W' ⟨v0,rfl,pn,hb⟩
   have H':=H.below hb
   have hn: ∀b,N b->N b\/W.heap.size<=b:=fun b hb=> .inl hb
   refine ⟨_,rfl,⟨hA.below H'.b hA.lt,hB.below H'.b hB.lt⟩,?_⟩
   exact AU.re (by kernel_rfl) (show aW _ [(2,PH x2),(3,PH gB),(6,PH x6),(7,PH x7),(8,PH gA),(37,.agg aN),(38,.agg aO),(39,v0),(10,PH b9)] from ⟨rfl,rfl,rfl,rfl,rfl,rfl,rfl,rfl,rfl,trivial⟩) (pq _ _ _ _ H' pn ⟨h9.1.below hb h9.1.lt,h9.2⟩)
  ·have hb:=cU W aH 37
   have H':=H.alloc 37 aH
   have hn: ∀b,(N b\/b=W.heap.size)->N b\/W.heap.size<=b:=fun b hb=>hb.imp id fun e=>by omega
   refine aV.vv (o:=opAt cy 7) (d:=9) (by kernel_rfl) (by kernel_rfl) (by kernel_rfl) (bp (z:= .agg aH) (by kernel_rfl) dH) (by decide) ⟨hA.below H'.b hA.lt,hB.below H'.b hB.lt⟩ ?_
   exact AU.re (by kernel_rfl) (show aW _ [(2,PH x2),(3,PH gB),(6,PH x6),(7,PH x7),(8,PH gA),(37,.agg aN),(38,.agg aO),(9,PH W.heap.size),(10,PH b9)] from ⟨rfl,rfl,rfl,rfl,rfl,rfl,rfl,rfl,rfl,trivial⟩) (pj _ _ _ _ H' ⟨ai.new W 37 aH,.inr rfl⟩ ⟨h9.1.below hb h9.1.lt,.inl h9.2⟩ (by have:=h9.1.lt;omega))
 have wC: ∀(N:Nat->Prop) (W:World),NK wd N W->AU 112 Tryz.prog cy Q (fun W=>ai W gA 37 aN/\ai W gB 29 aO) 10 9 (bF 11 [0,1]) [(2,PH x2),(3,PH gB),(6,PH x6),(7,PH x7),(8,PH gA),(37,.agg aN),(38,.agg aO)] W:=by
  intro N W H
  refine AU.m3 (show Region.ready .any cy (bF 11 [0,1])=[2,7,8] by kernel_rfl) ?_ ?_ ?_
  ·refine aV.c (o:=opAt cy 2) (d:=39) (by kernel_rfl) (by kernel_rfl) (by kernel_rfl) (bu (cl:=CC) (args:= #[.agg aO]) (by kernel_rfl) (by kernel_rfl) (by kernel_rfl) rfl) (by decide) (C0 N W H) ?_
   rintro _ W' ⟨v0,rfl,pn,hb⟩
   have H':=H.below hb
   have hn: ∀b,N b->N b\/W.heap.size<=b:=fun b hb=> .inl hb
   refine ⟨_,rfl,⟨hA.below H'.b hA.lt,hB.below H'.b hB.lt⟩,?_⟩
   exact AU.re (by kernel_rfl) (show aW _ [(2,PH x2),(3,PH gB),(6,PH x6),(7,PH x7),(8,PH gA),(37,.agg aN),(38,.agg aO),(39,v0)] from ⟨rfl,rfl,rfl,rfl,rfl,rfl,rfl,rfl,trivial⟩) (wF _ _ _ H' pn)
  ·have hb:=cU W aH 37
   have H':=H.alloc 37 aH
   have hn: ∀b,(N b\/b=W.heap.size)->N b\/W.heap.size<=b:=fun b hb=>hb.imp id fun e=>by omega
   refine aV.vv (o:=opAt cy 7) (d:=9) (by kernel_rfl) (by kernel_rfl) (by kernel_rfl) (bp (z:= .agg aH) (by kernel_rfl) dH) (by decide) ⟨hA.below H'.b hA.lt,hB.below H'.b hB.lt⟩ ?_
   exact AU.re (by kernel_rfl) (show aW _ [(2,PH x2),(3,PH gB),(6,PH x6),(7,PH x7),(8,PH gA),(37,.agg aN),(38,.agg aO),(9,PH W.heap.size)] from ⟨rfl,rfl,rfl,rfl,rfl,rfl,rfl,rfl,trivial⟩) (wE _ _ _ H' ⟨ai.new W 37 aH,.inr rfl⟩)
  ·have hb:=cU W aC 39
   have H':=H.alloc 39 aC
   have hn: ∀b,(N b\/b=W.heap.size)->N b\/W.heap.size<=b:=fun b hb=>hb.imp id fun e=>by omega
   refine aV.vv (o:=opAt cy 8) (d:=10) (by kernel_rfl) (by kernel_rfl) (by kernel_rfl) (bp (z:= .agg aC) (by kernel_rfl) dr) (by decide) ⟨hA.below H'.b hA.lt,hB.below H'.b hB.lt⟩ ?_
   exact AU.re (by kernel_rfl) (show aW _ [(2,PH x2),(3,PH gB),(6,PH x6),(7,PH x7),(8,PH gA),(37,.agg aN),(38,.agg aO),(10,PH W.heap.size)] from ⟨rfl,rfl,rfl,rfl,rfl,rfl,rfl,rfl,trivial⟩) (wD _ _ _ H' ⟨ai.new W 39 aC,.inr rfl⟩)
 refine AU.tk (o:=opAt cy 0) (d:=37) 0 (by kernel_rfl) (by kernel_rfl) (fun _ _ _ h=>hQ _ _ _ _ _ h) (by kernel_rfl) (by kernel_rfl) (fun W hW=>bh (T:=37) (x:= .tmp 8) (by kernel_rfl) rfl Tryz.underlying37 rfl hW.1 iA) (by decide) ⟨hA,hB⟩ ?_
 refine AU.tk (o:=opAt cy 1) (d:=38) 1 (by kernel_rfl) (by kernel_rfl) (fun _ _ _ h=>hQ _ _ _ _ _ h) (by kernel_rfl) (by kernel_rfl) (fun W hW=>bh (T:=29) (x:= .tmp 3) (by kernel_rfl) rfl Tryz.underlying29 rfl hW.2 iB) (by decide) ⟨hA,hB⟩ ?_
 exact AU.re (by kernel_rfl) (show aW _ [(2,PH x2),(3,PH gB),(6,PH x6),(7,PH x7),(8,PH gA),(37,.agg aN),(38,.agg aO)] from ⟨rfl,rfl,rfl,rfl,rfl,rfl,rfl,trivial⟩) (wC (fun _=>False) wd ⟨Below.refl _ _,fun b h=>h.elim⟩)
noncomputable def bN:Array Oper:=Ec Tryz.f3 27
noncomputable def CE:Go.Call:=match (opAt bN 1).op with
 | .call c=>c
 | _=>{callee:= .value (.const (.bool true)),args:= #[],argTypes:= #[]}
noncomputable def CF:Go.Call:=match (opAt bN 3).op with
 | .call c=>c
 | _=>{callee:= .value (.const (.bool true)),args:= #[],argTypes:= #[]}
noncomputable def CG:Go.Call:=match (opAt bN 4).op with
 | .call c=>c
 | _=>{callee:= .value (.const (.bool true)),args:= #[],argTypes:= #[]}
set_option maxHeartbeats 8000000 in
theorem ZV{Q:Exit->Act->World->Prop}(hQ: ∀c a t v w,Q (.panic c) (Act.put a t v) w->Q (.panic c) a w){wd:World}{gA gB:Nat}{aN aO:Array Value}(hA:ai wd gA 27 aN)(hB:ai wd gB 29 aO)(iA:(Tryz.prog.info? 27).map (·.size)=some aN.size)(iB:(Tryz.prog.info? 29).map (·.size)=some aO.size){x6 x7 x9 z12:Nat}
  {P0:(Nat->Prop)->World->Value->Prop} (S0:nQ P0)
  {P1:(Nat->Prop)->World->Value->Prop} (S1:nQ P1)
  {PZ:(Nat->Prop)->World->Array Value×Array Value->Prop} (SZ:nQ PZ)
  (C0: ∀(N:Nat->Prop) (W:World),NK wd N W->Calls Tryz.prog 8 #[.agg aN] W fun e w'=> ∃v,e= .returned v/\P0 N w' v/\Below W.heap.size W w')
  (C1: ∀(N:Nat->Prop) (W:World) (v0:Value),NK wd N W->P0 N W v0->Calls Tryz.prog 9 #[.agg aO] W fun e w'=> ∃v,e= .returned v/\P1 N w' v/\Below W.heap.size W w')
  (C2: ∀(N:Nat->Prop) (W:World) (v0:Value) (v1:Value),NK wd N W->P0 N W v0->P1 N W v1->Calls Tryz.prog 10 #[v0,v1] W fun e w'=> ∃u1 u2,e= .returned (.tuple #[.agg u1,.agg u2])/\PZ N w' (u1,u2)/\Below W.heap.size W w')
  (hZ: ∀N W u1 u2,PZ N W (u1,u2)->(u1.size=aH.size/\ ∀u∈u1.toList,u.oneCell'=true)/\u2.size=aC.size/\ ∀u∈u2.toList,u.oneCell'=true)
  (fin: ∀(N:Nat->Prop) (W:World) (v0:Value) (v1:Value) (u1 u2:Array Value) (b8 b9:Nat),NK wd N W->P0 N W v0->P1 N W v1->PZ N W (u1,u2)->ai W b8 37 u1->ai W b9 39 u2->N b8->N b9->b8≠b9->NX 112 (Q .normal) [(6,PH x6),(7,PH x7),(9,PH x9),(12,.int .i64 (z12:Int)),(14,PH b8),(15,PH b9)] W) :
  AU 112 Tryz.prog bN Q (fun W=>ai W gA 27 aN/\ai W gB 29 aO) 11 12 (Array.replicate 12 false) [(6,PH x6),(7,PH x7),(9,PH x9),(12,.int .i64 (z12:Int)),(2,PH gA),(3,PH gB)] wd:=by
 have pG: ∀(N:Nat->Prop) (W:World) (v0:Value) (v1:Value) (u1 u2:Array Value) (b8:Nat) (b9:Nat),NK wd N W->P0 N W v0->P1 N W v1->PZ N W (u1,u2)->(ai W b8 37 aH/\N b8)->(ai W b9 39 aC/\N b9)->b8≠b9->AU 112 Tryz.prog bN Q (fun W=>ai W gA 27 aN/\ai W gB 29 aO) 11 2 (bF 12 [0,1,2,3,4,5,6,7,8,9]) [(6,PH x6),(7,PH x7),(9,PH x9),(12,.int .i64 (z12:Int)),(92,.agg u1),(93,.agg u2),(14,PH b8),(15,PH b9)] W:=by
  intro N W v0 v1 u1 u2 b8 b9 H p0 p1 pz h8 h9 hne
  obtain ⟨⟨z1,z2⟩,z3,z4⟩:=hZ N W u1 u2 pz
  have l8:=(H.n _ h8.2).1
  have l9:=(H.n _ h9.2).1
  have lA:=hA.lt
  have lB:=hB.lt
  refine AU.st (o:=opAt bN 10) 10 (by kernel_rfl) (by kernel_rfl) (by kernel_rfl) (by kernel_rfl) (T:=37) (x:= .tmp 14) (y:= .tmp 92) (C:=aH) (by kernel_rfl) rfl rfl h8.1 (by rw [z1]) z2 (by rw [z1];exact aY) (fun w' ho _=>⟨(ho.block _ (by omega)).trans (hA.below H.b hA.lt),(ho.block _ (by omega)).trans (hB.below H.b hB.lt)⟩) fun W1 R1 O1=> ?_
  have H1:=H.one O1 h8.2
  have Ae:=(O1.block _ (Ne.symm hne)).trans h9.1
  refine AU.st (o:=opAt bN 11) 11 (by kernel_rfl) (by kernel_rfl) (by kernel_rfl) (by kernel_rfl) (T:=39) (x:= .tmp 15) (y:= .tmp 93) (C:=aC) (by kernel_rfl) rfl rfl Ae (by rw [z3]) z4 (by rw [z3];exact aZ) (fun _ _ h=>absurd rfl h) fun W2 R2 O2=> ?_
  have H2:=H1.one O2 h9.2
  refine AU.done (by kernel_rfl) ?_
  exact fun ac hE=>fin N W2 v0 v1 u1 u2 b8 b9 H2 (S0.o _ _ _ _ _ (S0.o _ _ _ _ _ p0 O1 h8.2) O2 h9.2) (S1.o _ _ _ _ _ (S1.o _ _ _ _ _ p1 O1 h8.2) O2 h9.2) (SZ.o _ _ _ _ _ (SZ.o _ _ _ _ _ pz O1 h8.2) O2 h9.2) ((O2.block _ hne).trans R1) R2 h8.2 h9.2 hne ac (hE.sub ⟨rfl,rfl,rfl,rfl,rfl,rfl,trivial⟩)
 have uh: ∀(N:Nat->Prop) (W:World) (v0:Value) (v1:Value) (u1 u2:Array Value) (b8:Nat),NK wd N W->P0 N W v0->P1 N W v1->PZ N W (u1,u2)->(ai W b8 37 aH/\N b8)->AU 112 Tryz.prog bN Q (fun W=>ai W gA 27 aN/\ai W gB 29 aO) 11 3 (bF 12 [0,1,2,3,4,5,6,7,8]) [(6,PH x6),(7,PH x7),(9,PH x9),(12,.int .i64 (z12:Int)),(92,.agg u1),(93,.agg u2),(14,PH b8)] W:=by
  intro N W v0 v1 u1 u2 b8 H p0 p1 pz h8
  refine AU.m1 (show Region.ready .any bN (bF 12 [0,1,2,3,4,5,6,7,8])=[9] by kernel_rfl) ?_
  ·have hb:=cU W aC 39
   have H':=H.alloc 39 aC
   have hn: ∀b,(N b\/b=W.heap.size)->N b\/W.heap.size<=b:=fun b hb=>hb.imp id fun e=>by omega
   refine aV.vv (o:=opAt bN 9) (d:=15) (by kernel_rfl) (by kernel_rfl) (by kernel_rfl) (bp (z:= .agg aC) (by kernel_rfl) dr) (by decide) ⟨hA.below H'.b hA.lt,hB.below H'.b hB.lt⟩ ?_
   exact AU.re (by kernel_rfl) (show aW _ [(6,PH x6),(7,PH x7),(9,PH x9),(12,.int .i64 (z12:Int)),(92,.agg u1),(93,.agg u2),(14,PH b8),(15,PH W.heap.size)] from ⟨rfl,rfl,rfl,rfl,rfl,rfl,rfl,rfl,trivial⟩) (pG _ _ _ _ _ _ _ _ H' (S0.b _ _ _ _ _ p0 hb hn) (S1.b _ _ _ _ _ p1 hb hn) (SZ.b _ _ _ _ _ pz hb hn) ⟨h8.1.below hb h8.1.lt,.inl h8.2⟩ ⟨ai.new W 39 aC,.inr rfl⟩ (by have:=h8.1.lt;omega))
 have ug: ∀(N:Nat->Prop) (W:World) (v0:Value) (v1:Value) (u1 u2:Array Value) (b9:Nat),NK wd N W->P0 N W v0->P1 N W v1->PZ N W (u1,u2)->(ai W b9 39 aC/\N b9)->AU 112 Tryz.prog bN Q (fun W=>ai W gA 27 aN/\ai W gB 29 aO) 11 3 (bF 12 [0,1,2,3,4,5,6,7,9]) [(6,PH x6),(7,PH x7),(9,PH x9),(12,.int .i64 (z12:Int)),(92,.agg u1),(93,.agg u2),(15,PH b9)] W:=by
  intro N W v0 v1 u1 u2 b9 H p0 p1 pz h9
  refine AU.m1 (show Region.ready .any bN (bF 12 [0,1,2,3,4,5,6,7,9])=[8] by kernel_rfl) ?_
  ·have hb:=cU W aH 37
   have H':=H.alloc 37 aH
   have hn: ∀b,(N b\/b=W.heap.size)->N b\/W.heap.size<=b:=fun b hb=>hb.imp id fun e=>by omega
   refine aV.vv (o:=opAt bN 8) (d:=14) (by kernel_rfl) (by kernel_rfl) (by kernel_rfl) (bp (z:= .agg aH) (by kernel_rfl) dH) (by decide) ⟨hA.below H'.b hA.lt,hB.below H'.b hB.lt⟩ ?_
   exact AU.re (by kernel_rfl) (show aW _ [(6,PH x6),(7,PH x7),(9,PH x9),(12,.int .i64 (z12:Int)),(92,.agg u1),(93,.agg u2),(14,PH W.heap.size),(15,PH b9)] from ⟨rfl,rfl,rfl,rfl,rfl,rfl,rfl,rfl,trivial⟩) (pG _ _ _ _ _ _ _ _ H' (S0.b _ _ _ _ _ p0 hb hn) (S1.b _ _ _ _ _ p1 hb hn) (SZ.b _ _ _ _ _ pz hb hn) ⟨ai.new W 37 aH,.inr rfl⟩ ⟨h9.1.below hb h9.1.lt,.inl h9.2⟩ (by have:=h9.1.lt;omega))
 have BF: ∀(N:Nat->Prop) (W:World) (v0:Value) (v1:Value) (u1 u2:Array Value),NK wd N W->P0 N W v0->P1 N W v1->PZ N W (u1,u2)->AU 112 Tryz.prog bN Q (fun W=>ai W gA 27 aN/\ai W gB 29 aO) 11 4 (bF 12 [0,1,2,3,4,5,6,7]) [(6,PH x6),(7,PH x7),(9,PH x9),(12,.int .i64 (z12:Int)),(92,.agg u1),(93,.agg u2)] W:=by
  intro N W v0 v1 u1 u2 H p0 p1 pz
  refine AU.m2 (show Region.ready .any bN (bF 12 [0,1,2,3,4,5,6,7])=[8,9] by kernel_rfl) ?_ ?_
  ·have hb:=cU W aH 37
   have H':=H.alloc 37 aH
   have hn: ∀b,(N b\/b=W.heap.size)->N b\/W.heap.size<=b:=fun b hb=>hb.imp id fun e=>by omega
   refine aV.vv (o:=opAt bN 8) (d:=14) (by kernel_rfl) (by kernel_rfl) (by kernel_rfl) (bp (z:= .agg aH) (by kernel_rfl) dH) (by decide) ⟨hA.below H'.b hA.lt,hB.below H'.b hB.lt⟩ ?_
   exact AU.re (by kernel_rfl) (show aW _ [(6,PH x6),(7,PH x7),(9,PH x9),(12,.int .i64 (z12:Int)),(92,.agg u1),(93,.agg u2),(14,PH W.heap.size)] from ⟨rfl,rfl,rfl,rfl,rfl,rfl,rfl,trivial⟩) (uh _ _ _ _ _ _ _ H' (S0.b _ _ _ _ _ p0 hb hn) (S1.b _ _ _ _ _ p1 hb hn) (SZ.b _ _ _ _ _ pz hb hn) ⟨ai.new W 37 aH,.inr rfl⟩)
  ·have hb:=cU W aC 39
   have H':=H.alloc 39 aC
   have hn: ∀b,(N b\/b=W.heap.size)->N b\/W.heap.size<=b:=fun b hb=>hb.imp id fun e=>by omega
   refine aV.vv (o:=opAt bN 9) (d:=15) (by kernel_rfl) (by kernel_rfl) (by kernel_rfl) (bp (z:= .agg aC) (by kernel_rfl) dr) (by decide) ⟨hA.below H'.b hA.lt,hB.below H'.b hB.lt⟩ ?_
   exact AU.re (by kernel_rfl) (show aW _ [(6,PH x6),(7,PH x7),(9,PH x9),(12,.int .i64 (z12:Int)),(92,.agg u1),(93,.agg u2),(15,PH W.heap.size)] from ⟨rfl,rfl,rfl,rfl,rfl,rfl,rfl,trivial⟩) (ug _ _ _ _ _ _ _ H' (S0.b _ _ _ _ _ p0 hb hn) (S1.b _ _ _ _ _ p1 hb hn) (SZ.b _ _ _ _ _ pz hb hn) ⟨ai.new W 39 aC,.inr rfl⟩)
 have ma: ∀(N:Nat->Prop) (W:World) (v0:Value) (v1:Value) (b8:Nat) (b9:Nat),NK wd N W->P0 N W v0->P1 N W v1->(ai W b8 37 aH/\N b8)->(ai W b9 39 aC/\N b9)->b8≠b9->AU 112 Tryz.prog bN Q (fun W=>ai W gA 27 aN/\ai W gB 29 aO) 11 6 (bF 12 [0,1,2,3,8,9]) [(6,PH x6),(7,PH x7),(9,PH x9),(12,.int .i64 (z12:Int)),(87,.agg aN),(89,.agg aO),(88,v0),(90,v1),(14,PH b8),(15,PH b9)] W:=by
  intro N W v0 v1 b8 b9 H p0 p1 h8 h9 hne
  refine AU.m1 (show Region.ready .any bN (bF 12 [0,1,2,3,8,9])=[4] by kernel_rfl) ?_
  ·refine aV.c (o:=opAt bN 4) (d:=91) (by kernel_rfl) (by kernel_rfl) (by kernel_rfl) (bu (cl:=CG) (args:= #[v0,v1]) (by kernel_rfl) (by kernel_rfl) (by kernel_rfl) rfl) (by decide) (C2 N W v0 v1 H p0 p1) ?_
   rintro _ W' ⟨u1,u2,rfl,pz,hb⟩
   have H':=H.below hb
   have hn: ∀b,N b->N b\/W.heap.size<=b:=fun b hb=> .inl hb
   refine ⟨_,rfl,⟨hA.below H'.b hA.lt,hB.below H'.b hB.lt⟩,?_⟩
   refine AU.tk (o:=opAt bN 5) (d:=86) 5 (by kernel_rfl) (by kernel_rfl) (fun _ _ _ h=>hQ _ _ _ _ _ h) (by kernel_rfl) (by kernel_rfl) (fun W hW=>bf (x:= .tmp 91) (by kernel_rfl) rfl) (by decide) ⟨hA.below H'.b hA.lt,hB.below H'.b hB.lt⟩ ?_
   refine AU.tk (o:=opAt bN 6) (d:=92) 6 (by kernel_rfl) (by kernel_rfl) (fun _ _ _ h=>hQ _ _ _ _ _ h) (by kernel_rfl) (by kernel_rfl) (fun W hW=>cJ (x:= .tmp 86) (i:=0) (by kernel_rfl) rfl rfl) (by decide) ⟨hA.below H'.b hA.lt,hB.below H'.b hB.lt⟩ ?_
   refine AU.tk (o:=opAt bN 7) (d:=93) 7 (by kernel_rfl) (by kernel_rfl) (fun _ _ _ h=>hQ _ _ _ _ _ h) (by kernel_rfl) (by kernel_rfl) (fun W hW=>cJ (x:= .tmp 86) (i:=1) (by kernel_rfl) rfl rfl) (by decide) ⟨hA.below H'.b hA.lt,hB.below H'.b hB.lt⟩ ?_
   exact AU.re (by kernel_rfl) (show aW _ [(6,PH x6),(7,PH x7),(9,PH x9),(12,.int .i64 (z12:Int)),(92,.agg u1),(93,.agg u2),(14,PH b8),(15,PH b9)] from ⟨rfl,rfl,rfl,rfl,rfl,rfl,rfl,rfl,trivial⟩) (pG _ _ _ _ _ _ _ _ H' (S0.b _ _ _ _ _ p0 hb hn) (S1.b _ _ _ _ _ p1 hb hn) pz ⟨h8.1.below hb h8.1.lt,h8.2⟩ ⟨h9.1.below hb h9.1.lt,h9.2⟩ hne)
 have pF: ∀(N:Nat->Prop) (W:World) (v0:Value) (v1:Value) (b8:Nat),NK wd N W->P0 N W v0->P1 N W v1->(ai W b8 37 aH/\N b8)->AU 112 Tryz.prog bN Q (fun W=>ai W gA 27 aN/\ai W gB 29 aO) 11 7 (bF 12 [0,1,2,3,8]) [(6,PH x6),(7,PH x7),(9,PH x9),(12,.int .i64 (z12:Int)),(87,.agg aN),(89,.agg aO),(88,v0),(90,v1),(14,PH b8)] W:=by
  intro N W v0 v1 b8 H p0 p1 h8
  refine AU.m2 (show Region.ready .any bN (bF 12 [0,1,2,3,8])=[4,9] by kernel_rfl) ?_ ?_
  ·refine aV.c (o:=opAt bN 4) (d:=91) (by kernel_rfl) (by kernel_rfl) (by kernel_rfl) (bu (cl:=CG) (args:= #[v0,v1]) (by kernel_rfl) (by kernel_rfl) (by kernel_rfl) rfl) (by decide) (C2 N W v0 v1 H p0 p1) ?_
   rintro _ W' ⟨u1,u2,rfl,pz,hb⟩
   have H':=H.below hb
   have hn: ∀b,N b->N b\/W.heap.size<=b:=fun b hb=> .inl hb
   refine ⟨_,rfl,⟨hA.below H'.b hA.lt,hB.below H'.b hB.lt⟩,?_⟩
   refine AU.tk (o:=opAt bN 5) (d:=86) 5 (by kernel_rfl) (by kernel_rfl) (fun _ _ _ h=>hQ _ _ _ _ _ h) (by kernel_rfl) (by kernel_rfl) (fun W hW=>bf (x:= .tmp 91) (by kernel_rfl) rfl) (by decide) ⟨hA.below H'.b hA.lt,hB.below H'.b hB.lt⟩ ?_
   refine AU.tk (o:=opAt bN 6) (d:=92) 6 (by kernel_rfl) (by kernel_rfl) (fun _ _ _ h=>hQ _ _ _ _ _ h) (by kernel_rfl) (by kernel_rfl) (fun W hW=>cJ (x:= .tmp 86) (i:=0) (by kernel_rfl) rfl rfl) (by decide) ⟨hA.below H'.b hA.lt,hB.below H'.b hB.lt⟩ ?_
   refine AU.tk (o:=opAt bN 7) (d:=93) 7 (by kernel_rfl) (by kernel_rfl) (fun _ _ _ h=>hQ _ _ _ _ _ h) (by kernel_rfl) (by kernel_rfl) (fun W hW=>cJ (x:= .tmp 86) (i:=1) (by kernel_rfl) rfl rfl) (by decide) ⟨hA.below H'.b hA.lt,hB.below H'.b hB.lt⟩ ?_
   exact AU.re (by kernel_rfl) (show aW _ [(6,PH x6),(7,PH x7),(9,PH x9),(12,.int .i64 (z12:Int)),(92,.agg u1),(93,.agg u2),(14,PH b8)] from ⟨rfl,rfl,rfl,rfl,rfl,rfl,rfl,trivial⟩) (uh _ _ _ _ _ _ _ H' (S0.b _ _ _ _ _ p0 hb hn) (S1.b _ _ _ _ _ p1 hb hn) pz ⟨h8.1.below hb h8.1.lt,h8.2⟩)
  ·have hb:=cU W aC 39
   have H':=H.alloc 39 aC
   have hn: ∀b,(N b\/b=W.heap.size)->N b\/W.heap.size<=b:=fun b hb=>hb.imp id fun e=>by omega
   refine aV.vv (o:=opAt bN 9) (d:=15) (by kernel_rfl) (by kernel_rfl) (by kernel_rfl) (bp (z:= .agg aC) (by kernel_rfl) dr) (by decide) ⟨hA.below H'.b hA.lt,hB.below H'.b hB.lt⟩ ?_
   exact AU.re (by kernel_rfl) (show aW _ [(6,PH x6),(7,PH x7),(9,PH x9),(12,.int .i64 (z12:Int)),(87,.agg aN),(89,.agg aO),(88,v0),(90,v1),(14,PH b8),(15,PH W.heap.size)] from ⟨rfl,rfl,rfl,rfl,rfl,rfl,rfl,rfl,rfl,rfl,trivial⟩) (ma _ _ _ _ _ _ H' (S0.b _ _ _ _ _ p0 hb hn) (S1.b _ _ _ _ _ p1 hb hn) ⟨h8.1.below hb h8.1.lt,.inl h8.2⟩ ⟨ai.new W 39 aC,.inr rfl⟩ (by have:=h8.1.lt;omega))
 have pE: ∀(N:Nat->Prop) (W:World) (v0:Value) (v1:Value) (b9:Nat),NK wd N W->P0 N W v0->P1 N W v1->(ai W b9 39 aC/\N b9)->AU 112 Tryz.prog bN Q (fun W=>ai W gA 27 aN/\ai W gB 29 aO) 11 7 (bF 12 [0,1,2,3,9]) [(6,PH x6),(7,PH x7),(9,PH x9),(12,.int .i64 (z12:Int)),(87,.agg aN),(89,.agg aO),(88,v0),(90,v1),(15,PH b9)] W:=by
  intro N W v0 v1 b9 H p0 p1 h9
  refine AU.m2 (show Region.ready .any bN (bF 12 [0,1,2,3,9])=[4,8] by kernel_rfl) ?_ ?_
  ·refine aV.c (o:=opAt bN 4) (d:=91) (by kernel_rfl) (by kernel_rfl) (by kernel_rfl) (bu (cl:=CG) (args:= #[v0,v1]) (by kernel_rfl) (by kernel_rfl) (by kernel_rfl) rfl) (by decide) (C2 N W v0 v1 H p0 p1) ?_
   rintro _ W' ⟨u1,u2,rfl,pz,hb⟩
   have H':=H.below hb
   have hn: ∀b,N b->N b\/W.heap.size<=b:=fun b hb=> .inl hb
   refine ⟨_,rfl,⟨hA.below H'.b hA.lt,hB.below H'.b hB.lt⟩,?_⟩
   refine AU.tk (o:=opAt bN 5) (d:=86) 5 (by kernel_rfl) (by kernel_rfl) (fun _ _ _ h=>hQ _ _ _ _ _ h) (by kernel_rfl) (by kernel_rfl) (fun W hW=>bf (x:= .tmp 91) (by kernel_rfl) rfl) (by decide) ⟨hA.below H'.b hA.lt,hB.below H'.b hB.lt⟩ ?_
   refine AU.tk (o:=opAt bN 6) (d:=92) 6 (by kernel_rfl) (by kernel_rfl) (fun _ _ _ h=>hQ _ _ _ _ _ h) (by kernel_rfl) (by kernel_rfl) (fun W hW=>cJ (x:= .tmp 86) (i:=0) (by kernel_rfl) rfl rfl) (by decide) ⟨hA.below H'.b hA.lt,hB.below H'.b hB.lt⟩ ?_
   refine AU.tk (o:=opAt bN 7) (d:=93) 7 (by kernel_rfl) (by kernel_rfl) (fun _ _ _ h=>hQ _ _ _ _ _ h) (by kernel_rfl) (by kernel_rfl) (fun W hW=>cJ (x:= .tmp 86) (i:=1) (by kernel_rfl) rfl rfl) (by decide) ⟨hA.below H'.b hA.lt,hB.below H'.b hB.lt⟩ ?_
   exact AU.re (by kernel_rfl) (show aW _ [(6,PH x6),(7,PH x7),(9,PH x9),(12,.int .i64 (z12:Int)),(92,.agg u1),(93,.agg u2),(15,PH b9)] from ⟨rfl,rfl,rfl,rfl,rfl,rfl,rfl,trivial⟩) (ug _ _ _ _ _ _ _ H' (S0.b _ _ _ _ _ p0 hb hn) (S1.b _ _ _ _ _ p1 hb hn) pz ⟨h9.1.below hb h9.1.lt,h9.2⟩)
  ·have hb:=cU W aH 37
   have H':=H.alloc 37 aH
   have hn: ∀b,(N b\/b=W.heap.size)->N b\/W.heap.size<=b:=fun b hb=>hb.imp id fun e=>by omega
   refine aV.vv (o:=opAt bN 8) (d:=14) (by kernel_rfl) (by kernel_rfl) (by kernel_rfl) (bp (z:= .agg aH) (by kernel_rfl) dH) (by decide) ⟨hA.below H'.b hA.lt,hB.below H'.b hB.lt⟩ ?_
   exact AU.re (by kernel_rfl) (show aW _ [(6,PH x6),(7,PH x7),(9,PH x9),(12,.int .i64 (z12:Int)),(87,.agg aN),(89,.agg aO),(88,v0),(90,v1),(14,PH W.heap.size),(15,PH b9)] from ⟨rfl,rfl,rfl,rfl,rfl,rfl,rfl,rfl,rfl,rfl,trivial⟩) (ma _ _ _ _ _ _ H' (S0.b _ _ _ _ _ p0 hb hn) (S1.b _ _ _ _ _ p1 hb hn) ⟨ai.new W 37 aH,.inr rfl⟩ ⟨h9.1.below hb h9.1.lt,.inl h9.2⟩ (by have:=h9.1.lt;omega))
 have wG: ∀(N:Nat->Prop) (W:World) (v0:Value) (v1:Value),NK wd N W->P0 N W v0->P1 N W v1->AU 112 Tryz.prog bN Q (fun W=>ai W gA 27 aN/\ai W gB 29 aO) 11 8 (bF 12 [0,1,2,3]) [(6,PH x6),(7,PH x7),(9,PH x9),(12,.int .i64 (z12:Int)),(87,.agg aN),(89,.agg aO),(88,v0),(90,v1)] W:=by
  intro N W v0 v1 H p0 p1
  refine AU.m3 (show Region.ready .any bN (bF 12 [0,1,2,3])=[4,8,9] by kernel_rfl) ?_ ?_ ?_
  ·refine aV.c (o:=opAt bN 4) (d:=91) (by kernel_rfl) (by kernel_rfl) (by kernel_rfl) (bu (cl:=CG) (args:= #[v0,v1]) (by kernel_rfl) (by kernel_rfl) (by kernel_rfl) rfl) (by decide) (C2 N W v0 v1 H p0 p1) ?_
   rintro _ W' ⟨u1,u2,rfl,pz,hb⟩
   have H':=H.below hb
   have hn: ∀b,N b->N b\/W.heap.size<=b:=fun b hb=> .inl hb
   refine ⟨_,rfl,⟨hA.below H'.b hA.lt,hB.below H'.b hB.lt⟩,?_⟩
   refine AU.tk (o:=opAt bN 5) (d:=86) 5 (by kernel_rfl) (by kernel_rfl) (fun _ _ _ h=>hQ _ _ _ _ _ h) (by kernel_rfl) (by kernel_rfl) (fun W hW=>bf (x:= .tmp 91) (by kernel_rfl) rfl) (by decide) ⟨hA.below H'.b hA.lt,hB.below H'.b hB.lt⟩ ?_
   refine AU.tk (o:=opAt bN 6) (d:=92) 6 (by kernel_rfl) (by kernel_rfl) (fun _ _ _ h=>hQ _ _ _ _ _ h) (by kernel_rfl) (by kernel_rfl) (fun W hW=>cJ (x:= .tmp 86) (i:=0) (by kernel_rfl) rfl rfl) (by decide) ⟨hA.below H'.b hA.lt,hB.below H'.b hB.lt⟩ ?_
   refine AU.tk (o:=opAt bN 7) (d:=93) 7 (by kernel_rfl) (by kernel_rfl) (fun _ _ _ h=>hQ _ _ _ _ _ h) (by kernel_rfl) (by kernel_rfl) (fun W hW=>cJ (x:= .tmp 86) (i:=1) (by kernel_rfl) rfl rfl) (by decide) ⟨hA.below H'.b hA.lt,hB.below H'.b hB.lt⟩ ?_
   exact AU.re (by kernel_rfl) (show aW _ [(6,PH x6),(7,PH x7),(9,PH x9),(12,.int .i64 (z12:Int)),(92,.agg u1),(93,.agg u2)] from ⟨rfl,rfl,rfl,rfl,rfl,rfl,trivial⟩) (BF _ _ _ _ _ _ H' (S0.b _ _ _ _ _ p0 hb hn) (S1.b _ _ _ _ _ p1 hb hn) pz)
  ·have hb:=cU W aH 37
   have H':=H.alloc 37 aH
   have hn: ∀b,(N b\/b=W.heap.size)->N b\/W.heap.size<=b:=fun b hb=>hb.imp id fun e=>by omega
   refine aV.vv (o:=opAt bN 8) (d:=14) (by kernel_rfl) (by kernel_rfl) (by kernel_rfl) (bp (z:= .agg aH) (by kernel_rfl) dH) (by decide) ⟨hA.below H'.b hA.lt,hB.below H'.b hB.lt⟩ ?_
   exact AU.re (by kernel_rfl) (show aW _ [(6,PH x6),(7,PH x7),(9,PH x9),(12,.int .i64 (z12:Int)),(87,.agg aN),(89,.agg aO),(88,v0),(90,v1),(14,PH W.heap.size)] from ⟨rfl,rfl,rfl,rfl,rfl,rfl,rfl,rfl,rfl,trivial⟩) (pF _ _ _ _ _ H' (S0.b _ _ _ _ _ p0 hb hn) (S1.b _ _ _ _ _ p1 hb hn) ⟨ai.new W 37 aH,.inr rfl⟩)
  ·have hb:=cU W aC 39
   have H':=H.alloc 39 aC
   have hn: ∀b,(N b\/b=W.heap.size)->N b\/W.heap.size<=b:=fun b hb=>hb.imp id fun e=>by omega
   refine aV.vv (o:=opAt bN 9) (d:=15) (by kernel_rfl) (by kernel_rfl) (by kernel_rfl) (bp (z:= .agg aC) (by kernel_rfl) dr) (by decide) ⟨hA.below H'.b hA.lt,hB.below H'.b hB.lt⟩ ?_
   exact AU.re (by kernel_rfl) (show aW _ [(6,PH x6),(7,PH x7),(9,PH x9),(12,.int .i64 (z12:Int)),(87,.agg aN),(89,.agg aO),(88,v0),(90,v1),(15,PH W.heap.size)] from ⟨rfl,rfl,rfl,rfl,rfl,rfl,rfl,rfl,rfl,trivial⟩) (pE _ _ _ _ _ H' (S0.b _ _ _ _ _ p0 hb hn) (S1.b _ _ _ _ _ p1 hb hn) ⟨ai.new W 39 aC,.inr rfl⟩)
 have lZ: ∀(N:Nat->Prop) (W:World) (v0:Value) (b8:Nat) (b9:Nat),NK wd N W->P0 N W v0->(ai W b8 37 aH/\N b8)->(ai W b9 39 aC/\N b9)->b8≠b9->AU 112 Tryz.prog bN Q (fun W=>ai W gA 27 aN/\ai W gB 29 aO) 11 7 (bF 12 [0,1,2,8,9]) [(6,PH x6),(7,PH x7),(9,PH x9),(12,.int .i64 (z12:Int)),(87,.agg aN),(89,.agg aO),(88,v0),(14,PH b8),(15,PH b9)] W:=by
  intro N W v0 b8 b9 H p0 h8 h9 hne
  refine AU.m1 (show Region.ready .any bN (bF 12 [0,1,2,8,9])=[3] by kernel_rfl) ?_
  ·refine aV.c (o:=opAt bN 3) (d:=90) (by kernel_rfl) (by kernel_rfl) (by kernel_rfl) (bu (cl:=CF) (args:= #[.agg aO]) (by kernel_rfl) (by kernel_rfl) (by kernel_rfl) rfl) (by decide) (C1 N W v0 H p0) ?_
   rintro _ W' ⟨v1,rfl,pn,hb⟩
   have H':=H.below hb
   have hn: ∀b,N b->N b\/W.heap.size<=b:=fun b hb=> .inl hb
   refine ⟨_,rfl,⟨hA.below H'.b hA.lt,hB.below H'.b hB.lt⟩,?_⟩
   exact AU.re (by kernel_rfl) (show aW _ [(6,PH x6),(7,PH x7),(9,PH x9),(12,.int .i64 (z12:Int)),(87,.agg aN),(89,.agg aO),(88,v0),(90,v1),(14,PH b8),(15,PH b9)] from ⟨rfl,rfl,rfl,rfl,rfl,rfl,rfl,rfl,rfl,rfl,trivial⟩) (ma _ _ _ _ _ _ H' (S0.b _ _ _ _ _ p0 hb hn) pn ⟨h8.1.below hb h8.1.lt,h8.2⟩ ⟨h9.1.below hb h9.1.lt,h9.2⟩ hne)
 have pu: ∀(N:Nat->Prop) (W:World) (v0:Value) (b8:Nat),NK wd N W->P0 N W v0->(ai W b8 37 aH/\N b8)->AU 112 Tryz.prog bN Q (fun W=>ai W gA 27 aN/\ai W gB 29 aO) 11 8 (bF 12 [0,1,2,8]) [(6,PH x6),(7,PH x7),(9,PH x9),(12,.int .i64 (z12:Int)),(87,.agg aN),(89,.agg aO),(88,v0),(14,PH b8)] W:=by
  intro N W v0 b8 H p0 h8
  refine AU.m2 (show Region.ready .any bN (bF 12 [0,1,2,8])=[3,9] by kernel_rfl) ?_ ?_
  ·refine aV.c (o:=opAt bN 3) (d:=90) (by kernel_rfl) (by kernel_rfl) (by kernel_rfl) (bu (cl:=CF) (args:= #[.agg aO]) (by kernel_rfl) (by kernel_rfl) (by kernel_rfl) rfl) (by decide) (C1 N W v0 H p0) ?_
   rintro _ W' ⟨v1,rfl,pn,hb⟩
   have H':=H.below hb
   have hn: ∀b,N b->N b\/W.heap.size<=b:=fun b hb=> .inl hb
   refine ⟨_,rfl,⟨hA.below H'.b hA.lt,hB.below H'.b hB.lt⟩,?_⟩
   exact AU.re (by kernel_rfl) (show aW _ [(6,PH x6),(7,PH x7),(9,PH x9),(12,.int .i64 (z12:Int)),(87,.agg aN),(89,.agg aO),(88,v0),(90,v1),(14,PH b8)] from ⟨rfl,rfl,rfl,rfl,rfl,rfl,rfl,rfl,rfl,trivial⟩) (pF _ _ _ _ _ H' (S0.b _ _ _ _ _ p0 hb hn) pn ⟨h8.1.below hb h8.1.lt,h8.2⟩)
  ·have hb:=cU W aC 39
   have H':=H.alloc 39 aC
   have hn: ∀b,(N b\/b=W.heap.size)->N b\/W.heap.size<=b:=fun b hb=>hb.imp id fun e=>by omega
   refine aV.vv (o:=opAt bN 9) (d:=15) (by kernel_rfl) (by kernel_rfl) (by kernel_rfl) (bp (z:= .agg aC) (by kernel_rfl) dr) (by decide) ⟨hA.below H'.b hA.lt,hB.below H'.b hB.lt⟩ ?_
   exact AU.re (by kernel_rfl) (show aW _ [(6,PH x6),(7,PH x7),(9,PH x9),(12,.int .i64 (z12:Int)),(87,.agg aN),(89,.agg aO),(88,v0),(14,PH b8),(15,PH W.heap.size)] from ⟨rfl,rfl,rfl,rfl,rfl,rfl,rfl,rfl,rfl,trivial⟩) (lZ _ _ _ _ _ H' (S0.b _ _ _ _ _ p0 hb hn) ⟨h8.1.below hb h8.1.lt,.inl h8.2⟩ ⟨ai.new W 39 aC,.inr rfl⟩ (by have:=h8.1.lt;omega))
 have pq: ∀(N:Nat->Prop) (W:World) (v0:Value) (b9:Nat),NK wd N W->P0 N W v0->(ai W b9 39 aC/\N b9)->AU 112 Tryz.prog bN Q (fun W=>ai W gA 27 aN/\ai W gB 29 aO) 11 8 (bF 12 [0,1,2,9]) [(6,PH x6),(7,PH x7),(9,PH x9),(12,.int .i64 (z12:Int)),(87,.agg aN),(89,.agg aO),(88,v0),(15,PH b9)] W:=by
  intro N W v0 b9 H p0 h9
  refine AU.m2 (show Region.ready .any bN (bF 12 [0,1,2,9])=[3,8] by kernel_rfl) ?_ ?_
  ·refine aV.c (o:=opAt bN 3) (d:=90) (by kernel_rfl) (by kernel_rfl) (by kernel_rfl) (bu (cl:=CF) (args:= #[.agg aO]) (by kernel_rfl) (by kernel_rfl) (by kernel_rfl) rfl) (by decide) (C1 N W v0 H p0) ?_
   rintro _ W' ⟨v1,rfl,pn,hb⟩
   have H':=H.below hb
   have hn: ∀b,N b->N b\/W.heap.size<=b:=fun b hb=> .inl hb
   refine ⟨_,rfl,⟨hA.below H'.b hA.lt,hB.below H'.b hB.lt⟩,?_⟩
   exact AU.re (by kernel_rfl) (show aW _ [(6,PH x6),(7,PH x7),(9,PH x9),(12,.int .i64 (z12:Int)),(87,.agg aN),(89,.agg aO),(88,v0),(90,v1),(15,PH b9)] from ⟨rfl,rfl,rfl,rfl,rfl,rfl,rfl,rfl,rfl,trivial⟩) (pE _ _ _ _ _ H' (S0.b _ _ _ _ _ p0 hb hn) pn ⟨h9.1.below hb h9.1.lt,h9.2⟩)
  ·have hb:=cU W aH 37
   have H':=H.alloc 37 aH
   have hn: ∀b,(N b\/b=W.heap.size)->N b\/W.heap.size<=b:=fun b hb=>hb.imp id fun e=>by omega
   refine aV.vv (o:=opAt bN 8) (d:=14) (by kernel_rfl) (by kernel_rfl) (by kernel_rfl) (bp (z:= .agg aH) (by kernel_rfl) dH) (by decide) ⟨hA.below H'.b hA.lt,hB.below H'.b hB.lt⟩ ?_
   exact AU.re (by kernel_rfl) (show aW _ [(6,PH x6),(7,PH x7),(9,PH x9),(12,.int .i64 (z12:Int)),(87,.agg aN),(89,.agg aO),(88,v0),(14,PH W.heap.size),(15,PH b9)] from ⟨rfl,rfl,rfl,rfl,rfl,rfl,rfl,rfl,rfl,trivial⟩) (lZ _ _ _ _ _ H' (S0.b _ _ _ _ _ p0 hb hn) ⟨ai.new W 37 aH,.inr rfl⟩ ⟨h9.1.below hb h9.1.lt,.inl h9.2⟩ (by have:=h9.1.lt;omega))
 have wF: ∀(N:Nat->Prop) (W:World) (v0:Value),NK wd N W->P0 N W v0->AU 112 Tryz.prog bN Q (fun W=>ai W gA 27 aN/\ai W gB 29 aO) 11 9 (bF 12 [0,1,2]) [(6,PH x6),(7,PH x7),(9,PH x9),(12,.int .i64 (z12:Int)),(87,.agg aN),(89,.agg aO),(88,v0)] W:=by
  intro N W v0 H p0
  refine AU.m3 (show Region.ready .any bN (bF 12 [0,1,2])=[3,8,9] by kernel_rfl) ?_ ?_ ?_
  ·refine aV.c (o:=opAt bN 3) (d:=90) (by kernel_rfl) (by kernel_rfl) (by kernel_rfl) (bu (cl:=CF) (args:= #[.agg aO]) (by kernel_rfl) (by kernel_rfl) (by kernel_rfl) rfl) (by decide) (C1 N W v0 H p0) ?_
   rintro _ W' ⟨v1,rfl,pn,hb⟩
   have H':=H.below hb
   have hn: ∀b,N b->N b\/W.heap.size<=b:=fun b hb=> .inl hb
   refine ⟨_,rfl,⟨hA.below H'.b hA.lt,hB.below H'.b hB.lt⟩,?_⟩
   exact AU.re (by kernel_rfl) (show aW _ [(6,PH x6),(7,PH x7),(9,PH x9),(12,.int .i64 (z12:Int)),(87,.agg aN),(89,.agg aO),(88,v0),(90,v1)] from ⟨rfl,rfl,rfl,rfl,rfl,rfl,rfl,rfl,trivial⟩) (wG _ _ _ _ H' (S0.b _ _ _ _ _ p0 hb hn) pn)
  ·have hb:=cU W aH 37
   have H':=H.alloc 37 aH
   have hn: ∀b,(N b\/b=W.heap.size)->N b\/W.heap.size<=b:=fun b hb=>hb.imp id fun e=>by omega
   refine aV.vv (o:=opAt bN 8) (d:=14) (by kernel_rfl) (by kernel_rfl) (by kernel_rfl) (bp (z:= .agg aH) (by kernel_rfl) dH) (by decide) ⟨hA.below H'.b hA.lt,hB.below H'.b hB.lt⟩ ?_
   exact AU.re (by kernel_rfl) (show aW _ [(6,PH x6),(7,PH x7),(9,PH x9),(12,.int .i64 (z12:Int)),(87,.agg aN),(89,.agg aO),(88,v0),(14,PH W.heap.size)] from ⟨rfl,rfl,rfl,rfl,rfl,rfl,rfl,rfl,trivial⟩) (pu _ _ _ _ H' (S0.b _ _ _ _ _ p0 hb hn) ⟨ai.new W 37 aH,.inr rfl⟩)
  ·have hb:=cU W aC 39
   have H':=H.alloc 39 aC
   have hn: ∀b,(N b\/b=W.heap.size)->N b\/W.heap.size<=b:=fun b hb=>hb.imp id fun e=>by omega
   refine aV.vv (o:=opAt bN 9) (d:=15) (by kernel_rfl) (by kernel_rfl) (by kernel_rfl) (bp (z:= .agg aC) (by kernel_rfl) dr) (by decide) ⟨hA.below H'.b hA.lt,hB.below H'.b hB.lt⟩ ?_
   exact AU.re (by kernel_rfl) (show aW _ [(6,PH x6),(7,PH x7),(9,PH x9),(12,.int .i64 (z12:Int)),(87,.agg aN),(89,.agg aO),(88,v0),(15,PH W.heap.size)] from ⟨rfl,rfl,rfl,rfl,rfl,rfl,rfl,rfl,trivial⟩) (pq _ _ _ _ H' (S0.b _ _ _ _ _ p0 hb hn) ⟨ai.new W 39 aC,.inr rfl⟩)
 have pj: ∀(N:Nat->Prop) (W:World) (b8:Nat) (b9:Nat),NK wd N W->(ai W b8 37 aH/\N b8)->(ai W b9 39 aC/\N b9)->b8≠b9->AU 112 Tryz.prog bN Q (fun W=>ai W gA 27 aN/\ai W gB 29 aO) 11 8 (bF 12 [0,2,8,9]) [(6,PH x6),(7,PH x7),(9,PH x9),(12,.int .i64 (z12:Int)),(87,.agg aN),(89,.agg aO),(14,PH b8),(15,PH b9)] W:=by
  intro N W b8 b9 H h8 h9 hne
  refine AU.m1 (show Region.ready .any bN (bF 12 [0,2,8,9])=[1] by kernel_rfl) ?_
  ·refine aV.c (o:=opAt bN 1) (d:=88) (by kernel_rfl) (by kernel_rfl) (by kernel_rfl) (bu (cl:=CE) (args:= #[.agg aN]) (by kernel_rfl) (by kernel_rfl) (by kernel_rfl) rfl) (by decide) (C0 N W H) ?_
   rintro _ W' ⟨v0,rfl,pn,hb⟩
   have H':=H.below hb
   have hn: ∀b,N b->N b\/W.heap.size<=b:=fun b hb=> .inl hb
   refine ⟨_,rfl,⟨hA.below H'.b hA.lt,hB.below H'.b hB.lt⟩,?_⟩
   exact AU.re (by kernel_rfl) (show aW _ [(6,PH x6),(7,PH x7),(9,PH x9),(12,.int .i64 (z12:Int)),(87,.agg aN),(89,.agg aO),(88,v0),(14,PH b8),(15,PH b9)] from ⟨rfl,rfl,rfl,rfl,rfl,rfl,rfl,rfl,rfl,trivial⟩) (lZ _ _ _ _ _ H' pn ⟨h8.1.below hb h8.1.lt,h8.2⟩ ⟨h9.1.below hb h9.1.lt,h9.2⟩ hne)
 have wE: ∀(N:Nat->Prop) (W:World) (b8:Nat),NK wd N W->(ai W b8 37 aH/\N b8)->AU 112 Tryz.prog bN Q (fun W=>ai W gA 27 aN/\ai W gB 29 aO) 11 9 (bF 12 [0,2,8]) [(6,PH x6),(7,PH x7),(9,PH x9),(12,.int .i64 (z12:Int)),(87,.agg aN),(89,.agg aO),(14,PH b8)] W:=by
  intro N W b8 H h8
  refine AU.m2 (show Region.ready .any bN (bF 12 [0,2,8])=[1,9] by kernel_rfl) ?_ ?_
  ·refine aV.c (o:=opAt bN 1) (d:=88) (by kernel_rfl) (by kernel_rfl) (by kernel_rfl) (bu (cl:=CE) (args:= #[.agg aN]) (by kernel_rfl) (by kernel_rfl) (by kernel_rfl) rfl) (by decide) (C0 N W H) ?_
   rintro _ W' ⟨v0,rfl,pn,hb⟩
   have H':=H.below hb
   have hn: ∀b,N b->N b\/W.heap.size<=b:=fun b hb=> .inl hb
   refine ⟨_,rfl,⟨hA.below H'.b hA.lt,hB.below H'.b hB.lt⟩,?_⟩
   exact AU.re (by kernel_rfl) (show aW _ [(6,PH x6),(7,PH x7),(9,PH x9),(12,.int .i64 (z12:Int)),(87,.agg aN),(89,.agg aO),(88,v0),(14,PH b8)] from ⟨rfl,rfl,rfl,rfl,rfl,rfl,rfl,rfl,trivial⟩) (pu _ _ _ _ H' pn ⟨h8.1.below hb h8.1.lt,h8.2⟩)
  ·have hb:=cU W aC 39
   have H':=H.alloc 39 aC
   have hn: ∀b,(N b\/b=W.heap.size)->N b\/W.heap.size<=b:=fun b hb=>hb.imp id fun e=>by omega
   refine aV.vv (o:=opAt bN 9) (d:=15) (by kernel_rfl) (by kernel_rfl) (by kernel_rfl) (bp (z:= .agg aC) (by kernel_rfl) dr) (by decide) ⟨hA.below H'.b hA.lt,hB.below H'.b hB.lt⟩ ?_
   exact AU.re (by kernel_rfl) (show aW _ [(6,PH x6),(7,PH x7),(9,PH x9),(12,.int .i64 (z12:Int)),(87,.agg aN),(89,.agg aO),(14,PH b8),(15,PH W.heap.size)] from ⟨rfl,rfl,rfl,rfl,rfl,rfl,rfl,rfl,trivial⟩) (pj _ _ _ _ H' ⟨h8.1.below hb h8.1.lt,.inl h8.2⟩ ⟨ai.new W 39 aC,.inr rfl⟩ (by have:=h8.1.lt;omega))
 have wD: ∀(N:Nat->Prop) (W:World) (b9:Nat),NK wd N W->(ai W b9 39 aC/\N b9)->AU 112 Tryz.prog bN Q (fun W=>ai W gA 27 aN/\ai W gB 29 aO) 11 9 (bF 12 [0,2,9]) [(6,PH x6),(7,PH x7),(9,PH x9),(12,.int .i64 (z12:Int)),(87,.agg aN),(89,.agg aO),(15,PH b9)] W:=by
  intro N W b9 H h9
  refine AU.m2 (show Region.ready .any bN (bF 12 [0,2,9])=[1,8] by kernel_rfl) ?_ ?_
  ·refine aV.c (o:=opAt bN 1) (d:=88) (by kernel_rfl) (by kernel_rfl) (by kernel_rfl) (bu (cl:=CE) (args:= #[.agg aN]) (by kernel_rfl) (by kernel_rfl) (by kernel_rfl) rfl) (by decide) (C0 N W H) ?_
   rintro _ W' ⟨v0,rfl,pn,hb⟩
   have H':=H.below hb
   have hn: ∀b,N b->N b\/W.heap.size<=b:=fun b hb=> .inl hb
   refine ⟨_,rfl,⟨hA.below H'.b hA.lt,hB.below H'.b hB.lt⟩,?_⟩
   exact AU.re (by kernel_rfl) (show aW _ [(6,PH x6),(7,PH x7),(9,PH x9),(12,.int .i64 (z12:Int)),(87,.agg aN),(89,.agg aO),(88,v0),(15,PH b9)] from ⟨rfl,rfl,rfl,rfl,rfl,rfl,rfl,rfl,trivial⟩) (pq _ _ _ _ H' pn ⟨h9.1.below hb h9.1.lt,h9.2⟩)
  ·have hb:=cU W aH 37
   have H':=H.alloc 37 aH
   have hn: ∀b,(N b\/b=W.heap.size)->N b\/W.heap.size<=b:=fun b hb=>hb.imp id fun e=>by omega
   refine aV.vv (o:=opAt bN 8) (d:=14) (by kernel_rfl) (by kernel_rfl) (by kernel_rfl) (bp (z:= .agg aH) (by kernel_rfl) dH) (by decide) ⟨hA.below H'.b hA.lt,hB.below H'.b hB.lt⟩ ?_
   exact AU.re (by kernel_rfl) (show aW _ [(6,PH x6),(7,PH x7),(9,PH x9),(12,.int .i64 (z12:Int)),(87,.agg aN),(89,.agg aO),(14,PH W.heap.size),(15,PH b9)] from ⟨rfl,rfl,rfl,rfl,rfl,rfl,rfl,rfl,trivial⟩) (pj _ _ _ _ H' ⟨ai.new W 37 aH,.inr rfl⟩ ⟨h9.1.below hb h9.1.lt,.inl h9.2⟩ (by have:=h9.1.lt;omega))
 have wC: ∀(N:Nat->Prop) (W:World),NK wd N W->AU 112 Tryz.prog bN Q (fun W=>ai W gA 27 aN/\ai W gB 29 aO) 11 10 (bF 12 [0,2]) [(6,PH x6),(7,PH x7),(9,PH x9),(12,.int .i64 (z12:Int)),(87,.agg aN),(89,.agg aO)] W:=by
  intro N W H
  refine AU.m3 (show Region.ready .any bN (bF 12 [0,2])=[1,8,9] by kernel_rfl) ?_ ?_ ?_
  ·refine aV.c (o:=opAt bN 1) (d:=88) (by kernel_rfl) (by kernel_rfl) (by kernel_rfl) (bu (cl:=CE) (args:= #[.agg aN]) (by kernel_rfl) (by kernel_rfl) (by kernel_rfl) rfl) (by decide) (C0 N W H) ?_
   rintro _ W' ⟨v0,rfl,pn,hb⟩
   have H':=H.below hb
   have hn: ∀b,N b->N b\/W.heap.size<=b:=fun b hb=> .inl hb
   refine ⟨_,rfl,⟨hA.below H'.b hA.lt,hB.below H'.b hB.lt⟩,?_⟩
   exact AU.re (by kernel_rfl) (show aW _ [(6,PH x6),(7,PH x7),(9,PH x9),(12,.int .i64 (z12:Int)),(87,.agg aN),(89,.agg aO),(88,v0)] from ⟨rfl,rfl,rfl,rfl,rfl,rfl,rfl,trivial⟩) (wF _ _ _ H' pn)
  ·have hb:=cU W aH 37
   have H':=H.alloc 37 aH
   have hn: ∀b,(N b\/b=W.heap.size)->N b\/W.heap.size<=b:=fun b hb=>hb.imp id fun e=>by omega
   refine aV.vv (o:=opAt bN 8) (d:=14) (by kernel_rfl) (by kernel_rfl) (by kernel_rfl) (bp (z:= .agg aH) (by kernel_rfl) dH) (by decide) ⟨hA.below H'.b hA.lt,hB.below H'.b hB.lt⟩ ?_
   exact AU.re (by kernel_rfl) (show aW _ [(6,PH x6),(7,PH x7),(9,PH x9),(12,.int .i64 (z12:Int)),(87,.agg aN),(89,.agg aO),(14,PH W.heap.size)] from ⟨rfl,rfl,rfl,rfl,rfl,rfl,rfl,trivial⟩) (wE _ _ _ H' ⟨ai.new W 37 aH,.inr rfl⟩)
  ·have hb:=cU W aC 39
   have H':=H.alloc 39 aC
   have hn: ∀b,(N b\/b=W.heap.size)->N b\/W.heap.size<=b:=fun b hb=>hb.imp id fun e=>by omega
   refine aV.vv (o:=opAt bN 9) (d:=15) (by kernel_rfl) (by kernel_rfl) (by kernel_rfl) (bp (z:= .agg aC) (by kernel_rfl) dr) (by decide) ⟨hA.below H'.b hA.lt,hB.below H'.b hB.lt⟩ ?_
   exact AU.re (by kernel_rfl) (show aW _ [(6,PH x6),(7,PH x7),(9,PH x9),(12,.int .i64 (z12:Int)),(87,.agg aN),(89,.agg aO),(15,PH W.heap.size)] from ⟨rfl,rfl,rfl,rfl,rfl,rfl,rfl,trivial⟩) (wD _ _ _ H' ⟨ai.new W 39 aC,.inr rfl⟩)
 refine AU.tk (o:=opAt bN 0) (d:=87) 0 (by kernel_rfl) (by kernel_rfl) (fun _ _ _ h=>hQ _ _ _ _ _ h) (by kernel_rfl) (by kernel_rfl) (fun W hW=>bh (T:=27) (x:= .tmp 2) (by kernel_rfl) rfl Tryz.underlying27 rfl hW.1 iA) (by decide) ⟨hA,hB⟩ ?_
 refine AU.tk (o:=opAt bN 2) (d:=89) 2 (by kernel_rfl) (by kernel_rfl) (fun _ _ _ h=>hQ _ _ _ _ _ h) (by kernel_rfl) (by kernel_rfl) (fun W hW=>bh (T:=29) (x:= .tmp 3) (by kernel_rfl) rfl Tryz.underlying29 rfl hW.2 iB) (by decide) ⟨hA,hB⟩ ?_
 exact AU.re (by kernel_rfl) (show aW _ [(6,PH x6),(7,PH x7),(9,PH x9),(12,.int .i64 (z12:Int)),(87,.agg aN),(89,.agg aO)] from ⟨rfl,rfl,rfl,rfl,rfl,rfl,trivial⟩) (wC (fun _=>False) wd ⟨Below.refl _ _,fun b h=>h.elim⟩)
end Go.Proofs.YtimickglpboilaaGreatDoor
