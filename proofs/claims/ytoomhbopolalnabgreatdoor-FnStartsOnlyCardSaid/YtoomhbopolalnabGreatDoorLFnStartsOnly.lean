/- FnStartsOnly holds for every input, in every start where the variables hold what the program's text lays: the law's condition, met by the contracts of what it calls; the row; the card. -/
import Derived.Test.YtoomhbopolalnabGreatDoorT27
set_option linter.all false
namespace Go.Proofs.YtoomhbopolalnabGreatDoor.lawFnStartsOnly
open Go.ChangeShapes Go.WideShapes Go.ChangeAt Go.RowKit
set_option maxRecDepth 100000
instance instGC:GC where
 inv:=fun _=>True
 ng:=0
 keep:=fun h k=>trivial
def start{W:World}(h:W.ShapedOpen Tryz.prog)(L:laidMet Tryz.prog Rows.fnStartsOnlyRow.laid W):qd W/\NG<=W.heap.size:=⟨trivial,fW _⟩
def ah4{Γ:List VT}(a:Γ=[.one (.c (.sl 5))]){ds:List D}(h:fO aJ.tab Γ ds):∃rows,ds=[.sl rows]/\dc aJ.tab (aJ.tab 5) rows/\dc aJ.tab [.int .u8] rows:=by
 subst a
 match ds,h with
 |[d],h=>obtain⟨rows,rfl,r⟩:=xh h.1;exact⟨rows,rfl,r,by rwa[Wp]at r⟩
def ZT(l a:List ByteArray):aH Tryz.prog 10 none [aj l,aj a] (.bool (decide (l=a))) []:=by
 refine cu apV aIT ⟨jW l,jW a,trivial⟩ fun f=> ?_;have j:l.length<=9223372036854775807:=kS f.1;unfold apV;apply ai<;>intro h
 ·simp[E.den,bg]at h;refine ay ?_;have:l≠a:=fun e=>h (by rw[e]);simp[E.den,this]
 simp[E.den,bg]at h;have h:l.length=a.length:=by omega
 refine cQ l.length (fun k=>[.int .i64 k]) (fun k=>∀i,i<k->nth l i=nth a i) rfl (by omega) ?_;intro k m I _;simp only[cA];apply ai<;>intro c
 ·simp[E.den,bg]at c;refine aM (fun g=> ?_) (aM (fun g=> ?_) ?_)
  ·simp[E.den];omega
  ·simp[E.den];omega
  apply ai<;>intro b<;>simp only[E.den,jA,qQ,tW,tV,gQ,AO,zr,azS,azR,th,DQ,ah1,gZ,eO,gR,Z7]at b
  ·simp at b;exact ay (by have:l≠a:=fun e=>b (by rw[e]);simp[E.den,this])
  simp at b;refine cK c ?_ fun i n=> ?_
  ·simp[E.den];rw[bC]
  rcases dP i k with d|d
  ·exact I i d
  ·obtain rfl:i=k:=by omega
   exact b
 ·simp[E.den,bg]at c;obtain rfl:k=l.length:=by omega
  exact ay (by simp[E.den,Ua h I])
def JZ(r:D):Prop:=∃(g:Host) (e:Event),r=.aU [enc g,enc e]/\HW g
def JZ.ty{r:D}(h:JZ r):bG aJ.tab (.aU [.agg [.sl 59,.sl 87,.sl 9,.sl 9,.sl 33],.agg [.int .i64,.str,.str,.str,.int .i64,.str,.sl 9]]) r:=by obtain⟨g,e,rfl,_⟩:=h;exact⟨mN g,Cr e,trivial⟩
def Z9{rows:List (List D)}(a:dc aJ.tab [.int .u8] rows):∃r,JZ r/\dJ Tryz.prog 5 none [.sl rows] r [] [(11,1)]:=by
 refine avy aKz aGi rfl aI0 ⟨by show dc _ (aJ.tab _) _;rw[Wp];exact a,trivial⟩ (.aU [enc (DC [] []),enc (⟨0,cL,oo,[]⟩:Event)]) ⟨_,_,rfl,acS (l:=[]) rfl⟩ fun f=> ?_;unfold ap0;refine azu rfl a fun s=> ?_;have b:(0:Int)<=0:=Rf _
 ((first|refine bY (aae) (fun _ h=>DK.ty h) ?_|refine zL (aae) (fun _ h=>DK.ty h) ?_|refine bY (Dr.eB (aae)) (fun _ h=>DK.ty h) ?_);rintro _ rows i s ⟨g,rfl,G⟩ a b)
 ((first|refine bY (TD g G) (fun _ h=>Gu.ty h) ?_|refine zL (TD g G) (fun _ h=>Gu.ty h) ?_|refine bY (Dr.eB (TD g G)) (fun _ h=>Gu.ty h) ?_);rintro _ rows i s ⟨e,rfl,c,d,j⟩ a b)
 exact⟨⟨g,e,rfl,G⟩,rfl⟩
def main(ds:List D)(h:fO aJ.tab aoN ds):aH Tryz.prog 3 none ds (.bool true) []:=by
 obtain⟨r,rfl,d,j⟩:=ah4 rfl h;refine cu apS aoN ?_ (fun m=> ?_)
 ·exact h
 unfold apS
 (first|refine aF (ZR r d) ?_|refine dU (ZR r d) ?_|refine aF (.eB (ZR r d)) ?_)
 refine ai (fun _=>ay rfl) (fun _=> ?_)
 ((first|refine aih ?_ (Z9 j) (fun _ h=>JZ.ty h) ?_|refine azr ?_ (Z9 j) (fun _ h=>JZ.ty h) ?_|refine aih ?_ (exR (Z9 j)) (fun _ h=>JZ.ty h) ?_);(focus (simp only[gS];try exact rfl));rintro _ ⟨g,e,rfl,G⟩;(simp only[cA]))
 have F:=G.fit;have C:=G.e6
 (first|refine aF (ZO adG g e.name F) (hty:=⟨mN _,trivial,trivial⟩) ?_|refine dU (ZO adG g e.name F) (hty:=⟨mN _,trivial,trivial⟩) ?_|refine aF (.eB (ZO adG g e.name F)) (hty:=⟨mN _,trivial,trivial⟩) ?_)
 (first|refine aF (Tp g e.name F) (hty:=⟨mN _,trivial,trivial⟩) ?_|refine dU (Tp g e.name F) (hty:=⟨mN _,trivial,trivial⟩) ?_|refine aF (.eB (Tp g e.name F)) (hty:=⟨mN _,trivial,trivial⟩) ?_)
 refine ai (fun n=> ?_) (fun _=> ?_)
 ·simp only[eS]at n;simp at n
 refine ai (fun _=>ay rfl) (fun o=> ?_);simp only[eS]at o;have u:lO g e.name=true:=by simpa using o
 obtain⟨R,q1,q2,q3,q5,A,q4⟩:=aHq u
 (first|refine aF (ZM g.entries e.name (by omega)) ?_|refine dU (ZM g.entries e.name (by omega)) ?_|refine aF (.eB (ZM g.entries e.name (by omega))) ?_)
 (first|refine aF (Tj g.entries (by omega)) ?_|refine dU (Tj g.entries (by omega)) ?_|refine aF (.eB (Tj g.entries (by omega))) ?_)
 have p:(gM g e.name).up.length=g.up.length+R.length:=by rw[q1,iZ]
 refine aM (fun _=> ?_) ?_
 ·simp only[eS,aZ];simp;omega
 have H:=G.u;have q:=G.nk;have c:qn (aj (gM g e.name).up) 0 (g.up.length:Int)=aj g.up:=by rw[q1];simp[qn,aj]
 (first|refine aF (ZT g.up g.up) ?_ (ha:=by(simp only[gS,aZ,c];try exact rfl))|refine dU (ZT g.up g.up) ?_ (ha:=by(simp only[gS,aZ,c];try exact rfl))|refine aF (.eB (ZT g.up g.up)) ?_ (ha:=by(simp only[gS,aZ,c];try exact rfl)))
 refine ai (fun a=> ?_) (fun _=> ?_)
 ·exfalso;simp only[eS,aZ]at a;simp at a;omega
 have t:∀k,k<R.length->nth (gM g e.name).up (g.up.length+k)=nth R k:=fun k v=>by rw[q1];simp[nth,jZ,nH]
 refine cQ R.length (fun k=>[.int .i64 ((g.up.length+k:Nat):Int)]) (fun _=>True) (by simp only[eS,aZ];rfl) trivial ?_;rintro k v- -;simp only[cA];apply ai<;>intro a<;>simp only[eS,aZ]at a
 ·have a:k<R.length:=by simp at a;omega
  have s:dL .sub .i64 ((g.up.length+k:Nat):Int) 1=((g.up.length+k:Nat):Int)-1:=mz;have b:(((g.up.length+k:Nat):Int)-1).toNat=g.up.length+k-1:=by omega
  refine aM (fun _=> ?_) (aM (fun _=> ?_) ?_)
  ·simp only[eS,aZ];simp;omega
  ·simp only[eS,aZ];simp;omega
  (first|refine aF (ZS (mg g.entries e.name) (nth (gM g e.name).up (g.up.length+k))) ?_|refine dU (ZS (mg g.entries e.name) (nth (gM g e.name).up (g.up.length+k))) ?_|refine aF (.eB (ZS (mg g.entries e.name) (nth (gM g e.name).up (g.up.length+k)))) ?_)
  refine aM (fun f=> ?_) ?_
  ·simp only[cP,fI,tZ,wU,Dg,A8]at f;have f:=f.2;simp only[eS,aZ]at f;simp only[eS,aZ,s];simp at f ⊢;omega
  (first|refine aF (I3 (bR g.entries) (nth (gM g e.name).up (g.up.length+k-1))) ?_ (ha:=by(simp only[gS,aZ,gZ,eO,s,b];try exact rfl))|refine dU (I3 (bR g.entries) (nth (gM g e.name).up (g.up.length+k-1))) ?_ (ha:=by(simp only[gS,aZ,gZ,eO,s,b];try exact rfl))|refine aF (.eB (I3 (bR g.entries) (nth (gM g e.name).up (g.up.length+k-1)))) ?_ (ha:=by(simp only[gS,aZ,gZ,eO,s,b];try exact rfl)))
  refine aM (fun _=> ?_) ?_
  ·simp only[eS,aZ];simp;omega
  (first|refine aF (I3 (bR g.entries) (nth (gM g e.name).up (g.up.length+k))) ?_|refine dU (I3 (bR g.entries) (nth (gM g e.name).up (g.up.length+k))) ?_|refine aF (.eB (I3 (bR g.entries) (nth (gM g e.name).up (g.up.length+k)))) ?_)
  refine ai (fun i=> ?_) (fun _=> ?_)
  ·exfalso;simp only[eS,aZ,gZ,eO,rX]at i;rw[t k a]at i;have w:nth R k∈R:=by rw[VF _ a];exact qj _
   have x:(decide (((g.up.length+k:Nat):Int)>(g.up.length:Int))&&decide (mf (bR g.entries) (nth (gM g e.name).up (g.up.length+k-1))>=mf (bR g.entries) (nth R k)))=false:=by
    rcases rU k with rfl|y
    ·simp
    rw[show g.up.length+k-1=g.up.length+(k-1)from by omega,t _ (by omega)];have:=(Iz.1 q3) (k-1) k (by omega) a (by omega);rw[VF _ a,VF _ (by omega:k-1<R.length)];simp only[C6,oH];right;omega
   rw[x]at i;rcases q2 _ w with z|z<;>simp[z]at i
  ·refine cK a ?_ trivial;simp only[eS];rw[bC];rfl
 ·obtain rfl:k=R.length:=by simp at a;omega
  have B:R.length=A.length+1:=by rw[q4];simp
  have s:dL .sub .i64 ((gM g e.name).up.length:Int) 1=((gM g e.name).up.length:Int)-1:=mz;have b:(((gM g e.name).up.length:Int)-1).toNat=g.up.length+A.length:=by omega
  refine aM (fun _=> ?_) ?_
  ·simp only[eS,aZ,s];simp;omega
  refine ay ?_;have l:nth (gM g e.name).up (g.up.length+A.length)=e.name:=by rw[t _ (by omega),q4];simp[nth]
  simp only[eS,aZ,s,b,gZ,eO,rX,l];simp
set_option maxRecDepth 100000
def aDn:(Rows.fnStartsOnlyRow.wf (OpenSpec.ofChange Rows.fnStartsOnlySpec))=true:=by kernel_rfl
def aDe:(Tryz.f3.params.all (Tryz.prog.readableRec ·))=true:=by kernel_rfl
def aDh:(namedTie Tryz.prog Rows.fnStartsOnlyRow.named Rows.fnStartsOnlySpec.vars)=true:=by kernel_rfl
def aC8:((Rows.fnStartsOnlyRow.inPlace==Tryz.prog.inPlace 3))=true:=by kernel_rfl
def aDi:((Rows.fnStartsOnlyRow.unfollowed==Tryz.prog.unfollowed 3))=true:=by kernel_rfl
def aDf:((Rows.fnStartsOnlyRow.recurses==Tryz.prog.recurses 3))=true:=by kernel_rfl
def aDk:((Rows.fnStartsOnlyRow.named==Tryz.prog.varsNamed 3))=true:=by kernel_rfl
def aDc:((Rows.fnStartsOnlyRow.maps==(Tryz.f3.params.toList++Rows.fnStartsOnlySpec.plain.varTypes Tryz.prog).any (Tryz.prog.mapsRec ·)))=true:=by kernel_rfl
def aC7:((Rows.fnStartsOnlyRow.ifaces==(Tryz.f3.params.toList++Rows.fnStartsOnlySpec.plain.varTypes Tryz.prog).any (Tryz.prog.ifacesRec ·)))=true:=by kernel_rfl
def aDd:((Rows.fnStartsOnlyRow.mapsOut==Tryz.prog.mapsAmong Tryz.f3.resultTypes.toList))=true:=by kernel_rfl
def aDb:((Rows.fnStartsOnlyRow.loops==(Tryz.f3.params.toList++Rows.fnStartsOnlySpec.plain.varTypes Tryz.prog).any (Tryz.prog.loopsFrom ·)))=true:=by kernel_rfl
def aDo:((Rows.fnStartsOnlyRow.wideKeys==(Tryz.f3.params.toList++Rows.fnStartsOnlySpec.plain.varTypes Tryz.prog++Tryz.f3.resultTypes.toList).any (Tryz.prog.wideKeysFrom ·)))=true:=by kernel_rfl
def aDj:(Rows.fnStartsOnlySpec.vars.all (Tryz.prog.varReadable ·))=true:=by kernel_rfl
def aDg:(Tryz.f3.resultTypes.all (fun t=>Tryz.prog.readableRec t&&decide (t<Tryz.prog.types.size)))=true:=by kernel_rfl
def aC6:((Rows.fnStartsOnlyRow.ifacesOut==Tryz.f3.resultTypes.toList.any (Tryz.prog.ifacesRec ·)))=true:=by kernel_rfl
def aDa:((Rows.fnStartsOnlyRow.loopsOut==Tryz.f3.resultTypes.toList.any (Tryz.prog.loopsFrom ·)))=true:=by kernel_rfl
def aC9:((Rows.fnStartsOnlyRow.kinds==(if Rows.fnStartsOnlyRow.domain.isEmpty then []else Tryz.f3.params.toList.map fun t=>match Tryz.prog.underlying t with|some (.int k)=>some k|_=>none)))=true:=by kernel_rfl
def aDl:((Rows.fnStartsOnlyRow.veiled==(Tryz.f3.params.toList++Rows.fnStartsOnlySpec.plain.varTypes Tryz.prog++Tryz.f3.resultTypes.toList).any (Tryz.prog.veiledRec ·)))=true:=by kernel_rfl
def aDm:(Rows.fnStartsOnlyRow.veiledFits Tryz.prog Tryz.f3.params.toList (Tryz.f3.params.toList++Rows.fnStartsOnlySpec.plain.varTypes Tryz.prog++Tryz.f3.resultTypes.toList))=true:=by kernel_rfl
def closed:joinedFacts Tryz.prog 3 Tryz.f3 Rows.fnStartsOnlySpec Rows.fnStartsOnlyRow=true :=
 (jk (jk (jk (jk (jk (jk (jk (jk (jk (jk (jk (jk (jk (jk (jk (jk (jk (jk (jk (jk (jk (jk (jk (jk (jk (jk (jk (jk (jk (jk (jk aDn ale) aC4) aDe) aDh) rfl) aC5) rfl) aC0) aC8) aDi) aDf) aDk) aDc) aC7) aDd) aDb) aDo) aDj) aDg) aC6) aDa) aCZ) rfl) aCY) aCX) aC1) aC2) aC9) rfl) aDl) aDm)
noncomputable def low:Nat:=(World.holding Tryz.prog default ⟨#[],#[],[]⟩).heap.size
noncomputable def aln(os:Os):World :=
 let w:=World.holding Tryz.prog os ⟨#[.cells #[.string ⟨#[118,97,108,117,101,32,111,117,116,32,111,102,32,114,97,110,103,101]⟩] 242,.cells #[.string ⟨#[105,110,118,97,108,105,100,32,115,121,110,116,97,120]⟩] 242],#[],[]⟩
 {w with heap:=w.heap
  |>.modify 6 (fun|.cells _ t f=>.cells ⟨[0,1,28,2,29,14,24,3,30,22,20,15,25,17,4,8,31,27,13,23,21,19,16,7,26,12,18,6,11,5,10,9].map (.int .u8)⟩ t f|o=>o)
  |>.modify 7 (fun|.cells _ t f=>.cells ⟨[0,1,56,2,57,49,28,3,61,58,42,50,38,29,17,4,62,47,59,36,45,43,51,22,53,39,33,30,24,18,12,5,63,55,48,27,60,41,37,16,46,35,44,21,52,32,23,11,54,26,40,15,34,20,31,10,25,14,19,9,13,8,7,6].map (.int .u8)⟩ t f|o=>o)
  |>.modify 3 (fun|.cells _ t f=>.cells ⟨[1,10,100,1000,10000,100000,1000000,10000000,100000000,1000000000,10000000000,100000000000,1000000000000,10000000000000,100000000000000,1000000000000000,10000000000000000,100000000000000000,1000000000000000000,10000000000000000000].map (.int .u64)⟩ t f|o=>o)
  |>.modify 5 (fun|.cells _ t f=>.cells ⟨([128,191,160,191,128,159,144,191,128,143]++ .replicate 22 0:List Int).map (.int .u8)⟩ t f|o=>o)
  |>.modify 2 (fun|.cells _ t f=>.cells #[.iface 240 (.pointer (some ⟨low+0,0,none⟩))] t f|o=>o)
  |>.modify 1 (fun|.cells _ t f=>.cells #[.iface 240 (.pointer (some ⟨low+1,0,none⟩))] t f|o=>o)
  |>.modify 4 (fun|.cells _ t f=>.cells ⟨(.replicate 128 240++ .replicate 66 241++ .replicate 30 2++[19]++ .replicate 12 3++[35,3,3,52,4,4,4,68]++ .replicate 11 241:List Int).map (.int .u8)⟩ t f|o=>o)}
set_option maxRecDepth 100000 in
def aDx(os:Os)(args:Array Value):laidMet Tryz.prog Rows.fnStartsOnlyRow.laid ((aln os).forCall (fun _ _=>0) ⟨#[],args,[]⟩).memory :=
 laidMet_of_run' 8 (by kernel_rfl) (by kernel_rfl)
set_option maxRecDepth 100000 in
def lifted(os:Os)(s:os.Started)(H:Type)(enc:TypeId×Value->H) :
  ReturnsInHanded {} Tryz.checked os 3 .any (fun w args=>(Rows.fnStartsOnlySpec.pre enc Tryz.prog Tryz.f3 Rows.fnStartsOnlyRow.domain false w args/\laidMet Tryz.prog Rows.fnStartsOnlyRow.laid w)/\sizedMet enc Tryz.prog Tryz.f3 (OpenSpec.ofChange Rows.fnStartsOnlySpec) false w args)
   (Rows.fnStartsOnlySpec.post enc Tryz.prog Tryz.f3 false true false false):=by
 refine aAH (C:=Tryz.checked) (X:=fun w _=>laidMet Tryz.prog Rows.fnStartsOnlyRow.laid w) (fun _ _ _ u h=>h.of_heap u) aC3 s (by kernel_rfl) Tryz.func3
  (ChangeSpec.witness_at (enc:=enc) (C:=Tryz.checked) (os:=os) (X:=fun w _=>laidMet Tryz.prog Rows.fnStartsOnlyRow.laid w) false (aln os) #[.slice none 0 0] 8 rfl (by kernel_rfl) (by kernel_rfl) (by kernel_rfl) (by kernel_rfl) (by kernel_rfl) (aDx os _)) ?_
 intro W base args y Q b a g _ z c L _;have l:∀(j:Nat) t v,Tryz.f3.params[j]? =some t->args[j]? =some v->Value.okWide Tryz.prog W .any base t v:=a;have d:=g;obtain⟨p,q,A,V,rfl,B,C⟩:=g;have i:DataW.TrodAll enc Tryz.prog W 0 (fun _=>true) true Tryz.f3.params.toList args.toList y p:=A;rw[Tryz.params3]at i l;obtain⟨v0,F,S,G,I,q0,r,rfl,rfl,k,r0⟩:=trodAll_cons i;obtain⟨rfl,rfl,rfl⟩:=trodAll_nil r0;obtain rfl:args=#[v0]:=by cases args;simp_all
 obtain⟨rfl,rfl⟩:=trodVars_none V;have n:=k;have f:∀x∈I,x.block<W.heap.size:=by obtain⟨m,J⟩:=n;exact DataW.trod_lt m _ _ _ J
 obtain⟨o,M,N⟩:=aFd Cm (by kernel_rfl) (l 0 22 v0 rfl rfl) k;clear A a;refine((law_run (main [o] ⟨M,trivial⟩) ⟨fun p O=>O.elim,start c L⟩ (show Rs W M0 [o] [v0]from ⟨_,_,rfl,N,rfl⟩))).mono fun e T ⟨P,gr⟩=> ?_;subst P;exact⟨_,rfl,_,_,_,[],_,[],d,trodAll_mk1 (shut_bool zD _),(trodAll_cons_mk (Below.trod ale (by kernel_rfl) (SV (by kernel_rfl)) n gr f) trodAll_mk0),rfl,gr.frame _,fun h=>by cases h⟩
def over:Rows.fnStartsOnlyRow.holds Tryz.pinned (OpenSpec.ofChange Rows.fnStartsOnlySpec) :=
 OpenClaim.holds_of_wide 3 Tryz.f3 rfl rfl rfl rfl rfl rfl rfl ⟨rfl,rfl,rfl,rfl,rfl⟩ rfl rfl rfl rfl rfl (by kernel_rfl) Tryz.func3 closed
  (SV (by kernel_rfl)) (by unfold Func.isWrapper;first|(rw[aC (by decide +kernel)];kernel_rfl)|(rw[aw (by decide +kernel)];exact⟨rfl,rfl⟩))
  (fun o s H enc _=>lifted o s H enc)
def aGc:Rows.fnStartsOnlyRow.laidByTextAt .later Tryz.pinned [.data,.data,.data,.data,.sentinel,.sentinel,.pinned] true:=fnStartsOnly_row_tie
def proved:Rows.FnStartsOnlyCardSaid :=
 Claim7.holds_tied_plain_at .later [] [.data,.data,.data,.data,.sentinel,.sentinel,.pinned] true Rows.fnStartsOnlyCard.stood.harness true
  over (fun _ h=>by cases h) (by kernel_rfl) (fun _ h=>by cases h) aGc rfl ⟨rfl,rfl⟩ (by kernel_rfl) rfl
  (fun f fn a n=>by obtain rfl:f=3:=iR ((show Tryz.prog.funcNamed Rows.fnStartsOnlyRow.func=some 3 by kernel_rfl).symm.trans a) |>.symm;obtain rfl:fn=Tryz.f3:=(iR (Tryz.func3.symm.trans n)).symm;exact⟨by kernel_rfl,aHn (by kernel_rfl)⟩)
  (by kernel_rfl)
#print axioms proved
end Go.Proofs.YtoomhbopolalnabGreatDoor.lawFnStartsOnly
