/- FnStopsOnly holds for every input, in every start where the variables hold what the program's text lays: the law's condition, met by the contracts of what it calls; the row; the card. -/
import Derived.Test.YtoomhbopolalnaaGreatDoorS27
set_option linter.all false
namespace Go.Proofs.YtoomhbopolalnaaGreatDoor.lawFnStopsOnly
open Go.ChangeShapes Go.WideShapes Go.ChangeAt Go.RowKit
set_option maxRecDepth 100000
instance instGC:GC where
 inv:=fun _=>True
 ng:=0
 keep:=fun h k=>trivial
def start{W:World}(h:W.ShapedOpen Tryz.prog)(L:laidMet Tryz.prog Rows.fnStopsOnlyRow.laid W):qa W/\NG<=W.heap.size:=⟨trivial,fO _⟩
def ahp{Γ:List VT}(a:Γ=[.one (.c (.sl 5))]){ds:List D}(h:fK aJ.tab Γ ds):∃rows,ds=[.sl rows]/\da aJ.tab (aJ.tab 5) rows/\da aJ.tab [.int .u8] rows:=by
 subst a
 match ds,h with
 |[d],h=>obtain⟨rows,rfl,r⟩:=xj h.1;exact⟨rows,rfl,r,by rwa[VJ]at r⟩
def axl(l a:List ByteArray):aG Tryz.prog 11 none [ak l,ak a] (.bool (decide (l=a))) []:=by
 refine bZ ao5 aIj ⟨kA l,kA a,trivial⟩ fun f=> ?_;have j:l.length<=9223372036854775807:=kF f.1;unfold ao5;apply aj<;>intro h
 ·simp[E.den,bg]at h;refine ay ?_;have:l≠a:=fun e=>h (by rw[e]);simp[E.den,this]
 simp[E.den,bg]at h;have h:l.length=a.length:=by omega
 refine cU l.length (fun k=>[.int .i64 k]) (fun k=>∀i,i<k->nth l i=nth a i) rfl (by omega) ?_;intro k m I _;simp only[cA];apply aj<;>intro c
 ·simp[E.den,bg]at c;refine aQ (fun g=> ?_) (aQ (fun g=> ?_) ?_)
  ·simp[E.den];omega
  ·simp[E.den];omega
  apply aj<;>intro b<;>simp only[E.den,jJ,rR,ud,tZ,gQ,Az,zn,ay4,ay3,vJ,DM,ahm,jr,fP,gX,Zz]at b
  ·simp at b;exact ay (by have:l≠a:=fun e=>b (by rw[e]);simp[E.den,this])
  simp at b;refine cJ c ?_ fun i n=> ?_
  ·simp[E.den];rw[bF]
  rcases dO i k with d|d
  ·exact I i d
  ·obtain rfl:i=k:=by omega
   exact b
 ·simp[E.den,bg]at c;obtain rfl:k=l.length:=by omega
  exact ay (by simp[E.den,Jz h I])
def Ux(r:D):Prop:=∃(g:Host) (e:Event),r=.aU [enc g,enc e]/\HW g
def Ux.ty{r:D}(h:Ux r):bH aJ.tab (.aU [.agg [.sl 42,.sl 51,.sl 9,.sl 9,.sl 33],.agg [.int .i64,.str,.str,.str,.int .i64,.str,.sl 9]]) r:=by obtain⟨g,e,rfl,_⟩:=h;exact⟨pT g,Cp e,trivial⟩
def ayo{rows:List (List D)}(a:da aJ.tab [.int .u8] rows):∃r,Ux r/\dN Tryz.prog 5 none [.sl rows] r [] [(11,1)]:=by
 refine auE aJY aFF rfl aIq ⟨by show da _ (aJ.tab _) _;rw[VJ];exact a,trivial⟩ (.aU [enc (DB [] []),enc (⟨0,cL,nV,[]⟩:Event)]) ⟨_,_,rfl,ace (l:=[]) rfl⟩ fun f=> ?_;unfold apa;refine ayG rfl a fun s=> ?_;have b:(0:Int)<=0:=QM _
 (refine cr (ayz) (fun _ h=>J7.ty h) ?_;rintro _ rows i s ⟨g,rfl,G⟩ a b)
 (refine Ba (ahA g G) (fun _ h=>Oc.ty h) ?_;rintro _ rows i s ⟨e,rfl,c,d,j⟩ a b)
 exact⟨⟨g,e,rfl,G⟩,rfl⟩
def main(ds:List D)(h:fK aJ.tab anX ds):aG Tryz.prog 3 none ds (.bool true) []:=by
 obtain⟨r,rfl,c,l⟩:=ahp rfl h;refine bZ ao3 anX ?_ (fun i=> ?_)
 ·exact h
 unfold ao3;refine aH (axk r c) ?_;refine aj (fun _=>ay rfl) (fun _=> ?_)
 (refine ayD ?_ (ayo l) (fun _ h=>Ux.ty h) ?_;(focus (simp only[gS];try exact rfl));rintro _ ⟨g,e,rfl,G⟩;(simp only[cA]))
 have F:=G.fit;refine aH (aw4 aFJ g e.name F) (hty:=⟨pT _,trivial,trivial⟩) ?_;refine aH (ag4 g e.name F) (hty:=⟨pT _,trivial,trivial⟩) ?_;refine aj (fun d=> ?_) (fun _=> ?_)
 ·simp only[eS]at d;simp at d
 refine aj (fun _=>ay rfl) (fun j=> ?_);simp only[eS]at j;have o:nj g e.name=true:=by simpa using j
 have n:=G.e6;obtain⟨q1,q2⟩:=aGR (h:=g) (s:=e.name);refine cU g.entries.length (fun k=>[.int .i64 k]) (fun _=>True) rfl trivial ?_;rintro k q- -;simp only[cA];apply aj<;>intro b
 ·simp only[eS,bo]at b;have b:k<g.entries.length:=by simpa using b
  refine dK ?_;refine aH (.fZ (awY g.entries (nth g.entries k).name (by omega))) ?_;refine aH (Zm (pO g.entries (nth g.entries k).name) e.name) ?_;refine aH (Zm (ku g e.name).up (nth g.entries k).name) ?_;refine aH (Zm g.up (nth g.entries k).name) ?_;obtain⟨z,m⟩:=aGQ o b;have p:=G.pe;refine aQ (fun _=> ?_) (aQ (fun _=> ?_) ?_)
  ·simp only[eS,bo];simp;omega
  ·simp only[eS,bo];simp;omega
  refine aH (aw2 (nth (ku g e.name).parts k) (nth g.parts k)) ?_;refine aj (fun a=> ?_) (fun _=> ?_)
  ·exfalso;simp only[eS,bo,oQ,iW,tj]at a;rw[<-show JB g e.name k=(decide ((nth g.entries k).name=e.name)||hasB (pO g.entries (nth g.entries k).name) e.name)from rfl,z]at a;cases f:JB g e.name k with
   |true=>rw[f]at a;simp at a
   |false=>rw[f,m f]at a;simp at a
  ·refine cJ b ?_ trivial;simp only[eS];rw[bF];rfl
 ·refine aH (axl (ku g e.name).shut g.shut) ?_;refine ay ?_;rw[q2];simp only[eS];simp
set_option maxRecDepth 100000
def aCH:(Rows.fnStopsOnlyRow.wf (OpenSpec.ofChange Rows.fnStopsOnlySpec))=true:=by kernel_rfl
def aCy:(Tryz.f3.params.all (Tryz.prog.readableRec ·))=true:=by kernel_rfl
def aCB:(namedTie Tryz.prog Rows.fnStopsOnlyRow.named Rows.fnStopsOnlySpec.vars)=true:=by kernel_rfl
def aCs:((Rows.fnStopsOnlyRow.inPlace==Tryz.prog.inPlace 3))=true:=by kernel_rfl
def aCC:((Rows.fnStopsOnlyRow.unfollowed==Tryz.prog.unfollowed 3))=true:=by kernel_rfl
def aCz:((Rows.fnStopsOnlyRow.recurses==Tryz.prog.recurses 3))=true:=by kernel_rfl
def aCE:((Rows.fnStopsOnlyRow.named==Tryz.prog.varsNamed 3))=true:=by kernel_rfl
def aCw:((Rows.fnStopsOnlyRow.maps==(Tryz.f3.params.toList++Rows.fnStopsOnlySpec.plain.varTypes Tryz.prog).any (Tryz.prog.mapsRec ·)))=true:=by kernel_rfl
def aCr:((Rows.fnStopsOnlyRow.ifaces==(Tryz.f3.params.toList++Rows.fnStopsOnlySpec.plain.varTypes Tryz.prog).any (Tryz.prog.ifacesRec ·)))=true:=by kernel_rfl
def aCx:((Rows.fnStopsOnlyRow.mapsOut==Tryz.prog.mapsAmong Tryz.f3.resultTypes.toList))=true:=by kernel_rfl
def aCv:((Rows.fnStopsOnlyRow.loops==(Tryz.f3.params.toList++Rows.fnStopsOnlySpec.plain.varTypes Tryz.prog).any (Tryz.prog.loopsFrom ·)))=true:=by kernel_rfl
def aCI:((Rows.fnStopsOnlyRow.wideKeys==(Tryz.f3.params.toList++Rows.fnStopsOnlySpec.plain.varTypes Tryz.prog++Tryz.f3.resultTypes.toList).any (Tryz.prog.wideKeysFrom ·)))=true:=by kernel_rfl
def aCD:(Rows.fnStopsOnlySpec.vars.all (Tryz.prog.varReadable ·))=true:=by kernel_rfl
def aCA:(Tryz.f3.resultTypes.all (fun t=>Tryz.prog.readableRec t&&decide (t<Tryz.prog.types.size)))=true:=by kernel_rfl
def aCq:((Rows.fnStopsOnlyRow.ifacesOut==Tryz.f3.resultTypes.toList.any (Tryz.prog.ifacesRec ·)))=true:=by kernel_rfl
def aCu:((Rows.fnStopsOnlyRow.loopsOut==Tryz.f3.resultTypes.toList.any (Tryz.prog.loopsFrom ·)))=true:=by kernel_rfl
def aCt:((Rows.fnStopsOnlyRow.kinds==(if Rows.fnStopsOnlyRow.domain.isEmpty then []else Tryz.f3.params.toList.map fun t=>match Tryz.prog.underlying t with|some (.int k)=>some k|_=>none)))=true:=by kernel_rfl
def aCF:((Rows.fnStopsOnlyRow.veiled==(Tryz.f3.params.toList++Rows.fnStopsOnlySpec.plain.varTypes Tryz.prog++Tryz.f3.resultTypes.toList).any (Tryz.prog.veiledRec ·)))=true:=by kernel_rfl
def aCG:(Rows.fnStopsOnlyRow.veiledFits Tryz.prog Tryz.f3.params.toList (Tryz.f3.params.toList++Rows.fnStopsOnlySpec.plain.varTypes Tryz.prog++Tryz.f3.resultTypes.toList))=true:=by kernel_rfl
def closed:joinedFacts Tryz.prog 3 Tryz.f3 Rows.fnStopsOnlySpec Rows.fnStopsOnlyRow=true :=
 (jh (jh (jh (jh (jh (jh (jh (jh (jh (jh (jh (jh (jh (jh (jh (jh (jh (jh (jh (jh (jh (jh (jh (jh (jh (jh (jh (jh (jh (jh (jh aCH akv) aCo) aCy) aCB) rfl) aCp) rfl) aCk) aCs) aCC) aCz) aCE) aCw) aCr) aCx) aCv) aCI) aCD) aCA) aCq) aCu) aCj) rfl) aCi) aCh) aCl) aCm) aCt) rfl) aCF) aCG)
noncomputable def low:Nat:=(World.holding Tryz.prog default ⟨#[],#[],[]⟩).heap.size
noncomputable def akD(os:Os):World :=
 let w:=World.holding Tryz.prog os ⟨#[.cells #[.string ⟨#[118,97,108,117,101,32,111,117,116,32,111,102,32,114,97,110,103,101]⟩] 243,.cells #[.string ⟨#[105,110,118,97,108,105,100,32,115,121,110,116,97,120]⟩] 243],#[],[]⟩
 {w with heap:=w.heap
  |>.modify 6 (fun|.cells _ t f=>.cells ⟨[0,1,28,2,29,14,24,3,30,22,20,15,25,17,4,8,31,27,13,23,21,19,16,7,26,12,18,6,11,5,10,9].map (.int .u8)⟩ t f|o=>o)
  |>.modify 7 (fun|.cells _ t f=>.cells ⟨[0,1,56,2,57,49,28,3,61,58,42,50,38,29,17,4,62,47,59,36,45,43,51,22,53,39,33,30,24,18,12,5,63,55,48,27,60,41,37,16,46,35,44,21,52,32,23,11,54,26,40,15,34,20,31,10,25,14,19,9,13,8,7,6].map (.int .u8)⟩ t f|o=>o)
  |>.modify 3 (fun|.cells _ t f=>.cells ⟨[1,10,100,1000,10000,100000,1000000,10000000,100000000,1000000000,10000000000,100000000000,1000000000000,10000000000000,100000000000000,1000000000000000,10000000000000000,100000000000000000,1000000000000000000,10000000000000000000].map (.int .u64)⟩ t f|o=>o)
  |>.modify 5 (fun|.cells _ t f=>.cells ⟨([128,191,160,191,128,159,144,191,128,143]++ .replicate 22 0:List Int).map (.int .u8)⟩ t f|o=>o)
  |>.modify 2 (fun|.cells _ t f=>.cells #[.iface 241 (.pointer (some ⟨low+0,0,none⟩))] t f|o=>o)
  |>.modify 1 (fun|.cells _ t f=>.cells #[.iface 241 (.pointer (some ⟨low+1,0,none⟩))] t f|o=>o)
  |>.modify 4 (fun|.cells _ t f=>.cells ⟨(.replicate 128 240++ .replicate 66 241++ .replicate 30 2++[19]++ .replicate 12 3++[35,3,3,52,4,4,4,68]++ .replicate 11 241:List Int).map (.int .u8)⟩ t f|o=>o)}
set_option maxRecDepth 100000 in
def aCS(os:Os)(args:Array Value):laidMet Tryz.prog Rows.fnStopsOnlyRow.laid ((akD os).forCall (fun _ _=>0) ⟨#[],args,[]⟩).memory :=
 laidMet_of_run' 8 (by kernel_rfl) (by kernel_rfl)
set_option maxRecDepth 100000 in
def lifted(os:Os)(s:os.Started)(H:Type)(enc:TypeId×Value->H) :
  ReturnsInHanded {} Tryz.checked os 3 .any (fun w args=>(Rows.fnStopsOnlySpec.pre enc Tryz.prog Tryz.f3 Rows.fnStopsOnlyRow.domain false w args/\laidMet Tryz.prog Rows.fnStopsOnlyRow.laid w)/\sizedMet enc Tryz.prog Tryz.f3 (OpenSpec.ofChange Rows.fnStopsOnlySpec) false w args)
   (Rows.fnStopsOnlySpec.post enc Tryz.prog Tryz.f3 false true false false):=by
 refine az0 (C:=Tryz.checked) (X:=fun w _=>laidMet Tryz.prog Rows.fnStopsOnlyRow.laid w) (fun _ _ _ u h=>h.of_heap u) aCn s (by kernel_rfl) Tryz.func3
  (ChangeSpec.witness_at (enc:=enc) (C:=Tryz.checked) (os:=os) (X:=fun w _=>laidMet Tryz.prog Rows.fnStopsOnlyRow.laid w) false (akD os) #[.slice none 0 0] 8 rfl (by kernel_rfl) (by kernel_rfl) (by kernel_rfl) (by kernel_rfl) (by kernel_rfl) (aCS os _)) ?_
 intro W base args y Q b a g _ z c L _;have l:∀(j:Nat) t v,Tryz.f3.params[j]? =some t->args[j]? =some v->Value.okWide Tryz.prog W .any base t v:=a;have d:=g;obtain⟨p,q,A,V,rfl,B,C⟩:=g;have i:DataW.TrodAll enc Tryz.prog W 0 (fun _=>true) true Tryz.f3.params.toList args.toList y p:=A;rw[Tryz.params3]at i l;obtain⟨v0,F,S,G,I,q0,r,rfl,rfl,k,r0⟩:=trodAll_cons i;obtain⟨rfl,rfl,rfl⟩:=trodAll_nil r0;obtain rfl:args=#[v0]:=by cases args;simp_all
 obtain⟨rfl,rfl⟩:=trodVars_none V;have n:=k;have f:∀x∈I,x.block<W.heap.size:=by obtain⟨m,J⟩:=n;exact DataW.trod_lt m _ _ _ J
 obtain⟨o,M,N⟩:=aED Ck (by kernel_rfl) (l 0 22 v0 rfl rfl) k;clear A a;refine((law_run (main [o] ⟨M,trivial⟩) ⟨fun p O=>O.elim,start c L⟩ (show Rs W M0 [o] [v0]from ⟨_,_,rfl,N,rfl⟩))).mono fun e T ⟨P,gx⟩=> ?_;subst P;exact⟨_,rfl,_,_,_,[],_,[],d,trodAll_mk1 (shut_bool AX _),(trodAll_cons_mk (Below.trod akv (by kernel_rfl) (RR (by kernel_rfl)) n gx f) trodAll_mk0),rfl,gx.frame _,fun h=>by cases h⟩
def over:Rows.fnStopsOnlyRow.holds Tryz.pinned (OpenSpec.ofChange Rows.fnStopsOnlySpec) :=
 OpenClaim.holds_of_wide 3 Tryz.f3 rfl rfl rfl rfl rfl rfl rfl ⟨rfl,rfl,rfl,rfl,rfl⟩ rfl rfl rfl rfl rfl (by kernel_rfl) Tryz.func3 closed
  (RR (by kernel_rfl)) (by unfold Func.isWrapper;first|(rw[aD (by decide +kernel)];kernel_rfl)|(rw[aw (by decide +kernel)];exact⟨rfl,rfl⟩))
  (fun o s H enc _=>lifted o s H enc)
def aFz:Rows.fnStopsOnlyRow.laidByTextAt .later Tryz.pinned [.data,.data,.data,.data,.sentinel,.sentinel,.pinned] true:=fnStopsOnly_row_tie
def proved:Rows.FnStopsOnlyCardSaid :=
 Claim7.holds_tied_plain_at .later [] [.data,.data,.data,.data,.sentinel,.sentinel,.pinned] true Rows.fnStopsOnlyCard.stood.harness true
  over (fun _ h=>by cases h) (by kernel_rfl) (fun _ h=>by cases h) aFz rfl ⟨rfl,rfl⟩ (by kernel_rfl) rfl
  (fun f fn a n=>by obtain rfl:f=3:=jy ((show Tryz.prog.funcNamed Rows.fnStopsOnlyRow.func=some 3 by kernel_rfl).symm.trans a) |>.symm;obtain rfl:fn=Tryz.f3:=(jy (Tryz.func3.symm.trans n)).symm;exact⟨by kernel_rfl,aGN (by kernel_rfl)⟩)
  (by kernel_rfl)
#print axioms proved
end Go.Proofs.YtoomhbopolalnaaGreatDoor.lawFnStopsOnly
