/- FnEventText holds for every input, in every start where the variables hold what the program's text lays: the law's condition, met by the contracts of what it calls; the row; the card. -/
import Derived.Test.YtekplmpbkgchfaaGreatDoorE25
import Derived.Test.YtekplmpbkgchfaaGreatDoorE26
import Derived.Test.YtekplmpbkgchfaaGreatDoorE13
set_option linter.all false
namespace Go.Proofs.YtekplmpbkgchfaaGreatDoor.lawFnEventText
open Go.ChangeShapes Go.WideShapes Go.ChangeAt Go.RowKit
set_option maxRecDepth 100000
instance instGC:GC where
 inv:=fun w=>lV w 2 (fun cs=> ∃tp p,cs= #[.iface tp p])/\lV w 1 (fun cs=> ∃m,cs[0]? =some (Value.int .i64 m))/\lV w 6 (fun cs=>cs=(Lib.pow10Tab.map fun z=>Value.int .u64 z).toArray)/\lV w 0 (fun cs=>cs=(words.map Value.string).toArray)
 ng:=max (6+1) (0+1)
 keep:=fun h k=>⟨k.1.keep (by decide) h,k.2.1.keep (by decide) h,k.2.2.1.keep (by decide) h,k.2.2.2.keep (by decide) h⟩
instance :Kh:=⟨fun _ h=>h.1⟩
instance :BV:=⟨fun _ h=>h.2.1⟩
instance :zQ:=⟨fun _ h=>h.2.2.1⟩
instance :Ki:=⟨fun _ h=>h.2.2.2⟩
def start{W:World}(hsh:W.ShapedOpen Tryz.prog)(hL:laidMet Tryz.prog Rows.fnEventTextRow.laid W):mT W/\NG<=W.heap.size:=by have h:=aEB (by kernel_rfl) hL.tail.tail;have h2:=aEC (by kernel_rfl) hL.tail.tail.tail.tail.tail.tail;exact ⟨⟨aEz (by kernel_rfl) hL.tail.tail.tail.tail.tail,aEA hsh,h,h2⟩,Nat.max_le.2 ⟨ag6 h,ag6 h2⟩⟩
def afO{Γ:List VT}(aB:Γ=[.one (.c (.sl 5))]){ds:List D}(h:fM aI.tab Γ ds): ∃rows,ds=[.sl rows]/\cN aI.tab (aI.tab 5) rows/\cN aI.tab [.int .u8] rows:=by
 subst aB
 match ds,h with
 | [d],h=>obtain ⟨rows,rfl,hr⟩:=wy h.1;exact ⟨rows,rfl,hr,by rwa [NM] at hr⟩
def avv(l l':List ByteArray):aH Tryz.prog 12 none [ax l,ax l'] (.bool (decide (l=l'))) []:=by
 refine cB anb aF4 ⟨lG l,lG l',trivial⟩ fun hfit=> ?_;have hl:l.length<=9223372036854775807:=qM hfit.1;unfold anb;apply aq<;>intro h
 ·simp [E.den,ba] at h;refine az ?_;have:l≠l':=fun e=>h (by rw [e]);simp [E.den,this]
 simp [E.den,ba] at h;have h:l.length=l'.length:=by omega
 refine eZ l.length (fun k=>[.int .i64 k]) (fun k=> ∀i,i<k->nth l i=nth l' i) rfl (by omega) ?_;intro k hk hI _;simp only [cA];apply aq<;>intro h2
 ·simp [E.den,ba] at h2;refine aX (fun hg=> ?_) (aX (fun hg=> ?_) ?_)
  ·simp [E.den];omega
  ·simp [E.den];omega
  apply aq<;>intro h3<;>simp only [E.den,kU,vN,pU,qD,iF,BR,xe,agq,axr,uw,CZ,afL,gW,eB,jv,Ym] at h3
  ·simp at h3;exact az (by have:l≠l':=fun e=>h3 (by rw [e]);simp [E.den,this])
  simp at h3;refine dK h2 ?_ fun i hi=> ?_
  ·simp [E.den];rw [bW]
  rcases dY i k with h'|h'
  ·exact hI i h'
  ·obtain rfl:i=k:=by omega
   exact h3
 ·simp [E.den,ba] at h2;obtain rfl:k=l.length:=by omega
  exact az (by simp [E.den,YX h hI])
def aDh{s:ByteArray}(hs:s.size<=1048576):(qZ s).call.method.size<=1048576/\(qZ s).call.text.size<=1048576:=by
 have hz:=E6 s;have hzz:=E6 (bV s);have hrc:=akG (bV (bV s));unfold qZ;split
 ·unfold iL;simp only;split
  ·exact ⟨by omega,by omega⟩
  ·exact ⟨by decide,by decide⟩
 ·exact ⟨by decide,by decide⟩
def aDk:qY aV=false:=by decide +kernel
def aDj(e:Event):qY (gM e)=gj e/\(gj e=true->qZ (gM e)=e):=by
 cases h:gj e with
 | true=>exact ⟨(akJ h).1,fun _=>(akJ h).2⟩
 | false =>
  refine ⟨?_,fun h=>by simp at h⟩;have:gM e=aV:=by rw [gM,ak (by simp [h])]
  rw [this];exact aDk
def awI{rows:List (List D)}(hr:cN aI.tab [.int .u8] rows): ∃r,ze r/\eA Tryz.prog 7 none [.sl rows] r [] [(6,1)]:=by
 have nt:gB.text.size<=100:=by decide
 have nm:gB.method.size<=100:=by decide
 have n0:([]:List ByteArray).length<=6:=fX _;refine asO aHO aDL rfl aF9 ⟨by show cN _ (aI.tab _) _;rw [NM];exact hr,trivial⟩ (enc (⟨0,aV,gB,[]⟩:Event)) ⟨_,rfl,nt,nm,n0⟩ fun hfit=> ?_;unfold anf;refine af2 rfl hr fun sd=> ?_;have hi:(0:Int)<=0:=PL _
 (refine vY (awW) (fun _ h=>ze.ty h) ?_;rintro _ rows i sd ⟨e,rfl,he⟩ hr hi)
 exact ⟨⟨e,rfl,he⟩,rfl⟩
def awJ{rows:List (List D)}(hr:cN aI.tab [.int .u8] rows): ∃r,wI 2000 r/\aH Tryz.prog 13 none [.sl rows] r []:=by
 refine asR aHP rfl aGb ⟨by show cN _ (aI.tab _) _;rw [NM];exact hr,trivial⟩ (.str aV) ⟨_,rfl,fX _⟩ fun hfit=> ?_;unfold ang;refine af2 rfl hr fun sd=> ?_;have hi:(0:Int)<=0:=PL _
 (refine bJ (af0) (fun _ h=>FO.ty h) ?_;rintro _ rows i sd ⟨g,rfl,hG⟩ hr hi)
 (refine vY (Yt g hG) (fun _ h=>ze.ty h) ?_;rintro _ rows i sd ⟨e,rfl,Ay,he2,Fu⟩ hr hi)
 refine aF (avz e (by omega) (by omega)) ?_;have hs:=agA he2 Ay
 (refine bJ (kq _) (fun _ h=>iN.ty h) ?_;rintro _ rows i sd ⟨y,rfl,hy⟩ hr hi)
 apply aq<;>intro h
 ·(apply nY;(focus (simp only [gS];try exact rfl));(focus (simp only [gS];try exact rfl));(focus (exact ⟨_,_,_,rfl,by assumption,by assumption⟩));(focus (first|exact yM 60 _ (by decide) (by decide)|exact Dr.fD (yM 60 _ (by decide) (by decide))));(focus (exact fun _ h=>wI.ty h));rintro _ rows i sd ⟨t,rfl,ht⟩ hr hi;(simp only [cA]))
  refine aX (fun _=> ?_) ?_
  ·simp [E.den,maxLen];omega
  exact ⟨⟨_,rfl,by simp only [E.den,kU,vN,iH,iw,pU,qD,xe,gx];omega⟩,rfl⟩
 apply aq<;>intro h
 ·(apply nY;(focus (simp only [gS];try exact rfl));(focus (simp only [gS];try exact rfl));(focus (exact ⟨_,_,_,rfl,by assumption,by assumption⟩));(focus (first|exact yM 60 _ (by decide) (by decide)|exact Dr.fD (yM 60 _ (by decide) (by decide))));(focus (exact fun _ h=>wI.ty h));rintro _ rows i sd ⟨t,rfl,ht⟩ hr hi;(simp only [cA]))
  exact ⟨⟨t,rfl,by omega⟩,rfl⟩
 ·exact ⟨⟨gM e,rfl,by omega⟩,rfl⟩
def main(ds:List D)(h:fM aI.tab amo ds):aH Tryz.prog 3 none ds (.bool true) []:=by
 obtain ⟨rows,rfl,hr0,hr⟩:=afO rfl h;refine cB ana amo ?_ (fun hfit=> ?_)
 ·exact h
 unfold ana;refine aF (avu rows hr0) ?_;refine aq (fun _=>az rfl) (fun _=> ?_)
 (refine aw1 ?_ (awI hr) (fun _ h=>ze.ty h) ?_;(focus (simp only [gS];try exact rfl));rintro _ ⟨e,rfl,Ay,he2,Fu⟩;(simp only [cA]))
 refine aF (K8 e (by omega) (by omega)) ?_;have hs:=agA he2 Ay;obtain ⟨q1,q2⟩:=aDj e;obtain ⟨y,hy,hP⟩: ∃y:Event,(gj e=true->y=e)/\eA Tryz.prog 8 none [.str (gM e)] (.aL [enc y,.bool (gj e)]) [] [(6,1)]:=by refine ⟨qZ (gM e),q2,?_⟩;rw [<-q1];exact afh (gM e) (by omega)
 refine fQ (hP) (hty:=⟨zA _,trivial,trivial⟩) ?_;refine aF (Ic e) ?_;refine aF (Ya e) ?_;apply aq<;>intro h1
 ·simp only [eS] at h1;simp at h1
 refine aF (Ic e) ?_;refine aF (avv y.recipe e.recipe) ?_;apply aq<;>intro h2
 ·exfalso;simp only [eS,fP] at h2;cases hb:gj e with
  | false=>rw [hb] at h2;simp at h2
  | true => obtain rfl:=hy hb;rw [hb] at h2;simp [lZ,IC,fP,bL] at h2
 (refine aw0 ?_ (awJ hr) (fun _ h=>wI.ty h) ?_;(focus (simp only [gS];try exact rfl));rintro _ ⟨s,rfl,hs2⟩;(simp only [cA]))
 refine fQ (afh s (by omega)) (hty:=⟨zA _,trivial,trivial⟩) ?_;have hv:=aDh (s:=s) (by omega);refine aF (K8 (qZ s) hv.1 hv.2) ?_;refine az ?_;simp only [eS];cases hb:qY s with
 | false=>simp
 | true => obtain ⟨z1,z2⟩:=aDi hb;simp [z2]
set_option maxRecDepth 100000
def aAP:(Rows.fnEventTextRow.wf (OpenSpec.ofChange Rows.fnEventTextSpec))=true:=by kernel_rfl
def aAG:(Tryz.f3.params.all (Tryz.prog.readableRec ·))=true:=by kernel_rfl
def aAJ:(namedTie Tryz.prog Rows.fnEventTextRow.named Rows.fnEventTextSpec.vars)=true:=by kernel_rfl
def aAA:((Rows.fnEventTextRow.inPlace==Tryz.prog.inPlace 3))=true:=by kernel_rfl
def aAK:((Rows.fnEventTextRow.unfollowed==Tryz.prog.unfollowed 3))=true:=by kernel_rfl
def aAH:((Rows.fnEventTextRow.recurses==Tryz.prog.recurses 3))=true:=by kernel_rfl
def aAM:((Rows.fnEventTextRow.named==Tryz.prog.varsNamed 3))=true:=by kernel_rfl
def aAE:((Rows.fnEventTextRow.maps==(Tryz.f3.params.toList++Rows.fnEventTextSpec.plain.varTypes Tryz.prog).any (Tryz.prog.mapsRec ·)))=true:=by kernel_rfl
def aAz:((Rows.fnEventTextRow.ifaces==(Tryz.f3.params.toList++Rows.fnEventTextSpec.plain.varTypes Tryz.prog).any (Tryz.prog.ifacesRec ·)))=true:=by kernel_rfl
def aAF:((Rows.fnEventTextRow.mapsOut==Tryz.prog.mapsAmong Tryz.f3.resultTypes.toList))=true:=by kernel_rfl
def aAD:((Rows.fnEventTextRow.loops==(Tryz.f3.params.toList++Rows.fnEventTextSpec.plain.varTypes Tryz.prog).any (Tryz.prog.loopsFrom ·)))=true:=by kernel_rfl
def aAQ:((Rows.fnEventTextRow.wideKeys==(Tryz.f3.params.toList++Rows.fnEventTextSpec.plain.varTypes Tryz.prog++Tryz.f3.resultTypes.toList).any (Tryz.prog.wideKeysFrom ·)))=true:=by kernel_rfl
def aAL:(Rows.fnEventTextSpec.vars.all (Tryz.prog.varReadable ·))=true:=by kernel_rfl
def aAI:(Tryz.f3.resultTypes.all (fun t=>Tryz.prog.readableRec t&&decide (t<Tryz.prog.types.size)))=true:=by kernel_rfl
def aAy:((Rows.fnEventTextRow.ifacesOut==Tryz.f3.resultTypes.toList.any (Tryz.prog.ifacesRec ·)))=true:=by kernel_rfl
def aAC:((Rows.fnEventTextRow.loopsOut==Tryz.f3.resultTypes.toList.any (Tryz.prog.loopsFrom ·)))=true:=by kernel_rfl
def aAB:((Rows.fnEventTextRow.kinds==(if Rows.fnEventTextRow.domain.isEmpty then [] else Tryz.f3.params.toList.map fun t=>match Tryz.prog.underlying t with|some (.int k)=>some k|_=>none)))=true:=by kernel_rfl
def aAN:((Rows.fnEventTextRow.veiled==(Tryz.f3.params.toList++Rows.fnEventTextSpec.plain.varTypes Tryz.prog++Tryz.f3.resultTypes.toList).any (Tryz.prog.veiledRec ·)))=true:=by kernel_rfl
def aAO:(Rows.fnEventTextRow.veiledFits Tryz.prog Tryz.f3.params.toList (Tryz.f3.params.toList++Rows.fnEventTextSpec.plain.varTypes Tryz.prog++Tryz.f3.resultTypes.toList))=true:=by kernel_rfl
def closed:joinedFacts Tryz.prog 3 Tryz.f3 Rows.fnEventTextSpec Rows.fnEventTextRow=true :=
 (je (je (je (je (je (je (je (je (je (je (je (je (je (je (je (je (je (je (je (je (je (je (je (je (je (je (je (je (je (je (je aAP aau) aAw) aAG) aAJ) rfl) aAx) rfl) aAs) aAA) aAK) aAH) aAM) aAE) aAz) aAF) aAD) aAQ) aAL) aAI) aAy) aAC) aAr) rfl) aAq) aAp) aAt) aAu) aAB) rfl) aAN) aAO)
noncomputable def low:Nat:=(World.holding Tryz.prog default ⟨#[],#[],[]⟩).heap.size
noncomputable def ajb(os:Os):World :=
 let w0:=World.holding Tryz.prog os ⟨#[.cells #[.string ⟨#[118,97,108,117,101,32,111,117,116,32,111,102,32,114,97,110,103,101]⟩] 249,.cells #[.string ⟨#[105,110,118,97,108,105,100,32,115,121,110,116,97,120]⟩] 249],#[],[]⟩
 {w0 with heap:=w0.heap
  |>.modify 7 (fun| .cells _ t f=> .cells ⟨[0,1,28,2,29,14,24,3,30,22,20,15,25,17,4,8,31,27,13,23,21,19,16,7,26,12,18,6,11,5,10,9].map (.int .u8)⟩ t f|o=>o)
  |>.modify 8 (fun| .cells _ t f=> .cells ⟨[0,1,56,2,57,49,28,3,61,58,42,50,38,29,17,4,62,47,59,36,45,43,51,22,53,39,33,30,24,18,12,5,63,55,48,27,60,41,37,16,46,35,44,21,52,32,23,11,54,26,40,15,34,20,31,10,25,14,19,9,13,8,7,6].map (.int .u8)⟩ t f|o=>o)
  |>.modify 6 (fun| .cells _ t f=> .cells ⟨[1,10,100,1000,10000,100000,1000000,10000000,100000000,1000000000,10000000000,100000000000,1000000000000,10000000000000,100000000000000,1000000000000000,10000000000000000,100000000000000000,1000000000000000000,10000000000000000000].map (.int .u64)⟩ t f|o=>o)
  |>.modify 5 (fun| .cells _ t f=> .cells ⟨([128,191,160,191,128,159,144,191,128,143]++ .replicate 22 0:List Int).map (.int .u8)⟩ t f|o=>o)
  |>.modify 3 (fun| .cells _ t f=> .cells #[.iface 247 (.pointer (some ⟨low+0,0,none⟩))] t f|o=>o)
  |>.modify 2 (fun| .cells _ t f=> .cells #[.iface 247 (.pointer (some ⟨low+1,0,none⟩))] t f|o=>o)
  |>.modify 0 (fun| .cells _ t f=> .cells #[.string ⟨#[]⟩,.string ⟨#[115,116,97,114,116]⟩,.string ⟨#[115,116,111,112]⟩,.string ⟨#[99,97,108,108]⟩,.string ⟨#[104,101,97,108]⟩,.string ⟨#[115,119,97,112]⟩] t f|o=>o)
  |>.modify 4 (fun| .cells _ t f=> .cells ⟨(.replicate 128 240++ .replicate 66 241++ .replicate 30 2++[19]++ .replicate 12 3++[35,3,3,52,4,4,4,68]++ .replicate 11 241:List Int).map (.int .u8)⟩ t f|o=>o)}
set_option maxRecDepth 100000 in
def aA2(os:Os)(args:Array Value):laidMet Tryz.prog Rows.fnEventTextRow.laid ((ajb os).forCall (fun _ _=>0) ⟨#[],args,[]⟩).memory :=
 laidMet_of_run' 8 (by kernel_rfl) (by kernel_rfl)
set_option maxRecDepth 100000 in
def lifted(os:Os)(started:os.Started)(H:Type)(enc:TypeId×Value->H) :
  ReturnsInHanded {} Tryz.checked os 3 .any (fun w args=>(Rows.fnEventTextSpec.pre enc Tryz.prog Tryz.f3 Rows.fnEventTextRow.domain false w args/\laidMet Tryz.prog Rows.fnEventTextRow.laid w)/\sizedMet enc Tryz.prog Tryz.f3 (OpenSpec.ofChange Rows.fnEventTextSpec) false w args)
   (Rows.fnEventTextSpec.post enc Tryz.prog Tryz.f3 false true false false):=by
 refine ayg (C:=Tryz.checked) (X:=fun w _=>laidMet Tryz.prog Rows.fnEventTextRow.laid w) (fun _ _ _ hh h=>h.of_heap hh) aAv started (by kernel_rfl) Tryz.func3
  (ChangeSpec.witness_at (enc:=enc) (C:=Tryz.checked) (os:=os) (X:=fun w _=>laidMet Tryz.prog Rows.fnEventTextRow.laid w) false (ajb os) #[.slice none 0 0] 8 rfl (by kernel_rfl) (by kernel_rfl) (by kernel_rfl) (by kernel_rfl) (by kernel_rfl) (aA2 os _)) ?_
 intro W base args ds gs before aiE hW _ aaf hsh hL _;have hval: ∀(j:Nat) t v,Tryz.f3.params[j]? =some t->args[j]? =some v->Value.okWide Tryz.prog W .any base t v:=aiE;have hW':=hW;obtain ⟨p,q,hA0,hV,rfl,hfz,hnd⟩:=hW;have hA:DataW.TrodAll enc Tryz.prog W 0 (fun _=>true) true Tryz.f3.params.toList args.toList ds p:=hA0;rw [Tryz.params3] at hA hval;obtain ⟨v0,vs0,d0,ds0,p0,q0,hargs,rfl,rfl,h0,r0⟩:=trodAll_cons hA;obtain ⟨rfl,rfl,rfl⟩:=trodAll_nil r0;obtain rfl:args= #[v0]:=by cases args;simp_all
 have k0:=h0;have lt0: ∀x∈p0,x.block<W.heap.size:=by obtain ⟨m,hm⟩:=k0;exact DataW.trod_lt m _ _ _ hm
 obtain ⟨x0,y0,z0⟩:=aCM Gp (by kernel_rfl) (hval 0 22 v0 rfl rfl) h0;clear hA0 aiE;refine ((law_run (main [x0] ⟨y0,trivial⟩) ⟨fun p hp=>hp.elim,start hsh hL⟩ (show Rs W M0 [x0] [v0] from ⟨_,_,rfl,z0,rfl⟩))).mono fun e W' ⟨he,fF⟩=> ?_;subst he;obtain ⟨dv,rfl,pv,vv⟩:=aHL aau (g:=0) (t:=66) (by kernel_rfl) (by kernel_rfl) (by kernel_rfl) (KT (by kernel_rfl)) hV fF;exact ⟨_,rfl,_,_,_,[],_,pv,hW',trodAll_mk1 (shut_bool Cl _),(trodAll_cons_mk (Below.trod aau (by kernel_rfl) (KT (by kernel_rfl)) k0 fF lt0) trodAll_mk0),vv,fF.frame _,fun h=>by cases h⟩
def over:Rows.fnEventTextRow.holds Tryz.pinned (OpenSpec.ofChange Rows.fnEventTextSpec) :=
 OpenClaim.holds_of_wide 3 Tryz.f3 rfl rfl rfl rfl rfl rfl rfl ⟨rfl,rfl,rfl,rfl,rfl⟩ rfl rfl rfl rfl rfl (by kernel_rfl) Tryz.func3 closed
  (KT (by kernel_rfl)) (by unfold Func.isWrapper;first|(rw [aA (by decide +kernel)];kernel_rfl)|(rw [ak (by decide +kernel)];exact ⟨rfl,rfl⟩))
  (fun os started H enc _=>lifted os started H enc)
def aDF:Rows.fnEventTextRow.laidByTextAt .later Tryz.pinned [.data,.data,.data,.data,.sentinel,.sentinel,.data,.pinned] true:=fnEventText_row_tie
def proved:Rows.FnEventTextCardSaid :=
 Claim7.holds_tied_plain_at .later [] [.data,.data,.data,.data,.sentinel,.sentinel,.data,.pinned] true Rows.fnEventTextCard.stood.harness true
  over (fun _ h=>by cases h) (by kernel_rfl) (fun _ h=>by cases h) aDF rfl ⟨rfl,rfl⟩ (by kernel_rfl) rfl
  (fun f fn hf hfn=>by obtain rfl:f=3:=gh ((show Tryz.prog.funcNamed Rows.fnEventTextRow.func=some 3 by kernel_rfl).symm.trans hf) |>.symm;obtain rfl:fn=Tryz.f3:=(gh (Tryz.func3.symm.trans hfn)).symm;exact ⟨by kernel_rfl,aET (by kernel_rfl)⟩)
  (by kernel_rfl)
#print axioms proved
end Go.Proofs.YtekplmpbkgchfaaGreatDoor.lawFnEventText
