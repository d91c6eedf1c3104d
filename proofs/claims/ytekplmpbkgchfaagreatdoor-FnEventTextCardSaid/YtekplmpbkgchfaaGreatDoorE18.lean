/- A region of the reference's l4Own (Hear), in whatever order its operations come. -/
import Derived.Test.YtekplmpbkgchfaaGreatDoorE17
set_option linter.all false
set_option maxRecDepth 100000
namespace Go.Proofs.YtekplmpbkgchfaaGreatDoor
section
open Go.RowKit Go
variable [GC]
abbrev ai:Value:= .slice none 0 0
abbrev PH(b:Nat):Value:= .pointer (some ⟨b,0,none⟩)
def lh(l:List Nat):Array Bool:=((List.range 17).map fun i=>l.any (Nat.beq i)).toArray
def TU{n:Nat}{P:Program}{E:List (Nat×Value)}{o:Oper}{w:World}{T e:TypeId}{i:TypeInfo}{x y:Operand}{s t z:ByteArray}(ho:o.op= .buildSlice T 2 #[(0,x),(1,y)])(hx:ev E x=some (.string s))(hy:ev E y=some (.string t))(hT:P.underlying T=some (.slice e))(hi:P.info? e=some i)(hsz:i.size=1)(hz:i.zero=some (.string z)) :
  fu n P E o w (.slice (some ⟨w.heap.size,0,none⟩) 2 2) (w.alloc (.cells #[.string s,.string t] e)):=fun a hE=>by
 have hr:Array.range 2= #[0,1]:=rfl;simp [execOp,ho,hE.ev hx,hE.ev hy,Instr.buildSlice,run_underlying hT,run_sizeOf hi,hsz,zeroValue,run_typeInfo hi,hz,Value.cells,Instr.fill,newRow,hr]
structure HS(K N:Nat->Prop)(w:World)(S2:Value)(N':Nat->Prop)(W:World)(S1:Value)(q:Part):Prop where
 h:PV K N' W S1 S2 q
 hf:dF K w W
 hn: ∀i,N i->N' i
structure BX(K N':Nat->Prop)(W:World)(p:Part)(x:Call)(S1 S2:Value)(lo g3 g5 g6 g7 g15:Nat):Prop where
 m3:MB K N' W g3 58 (bX p S1 S2)
 m5:MB K N' W g5 25 #[.string x.method,.string x.key,.int .i64 x.val,.string x.text]
 m6:MB K N' W g6 58 ep
 m7:MB K N' W g7 111 bP
 m15:MB K N' W g15 58 (bX p S1 S2)
 lt:g3<lo/\g5<lo/\g6<lo/\g7<lo/\g15<lo
section
variable {K N N' dX:Nat->Prop}{w W W':World}{p q:Part}{x:Call}{S1 S2 U:Value}{lo g3 g5 g6 g7 g15:Nat}
def BX.map(h:BX K N' W p x S1 S2 lo g3 g5 g6 g7 g15)(f: ∀b T cs,b<lo->MB K N' W b T cs->MB K dX W' b T cs):BX K dX W' p x S1 S2 lo g3 g5 g6 g7 g15 :=
 ⟨f _ _ _ h.lt.1 h.m3,f _ _ _ h.lt.2.1 h.m5,f _ _ _ h.lt.2.2.1 h.m6,f _ _ _ h.lt.2.2.2.1 h.m7,f _ _ _ h.lt.2.2.2.2 h.m15,h.lt⟩
def HS.below(h:HS K N w S2 N' W U q)(hb:Below W.heap.size W W'):HS K N w S2 N' W' U q:=⟨h.h.below hb,h.hf.fj hb,h.hn⟩
def HS.one{b:Nat}(h:HS K N w S2 N' W U q){T:TypeId}{cs:Array Value}(hm:MB K N' W b T cs)(ho:bN W W' b)(hw:w.heap.size<=b):HS K N w S2 N' W' U q:=⟨h.h.one ho hm.n hm.k hm.g,h.hf.one ho (.inr hw),h.hn⟩
end
noncomputable def bO:Array Oper:=NA Tryz.f221 22
noncomputable def Rf:Go.Call:=match (opAt bO 9).op with
 | .call c=>c
 | _=>{callee:= .value (.const (.bool true)),args:= #[],argTypes:= #[]}
def sH(q:Part)(x:Call)(S1 S2:Value)(g5 g15:Nat):World->Prop:=fun W=>aC W g15 58 (bX q S1 S2)/\aC W g5 25 #[.string x.method,.string x.key,.int .i64 x.val,.string x.text]
def BX.s{K N':Nat->Prop}{W:World}{p:Part}{x:Call}{S1 S2:Value}{lo g3 g5 g6 g7 g15:Nat}(h:BX K N' W p x S1 S2 lo g3 g5 g6 g7 g15):sH p x S1 S2 g5 g15 W:=⟨h.m15.bl,h.m5.bl⟩
def RC:xz ay 26=some 1:=by kernel_rfl
def Tm: ∃i,ay.info? 9=some i/\i.size=1/\i.zero=some (.string ⟨#[]⟩):=⟨_,rfl,rfl,rfl⟩
set_option maxHeartbeats 8000000 in
def aDt{k:Nat}(IH:GZ k){K N:Nat->Prop}{w:World}{q:Part}{x:Call}{S1 S2:Value}{m:ByteArray}{j lo g3 g5 g6 g7 g15:Nat}{Q:Exit->Act->World->Prop}(hQ: ∀c a t v w,Q (.panic c) (Act.put a t v) w->Q (.panic c) a w)
  (hj:(#[Value.string cM,.string mStart])[j]? =some (.string m)) (hj2:j<2) (tH:x.val=(j:Int)) (Sy:GX (cw m)) (I0:bZ (cw m)=true) (hq:di q=true) (hk:k<=q.aw.length) (hmo:cG (fS q k) (cm (cw m).method)=true) (hlw:w.heap.size<=lo)
  (fin: ∀(N':Nat->Prop) (W:World) (U:Value) (b16 b17:Nat),HS K N w S2 N' W U (aW k q (cw m)).1->BX K N' W q x S1 S2 lo g3 g5 g6 g7 g15->MB K N' W b16 58 (bX (aW k q (cw m)).1 U S2)->MB K N' W b17 111 (eC (aW k q (cw m)).2)->lo<=b16->lo<=b17->b16≠b17->lo<=W.heap.size ->
   NX 235 (Q .normal) [(6,PH g6),(7,PH g7),(16,PH b16),(17,PH b17)] W)
  (N':Nat->Prop) (W:World) (H:HS K N w S2 N' W S1 q) (X:BX K N' W q x S1 S2 lo g3 g5 g6 g7 g15) (hlo:lo<=W.heap.size) :
  AU 235 ay bO Q (sH q x S1 S2 g5 g15) 16 17 (Array.replicate 17 false) [(1,.int .i64 ((k+1:Nat):Int)),(5,PH g5),(6,PH g6),(7,PH g7),(15,PH g15)] W:=by
 have hw:dJ .sub .i64 ((k+1:Nat):Int) 1=(k:Int):=by have:=(oF.1 hq).2.1;rw [oV];omega
 have abD: ∀(N':Nat->Prop) (W:World) (U:Value) (b16:Nat) (b17:Nat),HS K N w S2 N' W U (aW k q (cw m)).1->BX K N' W q x S1 S2 lo g3 g5 g6 g7 g15->lo<=W.heap.size->MB K N' W b16 58 ep/\lo<=b16->MB K N' W b17 111 bP/\lo<=b17->b16≠b17->AU 235 ay bO Q (sH q x S1 S2 g5 g15) 16 2 (lh [0,1,2,3,4,5,6,7,8,9,10,11,12,13,14]) [(6,PH g6),(7,PH g7),(177,.agg (bX (aW k q (cw m)).1 U S2)),(178,.agg (eC (aW k q (cw m)).2)),(16,PH b16),(17,PH b17)] W:=by intro N' W U b16 b17 H X hlo ik iM hne;obtain ⟨l3,l5,l6,l7,l15⟩:=X.lt;refine iE (o:=opAt bO 15) 15 (by kernel_rfl) (hg:=(by kernel_rfl)) (hd:=(by kernel_rfl)) (T:=58) (x:= .tmp 16) (y:= .tmp 177) (C:=ep) (hop:=(by kernel_rfl)) rfl ik.1.bl H.h.jA cg (fun w' ho _=>⟨(ho.block _ (by omega)).trans X.m15.bl,(ho.block _ (by omega)).trans X.m5.bl⟩) fun W1 R1 O1=> ?_;have H1:=H.one ik.1 O1 (by omega);have X1:=X.map fun b T cs hb hm=>hm.other O1 (by omega);have Zf:=iM.1.other O1 (by omega);have ax0:=ik.1.put R1;refine iE (o:=opAt bO 16) 16 (by kernel_rfl) (hg:=(by kernel_rfl)) (hd:=(by kernel_rfl)) (T:=111) (x:= .tmp 17) (y:= .tmp 178) (C:=bP) (hop:=(by kernel_rfl)) rfl Zf.bl (jL _) cu (fun _ _ h=>absurd rfl h) fun W2 R2 O2=> ?_;have H2:=H1.one Zf O2 (by omega);have X2:=X1.map fun b T cs hb hm=>hm.other O2 (by omega);have ax1:=ax0.other O2 (by omega);have ax2:=Zf.put R2;refine jd (by kernel_rfl) ?_;exact fun ac hE=>fin _ _ _ _ _ H2 X2 ax1 ax2 ik.2 iM.2 hne (by have:=O1.size;have:=O2.size;omega) ac (hE.sub ⟨rfl,rfl,rfl,rfl,trivial⟩)
 have alv: ∀(N':Nat->Prop) (W:World) (U:Value) (b16:Nat),HS K N w S2 N' W U (aW k q (cw m)).1->BX K N' W q x S1 S2 lo g3 g5 g6 g7 g15->lo<=W.heap.size->MB K N' W b16 58 ep/\lo<=b16->AU 235 ay bO Q (sH q x S1 S2 g5 g15) 16 3 (lh [0,1,2,3,4,5,6,7,8,9,10,11,12,13]) [(6,PH g6),(7,PH g7),(177,.agg (bX (aW k q (cw m)).1 U S2)),(178,.agg (eC (aW k q (cw m)).2)),(16,PH b16)] W:=by
  intro N' W U b16 H X hlo ik;refine tV (show Region.ready .any bO (lh [0,1,2,3,4,5,6,7,8,9,10,11,12,13])=[14] by kernel_rfl) ?_
  ·obtain ⟨W',dX,eW,hb,hN,H',M,hsz⟩:=H.h.alloc 111 bP;have X':BX K dX W' q x S1 S2 lo g3 g5 g6 g7 g15:=X.map fun b T cs _ hm=>(hm.below hb).more hN;have HH:HS K N w S2 dX W' _ _:=⟨H',H.hf.fj hb,fun i hi=>hN i (H.hn i hi)⟩;refine gu (o:=opAt bO 14) (d:=17) (w':=W') (by rw [eW];exact cY (z:= .agg bP) (by kernel_rfl) jI) X'.s ?_;exact dM (abD _ _ _ _ _ HH  X'  (by omega)  ⟨(ik.1.below hb).more hN,ik.2⟩  ⟨M,hlo⟩  (by have:=ik.1.lt;omega))
 have alu: ∀(N':Nat->Prop) (W:World) (U:Value) (b17:Nat),HS K N w S2 N' W U (aW k q (cw m)).1->BX K N' W q x S1 S2 lo g3 g5 g6 g7 g15->lo<=W.heap.size->MB K N' W b17 111 bP/\lo<=b17->AU 235 ay bO Q (sH q x S1 S2 g5 g15) 16 3 (lh [0,1,2,3,4,5,6,7,8,9,10,11,12,14]) [(6,PH g6),(7,PH g7),(177,.agg (bX (aW k q (cw m)).1 U S2)),(178,.agg (eC (aW k q (cw m)).2)),(17,PH b17)] W:=by
  intro N' W U b17 H X hlo iM;refine tV (show Region.ready .any bO (lh [0,1,2,3,4,5,6,7,8,9,10,11,12,14])=[13] by kernel_rfl) ?_
  ·obtain ⟨W',dX,eW,hb,hN,H',M,hsz⟩:=H.h.alloc 58 ep;have X':BX K dX W' q x S1 S2 lo g3 g5 g6 g7 g15:=X.map fun b T cs _ hm=>(hm.below hb).more hN;have HH:HS K N w S2 dX W' _ _:=⟨H',H.hf.fj hb,fun i hi=>hN i (H.hn i hi)⟩;refine gu (o:=opAt bO 13) (d:=16) (w':=W') (by rw [eW];exact cY (z:= .agg ep) (by kernel_rfl) mP) X'.s ?_;exact dM (abD _ _ _ _ _ HH  X'  (by omega)  ⟨M,hlo⟩  ⟨(iM.1.below hb).more hN,iM.2⟩  (by have:=iM.1.lt;omega))
 have aD2: ∀(N':Nat->Prop) (W:World) (U:Value),HS K N w S2 N' W U (aW k q (cw m)).1->BX K N' W q x S1 S2 lo g3 g5 g6 g7 g15->lo<=W.heap.size->AU 235 ay bO Q (sH q x S1 S2 g5 g15) 16 4 (lh [0,1,2,3,4,5,6,7,8,9,10,11,12]) [(6,PH g6),(7,PH g7),(177,.agg (bX (aW k q (cw m)).1 U S2)),(178,.agg (eC (aW k q (cw m)).2))] W:=by
  intro N' W U H X hlo;refine sL (show Region.ready .any bO (lh [0,1,2,3,4,5,6,7,8,9,10,11,12])=[13,14] by kernel_rfl) ?_ ?_
  ·obtain ⟨W',dX,eW,hb,hN,H',M,hsz⟩:=H.h.alloc 58 ep;have X':BX K dX W' q x S1 S2 lo g3 g5 g6 g7 g15:=X.map fun b T cs _ hm=>(hm.below hb).more hN;have HH:HS K N w S2 dX W' _ _:=⟨H',H.hf.fj hb,fun i hi=>hN i (H.hn i hi)⟩;refine gu (o:=opAt bO 13) (d:=16) (w':=W') (by rw [eW];exact cY (z:= .agg ep) (by kernel_rfl) mP) X'.s ?_;exact dM (alv _ _ _ _ HH  X'  (by omega)  ⟨M,hlo⟩)
  ·obtain ⟨W',dX,eW,hb,hN,H',M,hsz⟩:=H.h.alloc 111 bP;have X':BX K dX W' q x S1 S2 lo g3 g5 g6 g7 g15:=X.map fun b T cs _ hm=>(hm.below hb).more hN;have HH:HS K N w S2 dX W' _ _:=⟨H',H.hf.fj hb,fun i hi=>hN i (H.hn i hi)⟩;refine gu (o:=opAt bO 14) (d:=17) (w':=W') (by rw [eW];exact cY (z:= .agg bP) (by kernel_rfl) jI) X'.s ?_;exact dM (alu _ _ _ _ HH  X'  (by omega)  ⟨M,hlo⟩)
 have abC: ∀(N':Nat->Prop) (W:World) (b16:Nat) (b17:Nat),HS K N w S2 N' W S1 q->BX K N' W q x S1 S2 lo g3 g5 g6 g7 g15->lo<=W.heap.size->MB K N' W b16 58 ep/\lo<=b16->MB K N' W b17 111 bP/\lo<=b17->b16≠b17->AU 235 ay bO Q (sH q x S1 S2 g5 g15) 16 6 (lh [0,1,2,3,4,5,6,7,8,13,14]) [(6,PH g6),(7,PH g7),(167,.agg (bX q S1 S2)),(169,.int .i64 ((k:Nat):Int)),(175,.agg #[.string m,.string aV,.int .i64 0,.string aV]),(16,PH b16),(17,PH b17)] W:=by
  intro N' W b16 b17 H X hlo ik iM hne;refine tV (show Region.ready .any bO (lh [0,1,2,3,4,5,6,7,8,13,14])=[9] by kernel_rfl) ?_
  ·refine sM (o:=opAt bO 9) (d:=176) (pI (cl:=Rf) (args:= #[.agg (bX q S1 S2),.int .i64 ((k:Nat):Int),.agg #[.string m,.string aV,.int .i64 0,.string aV]]) (by kernel_rfl) (by kernel_rfl) (by kernel_rfl) rfl) (IH K N' W S1 S2 q (cw m) H.h Sy hq I0 hk hmo) ?_;rintro _ W' ⟨U,rfl,H',hf⟩;have X:=X.map fun b T cs _ hm=>hm.kr hf;have hsz:=hf.size;refine ⟨_,rfl,X.s,?_⟩;refine eu (o:=opAt bO 10) (d:=166) 10 hQ (fun W hW=>aN (x:= .tmp 176) (ho:=(by kernel_rfl))) X.s ?_;refine eu (o:=opAt bO 11) (d:=177) 11 hQ (fun W hW=>dH (x:= .tmp 166) (i:=0) (ho:=(by kernel_rfl))) X.s ?_;refine eu (o:=opAt bO 12) (d:=178) 12 hQ (fun W hW=>dH (x:= .tmp 166) (i:=1) (ho:=(by kernel_rfl))) X.s ?_;exact dM (abD _ _ _ _ _ ⟨H',H.hf.Dv hf,H.hn⟩ X (by omega) ⟨ik.1.kr hf,ik.2⟩ ⟨iM.1.kr hf,iM.2⟩ hne)
 have alr: ∀(N':Nat->Prop) (W:World) (b16:Nat),HS K N w S2 N' W S1 q->BX K N' W q x S1 S2 lo g3 g5 g6 g7 g15->lo<=W.heap.size->MB K N' W b16 58 ep/\lo<=b16->AU 235 ay bO Q (sH q x S1 S2 g5 g15) 16 7 (lh [0,1,2,3,4,5,6,7,8,13]) [(6,PH g6),(7,PH g7),(167,.agg (bX q S1 S2)),(169,.int .i64 ((k:Nat):Int)),(175,.agg #[.string m,.string aV,.int .i64 0,.string aV]),(16,PH b16)] W:=by
  intro N' W b16 H X hlo ik;refine sL (show Region.ready .any bO (lh [0,1,2,3,4,5,6,7,8,13])=[9,14] by kernel_rfl) ?_ ?_
  ·refine sM (o:=opAt bO 9) (d:=176) (pI (cl:=Rf) (args:= #[.agg (bX q S1 S2),.int .i64 ((k:Nat):Int),.agg #[.string m,.string aV,.int .i64 0,.string aV]]) (by kernel_rfl) (by kernel_rfl) (by kernel_rfl) rfl) (IH K N' W S1 S2 q (cw m) H.h Sy hq I0 hk hmo) ?_;rintro _ W' ⟨U,rfl,H',hf⟩;have X:=X.map fun b T cs _ hm=>hm.kr hf;have hsz:=hf.size;refine ⟨_,rfl,X.s,?_⟩;refine eu (o:=opAt bO 10) (d:=166) 10 hQ (fun W hW=>aN (x:= .tmp 176) (ho:=(by kernel_rfl))) X.s ?_;refine eu (o:=opAt bO 11) (d:=177) 11 hQ (fun W hW=>dH (x:= .tmp 166) (i:=0) (ho:=(by kernel_rfl))) X.s ?_;refine eu (o:=opAt bO 12) (d:=178) 12 hQ (fun W hW=>dH (x:= .tmp 166) (i:=1) (ho:=(by kernel_rfl))) X.s ?_;exact dM (alv _ _ _ _ ⟨H',H.hf.Dv hf,H.hn⟩ X (by omega) ⟨ik.1.kr hf,ik.2⟩)
  ·obtain ⟨W',dX,eW,hb,hN,H',M,hsz⟩:=H.h.alloc 111 bP;have X':BX K dX W' q x S1 S2 lo g3 g5 g6 g7 g15:=X.map fun b T cs _ hm=>(hm.below hb).more hN;have HH:HS K N w S2 dX W' _ _:=⟨H',H.hf.fj hb,fun i hi=>hN i (H.hn i hi)⟩;refine gu (o:=opAt bO 14) (d:=17) (w':=W') (by rw [eW];exact cY (z:= .agg bP) (by kernel_rfl) jI) X'.s ?_;exact dM (abC _ _ _ _ HH  X'  (by omega)  ⟨(ik.1.below hb).more hN,ik.2⟩  ⟨M,hlo⟩  (by have:=ik.1.lt;omega))
 have alq: ∀(N':Nat->Prop) (W:World) (b17:Nat),HS K N w S2 N' W S1 q->BX K N' W q x S1 S2 lo g3 g5 g6 g7 g15->lo<=W.heap.size->MB K N' W b17 111 bP/\lo<=b17->AU 235 ay bO Q (sH q x S1 S2 g5 g15) 16 7 (lh [0,1,2,3,4,5,6,7,8,14]) [(6,PH g6),(7,PH g7),(167,.agg (bX q S1 S2)),(169,.int .i64 ((k:Nat):Int)),(175,.agg #[.string m,.string aV,.int .i64 0,.string aV]),(17,PH b17)] W:=by
  intro N' W b17 H X hlo iM;refine sL (show Region.ready .any bO (lh [0,1,2,3,4,5,6,7,8,14])=[9,13] by kernel_rfl) ?_ ?_
  ·refine sM (o:=opAt bO 9) (d:=176) (pI (cl:=Rf) (args:= #[.agg (bX q S1 S2),.int .i64 ((k:Nat):Int),.agg #[.string m,.string aV,.int .i64 0,.string aV]]) (by kernel_rfl) (by kernel_rfl) (by kernel_rfl) rfl) (IH K N' W S1 S2 q (cw m) H.h Sy hq I0 hk hmo) ?_;rintro _ W' ⟨U,rfl,H',hf⟩;have X:=X.map fun b T cs _ hm=>hm.kr hf;have hsz:=hf.size;refine ⟨_,rfl,X.s,?_⟩;refine eu (o:=opAt bO 10) (d:=166) 10 hQ (fun W hW=>aN (x:= .tmp 176) (ho:=(by kernel_rfl))) X.s ?_;refine eu (o:=opAt bO 11) (d:=177) 11 hQ (fun W hW=>dH (x:= .tmp 166) (i:=0) (ho:=(by kernel_rfl))) X.s ?_;refine eu (o:=opAt bO 12) (d:=178) 12 hQ (fun W hW=>dH (x:= .tmp 166) (i:=1) (ho:=(by kernel_rfl))) X.s ?_;exact dM (alu _ _ _ _ ⟨H',H.hf.Dv hf,H.hn⟩ X (by omega) ⟨iM.1.kr hf,iM.2⟩)
  ·obtain ⟨W',dX,eW,hb,hN,H',M,hsz⟩:=H.h.alloc 58 ep;have X':BX K dX W' q x S1 S2 lo g3 g5 g6 g7 g15:=X.map fun b T cs _ hm=>(hm.below hb).more hN;have HH:HS K N w S2 dX W' _ _:=⟨H',H.hf.fj hb,fun i hi=>hN i (H.hn i hi)⟩;refine gu (o:=opAt bO 13) (d:=16) (w':=W') (by rw [eW];exact cY (z:= .agg ep) (by kernel_rfl) mP) X'.s ?_;exact dM (abC _ _ _ _ HH  X'  (by omega)  ⟨M,hlo⟩  ⟨(iM.1.below hb).more hN,iM.2⟩  (by have:=iM.1.lt;omega))
 have aD0: ∀(N':Nat->Prop) (W:World),HS K N w S2 N' W S1 q->BX K N' W q x S1 S2 lo g3 g5 g6 g7 g15->lo<=W.heap.size->AU 235 ay bO Q (sH q x S1 S2 g5 g15) 16 8 (lh [0,1,2,3,4,5,6,7,8]) [(6,PH g6),(7,PH g7),(167,.agg (bX q S1 S2)),(169,.int .i64 ((k:Nat):Int)),(175,.agg #[.string m,.string aV,.int .i64 0,.string aV])] W:=by
  intro N' W H X hlo;refine Pu (show Region.ready .any bO (lh [0,1,2,3,4,5,6,7,8])=[9,13,14] by kernel_rfl) ?_ ?_ ?_
  ·refine sM (o:=opAt bO 9) (d:=176) (pI (cl:=Rf) (args:= #[.agg (bX q S1 S2),.int .i64 ((k:Nat):Int),.agg #[.string m,.string aV,.int .i64 0,.string aV]]) (by kernel_rfl) (by kernel_rfl) (by kernel_rfl) rfl) (IH K N' W S1 S2 q (cw m) H.h Sy hq I0 hk hmo) ?_;rintro _ W' ⟨U,rfl,H',hf⟩;have X:=X.map fun b T cs _ hm=>hm.kr hf;have hsz:=hf.size;refine ⟨_,rfl,X.s,?_⟩;refine eu (o:=opAt bO 10) (d:=166) 10 hQ (fun W hW=>aN (x:= .tmp 176) (ho:=(by kernel_rfl))) X.s ?_;refine eu (o:=opAt bO 11) (d:=177) 11 hQ (fun W hW=>dH (x:= .tmp 166) (i:=0) (ho:=(by kernel_rfl))) X.s ?_;refine eu (o:=opAt bO 12) (d:=178) 12 hQ (fun W hW=>dH (x:= .tmp 166) (i:=1) (ho:=(by kernel_rfl))) X.s ?_;exact dM (aD2 _ _ _ ⟨H',H.hf.Dv hf,H.hn⟩ X (by omega))
  ·obtain ⟨W',dX,eW,hb,hN,H',M,hsz⟩:=H.h.alloc 58 ep;have X':BX K dX W' q x S1 S2 lo g3 g5 g6 g7 g15:=X.map fun b T cs _ hm=>(hm.below hb).more hN;have HH:HS K N w S2 dX W' _ _:=⟨H',H.hf.fj hb,fun i hi=>hN i (H.hn i hi)⟩;refine gu (o:=opAt bO 13) (d:=16) (w':=W') (by rw [eW];exact cY (z:= .agg ep) (by kernel_rfl) mP) X'.s ?_;exact dM (alr _ _ _ HH  X'  (by omega)  ⟨M,hlo⟩)
  ·obtain ⟨W',dX,eW,hb,hN,H',M,hsz⟩:=H.h.alloc 111 bP;have X':BX K dX W' q x S1 S2 lo g3 g5 g6 g7 g15:=X.map fun b T cs _ hm=>(hm.below hb).more hN;have HH:HS K N w S2 dX W' _ _:=⟨H',H.hf.fj hb,fun i hi=>hN i (H.hn i hi)⟩;refine gu (o:=opAt bO 14) (d:=17) (w':=W') (by rw [eW];exact cY (z:= .agg bP) (by kernel_rfl) jI) X'.s ?_;exact dM (alq _ _ _ HH  X'  (by omega)  ⟨M,hlo⟩)
 have abB: ∀(N':Nat->Prop) (W:World) (b3:Nat) (b16:Nat) (b17:Nat),HS K N w S2 N' W S1 q->BX K N' W q x S1 S2 lo g3 g5 g6 g7 g15->lo<=W.heap.size->(W.cell? ⟨b3,j,none⟩=some (.string m)/\ ¬K b3)->MB K N' W b16 58 ep/\lo<=b16->MB K N' W b17 111 bP/\lo<=b17->b16≠b17->AU 235 ay bO Q (sH q x S1 S2 g5 g15) 16 8 (lh [0,1,2,3,4,5,6,13,14]) [(6,PH g6),(7,PH g7),(167,.agg (bX q S1 S2)),(169,.int .i64 ((k:Nat):Int)),(173,.pointer (some ⟨b3,j,none⟩)),(16,PH b16),(17,PH b17)] W:=by
  intro N' W b3 b16 b17 H X hlo h3 ik iM hne;refine tV (show Region.ready .any bO (lh [0,1,2,3,4,5,6,13,14])=[7] by kernel_rfl) ?_
  ·refine gu (o:=opAt bO 7) (d:=174) (bM (T:=9) (x:= .tmp 173) (ho:=(by kernel_rfl)) jq h3.1) X.s ?_;refine eu (o:=opAt bO 8) (d:=175) 8 hQ (fun W hW=>jK (T:=25) (parts:= #[(0,.tmp 174)]) (vs:=[(0,.string m)]) (ho:=(by kernel_rfl)) (EU _)) X.s ?_;exact dM (abC _ _ _ _ H X hlo ik iM hne)
 have alo: ∀(N':Nat->Prop) (W:World) (b3:Nat) (b16:Nat),HS K N w S2 N' W S1 q->BX K N' W q x S1 S2 lo g3 g5 g6 g7 g15->lo<=W.heap.size->(W.cell? ⟨b3,j,none⟩=some (.string m)/\ ¬K b3)->MB K N' W b16 58 ep/\lo<=b16->AU 235 ay bO Q (sH q x S1 S2 g5 g15) 16 9 (lh [0,1,2,3,4,5,6,13]) [(6,PH g6),(7,PH g7),(167,.agg (bX q S1 S2)),(169,.int .i64 ((k:Nat):Int)),(173,.pointer (some ⟨b3,j,none⟩)),(16,PH b16)] W:=by
  intro N' W b3 b16 H X hlo h3 ik;refine sL (show Region.ready .any bO (lh [0,1,2,3,4,5,6,13])=[7,14] by kernel_rfl) ?_ ?_
  ·refine gu (o:=opAt bO 7) (d:=174) (bM (T:=9) (x:= .tmp 173) (ho:=(by kernel_rfl)) jq h3.1) X.s ?_;refine eu (o:=opAt bO 8) (d:=175) 8 hQ (fun W hW=>jK (T:=25) (parts:= #[(0,.tmp 174)]) (vs:=[(0,.string m)]) (ho:=(by kernel_rfl)) (EU _)) X.s ?_;exact dM (alr _ _ _ H X hlo ik)
  ·obtain ⟨W',dX,eW,hb,hN,H',M,hsz⟩:=H.h.alloc 111 bP;have X':BX K dX W' q x S1 S2 lo g3 g5 g6 g7 g15:=X.map fun b T cs _ hm=>(hm.below hb).more hN;have HH:HS K N w S2 dX W' _ _:=⟨H',H.hf.fj hb,fun i hi=>hN i (H.hn i hi)⟩;refine gu (o:=opAt bO 14) (d:=17) (w':=W') (by rw [eW];exact cY (z:= .agg bP) (by kernel_rfl) jI) X'.s ?_;exact dM (abB _ _ _ _ _ HH  X'  (by omega)  ⟨yI hb h3.1,h3.2⟩  ⟨(ik.1.below hb).more hN,ik.2⟩  ⟨M,hlo⟩  (by have:=ik.1.lt;omega))
 have aln: ∀(N':Nat->Prop) (W:World) (b3:Nat) (b17:Nat),HS K N w S2 N' W S1 q->BX K N' W q x S1 S2 lo g3 g5 g6 g7 g15->lo<=W.heap.size->(W.cell? ⟨b3,j,none⟩=some (.string m)/\ ¬K b3)->MB K N' W b17 111 bP/\lo<=b17->AU 235 ay bO Q (sH q x S1 S2 g5 g15) 16 9 (lh [0,1,2,3,4,5,6,14]) [(6,PH g6),(7,PH g7),(167,.agg (bX q S1 S2)),(169,.int .i64 ((k:Nat):Int)),(173,.pointer (some ⟨b3,j,none⟩)),(17,PH b17)] W:=by
  intro N' W b3 b17 H X hlo h3 iM;refine sL (show Region.ready .any bO (lh [0,1,2,3,4,5,6,14])=[7,13] by kernel_rfl) ?_ ?_
  ·refine gu (o:=opAt bO 7) (d:=174) (bM (T:=9) (x:= .tmp 173) (ho:=(by kernel_rfl)) jq h3.1) X.s ?_;refine eu (o:=opAt bO 8) (d:=175) 8 hQ (fun W hW=>jK (T:=25) (parts:= #[(0,.tmp 174)]) (vs:=[(0,.string m)]) (ho:=(by kernel_rfl)) (EU _)) X.s ?_;exact dM (alq _ _ _ H X hlo iM)
  ·obtain ⟨W',dX,eW,hb,hN,H',M,hsz⟩:=H.h.alloc 58 ep;have X':BX K dX W' q x S1 S2 lo g3 g5 g6 g7 g15:=X.map fun b T cs _ hm=>(hm.below hb).more hN;have HH:HS K N w S2 dX W' _ _:=⟨H',H.hf.fj hb,fun i hi=>hN i (H.hn i hi)⟩;refine gu (o:=opAt bO 13) (d:=16) (w':=W') (by rw [eW];exact cY (z:= .agg ep) (by kernel_rfl) mP) X'.s ?_;exact dM (abB _ _ _ _ _ HH  X'  (by omega)  ⟨yI hb h3.1,h3.2⟩  ⟨M,hlo⟩  ⟨(iM.1.below hb).more hN,iM.2⟩  (by have:=iM.1.lt;omega))
 have aDY: ∀(N':Nat->Prop) (W:World) (b3:Nat),HS K N w S2 N' W S1 q->BX K N' W q x S1 S2 lo g3 g5 g6 g7 g15->lo<=W.heap.size->(W.cell? ⟨b3,j,none⟩=some (.string m)/\ ¬K b3)->AU 235 ay bO Q (sH q x S1 S2 g5 g15) 16 10 (lh [0,1,2,3,4,5,6]) [(6,PH g6),(7,PH g7),(167,.agg (bX q S1 S2)),(169,.int .i64 ((k:Nat):Int)),(173,.pointer (some ⟨b3,j,none⟩))] W:=by
  intro N' W b3 H X hlo h3;refine Pu (show Region.ready .any bO (lh [0,1,2,3,4,5,6])=[7,13,14] by kernel_rfl) ?_ ?_ ?_
  ·refine gu (o:=opAt bO 7) (d:=174) (bM (T:=9) (x:= .tmp 173) (ho:=(by kernel_rfl)) jq h3.1) X.s ?_;refine eu (o:=opAt bO 8) (d:=175) 8 hQ (fun W hW=>jK (T:=25) (parts:= #[(0,.tmp 174)]) (vs:=[(0,.string m)]) (ho:=(by kernel_rfl)) (EU _)) X.s ?_;exact dM (aD0 _ _ H X hlo)
  ·obtain ⟨W',dX,eW,hb,hN,H',M,hsz⟩:=H.h.alloc 58 ep;have X':BX K dX W' q x S1 S2 lo g3 g5 g6 g7 g15:=X.map fun b T cs _ hm=>(hm.below hb).more hN;have HH:HS K N w S2 dX W' _ _:=⟨H',H.hf.fj hb,fun i hi=>hN i (H.hn i hi)⟩;refine gu (o:=opAt bO 13) (d:=16) (w':=W') (by rw [eW];exact cY (z:= .agg ep) (by kernel_rfl) mP) X'.s ?_;exact dM (alo _ _ _ _ HH  X'  (by omega)  ⟨yI hb h3.1,h3.2⟩  ⟨M,hlo⟩)
  ·obtain ⟨W',dX,eW,hb,hN,H',M,hsz⟩:=H.h.alloc 111 bP;have X':BX K dX W' q x S1 S2 lo g3 g5 g6 g7 g15:=X.map fun b T cs _ hm=>(hm.below hb).more hN;have HH:HS K N w S2 dX W' _ _:=⟨H',H.hf.fj hb,fun i hi=>hN i (H.hn i hi)⟩;refine gu (o:=opAt bO 14) (d:=17) (w':=W') (by rw [eW];exact cY (z:= .agg bP) (by kernel_rfl) jI) X'.s ?_;exact dM (aln _ _ _ _ HH  X'  (by omega)  ⟨yI hb h3.1,h3.2⟩  ⟨M,hlo⟩)
 have ali: ∀(N':Nat->Prop) (W:World) (b16:Nat) (b17:Nat),HS K N w S2 N' W S1 q->BX K N' W q x S1 S2 lo g3 g5 g6 g7 g15->lo<=W.heap.size->MB K N' W b16 58 ep/\lo<=b16->MB K N' W b17 111 bP/\lo<=b17->b16≠b17->AU 235 ay bO Q (sH q x S1 S2 g5 g15) 16 10 (lh [0,1,2,4,5,13,14]) [(6,PH g6),(7,PH g7),(167,.agg (bX q S1 S2)),(169,.int .i64 ((k:Nat):Int)),(172,.int .i64 x.val),(16,PH b16),(17,PH b17)] W:=by
  intro N' W b16 b17 H X hlo ik iM hne;refine tV (show Region.ready .any bO (lh [0,1,2,4,5,13,14])=[3] by kernel_rfl) ?_
  ·have hb:=K0 W #[.string cM,.string mStart] 9;have hc3:(W.alloc (.cells #[.string cM,.string mStart] 9)).cell? ⟨W.heap.size,j,none⟩=some (.string m):=by rw [(aC.new W 9 #[.string cM,.string mStart]).cell];exact hj
   have Fz: ¬K W.heap.size:=fun hk=>by have:=H.h.nb _ (H.h.kn _ hk);omega
   have hsz:(W.alloc (.cells #[.string cM,.string mStart] 9)).heap.size=W.heap.size+1:=by simp [dI]
   have X:=X.map fun b T cs _ hm=>hm.below hb;have HH:=H.below hb;obtain ⟨ti,ht1,yZ,AQ⟩:=Tm;refine gu (o:=opAt bO 3) (d:=170) (TU (e:=9) (x:= .const (.string cM)) (y:= .const (.string mStart)) (s:=cM) (t:=mStart) (by kernel_rfl) rfl rfl fY ht1 yZ AQ) X.s ?_;refine eu (o:=opAt bO 6) (d:=173) 6 hQ (fun W hW=>uU (T:=26) (x:= .tmp 170) (i:= .tmp 172) (by kernel_rfl) rfl (show ev _ _=some (.int .i64 x.val) from rfl) (by omega) (by omega) RC) X.s ?_;exact Kd (by kernel_rfl) (show sY _ [(6,PH g6),(7,PH g7),(167,.agg (bX q S1 S2)),(169,.int .i64 ((k:Nat):Int)),(173,.pointer (some ⟨W.heap.size,j,none⟩)),(16,PH b16),(17,PH b17)] from by rw [tH];exact ⟨rfl,rfl,rfl,rfl,by simp [lk],rfl,rfl,trivial⟩) (abB _ _ W.heap.size _ _ HH X (by omega) ⟨hc3,Fz⟩ ⟨ik.1.below hb,ik.2⟩ ⟨iM.1.below hb,iM.2⟩ hne)
 have aDV: ∀(N':Nat->Prop) (W:World) (b16:Nat),HS K N w S2 N' W S1 q->BX K N' W q x S1 S2 lo g3 g5 g6 g7 g15->lo<=W.heap.size->MB K N' W b16 58 ep/\lo<=b16->AU 235 ay bO Q (sH q x S1 S2 g5 g15) 16 11 (lh [0,1,2,4,5,13]) [(6,PH g6),(7,PH g7),(167,.agg (bX q S1 S2)),(169,.int .i64 ((k:Nat):Int)),(172,.int .i64 x.val),(16,PH b16)] W:=by
  intro N' W b16 H X hlo ik;refine sL (show Region.ready .any bO (lh [0,1,2,4,5,13])=[3,14] by kernel_rfl) ?_ ?_
  ·have hb:=K0 W #[.string cM,.string mStart] 9;have hc3:(W.alloc (.cells #[.string cM,.string mStart] 9)).cell? ⟨W.heap.size,j,none⟩=some (.string m):=by rw [(aC.new W 9 #[.string cM,.string mStart]).cell];exact hj
   have Fz: ¬K W.heap.size:=fun hk=>by have:=H.h.nb _ (H.h.kn _ hk);omega
   have hsz:(W.alloc (.cells #[.string cM,.string mStart] 9)).heap.size=W.heap.size+1:=by simp [dI]
   have X:=X.map fun b T cs _ hm=>hm.below hb;have HH:=H.below hb;obtain ⟨ti,ht1,yZ,AQ⟩:=Tm;refine gu (o:=opAt bO 3) (d:=170) (TU (e:=9) (x:= .const (.string cM)) (y:= .const (.string mStart)) (s:=cM) (t:=mStart) (by kernel_rfl) rfl rfl fY ht1 yZ AQ) X.s ?_;refine eu (o:=opAt bO 6) (d:=173) 6 hQ (fun W hW=>uU (T:=26) (x:= .tmp 170) (i:= .tmp 172) (by kernel_rfl) rfl (show ev _ _=some (.int .i64 x.val) from rfl) (by omega) (by omega) RC) X.s ?_;exact Kd (by kernel_rfl) (show sY _ [(6,PH g6),(7,PH g7),(167,.agg (bX q S1 S2)),(169,.int .i64 ((k:Nat):Int)),(173,.pointer (some ⟨W.heap.size,j,none⟩)),(16,PH b16)] from by rw [tH];exact ⟨rfl,rfl,rfl,rfl,by simp [lk],rfl,trivial⟩) (alo _ _ W.heap.size _ HH X (by omega) ⟨hc3,Fz⟩ ⟨ik.1.below hb,ik.2⟩)
  ·obtain ⟨W',dX,eW,hb,hN,H',M,hsz⟩:=H.h.alloc 111 bP;have X':BX K dX W' q x S1 S2 lo g3 g5 g6 g7 g15:=X.map fun b T cs _ hm=>(hm.below hb).more hN;have HH:HS K N w S2 dX W' _ _:=⟨H',H.hf.fj hb,fun i hi=>hN i (H.hn i hi)⟩;refine gu (o:=opAt bO 14) (d:=17) (w':=W') (by rw [eW];exact cY (z:= .agg bP) (by kernel_rfl) jI) X'.s ?_;exact dM (ali _ _ _ _ HH  X'  (by omega)  ⟨(ik.1.below hb).more hN,ik.2⟩  ⟨M,hlo⟩  (by have:=ik.1.lt;omega))
 have aDU: ∀(N':Nat->Prop) (W:World) (b17:Nat),HS K N w S2 N' W S1 q->BX K N' W q x S1 S2 lo g3 g5 g6 g7 g15->lo<=W.heap.size->MB K N' W b17 111 bP/\lo<=b17->AU 235 ay bO Q (sH q x S1 S2 g5 g15) 16 11 (lh [0,1,2,4,5,14]) [(6,PH g6),(7,PH g7),(167,.agg (bX q S1 S2)),(169,.int .i64 ((k:Nat):Int)),(172,.int .i64 x.val),(17,PH b17)] W:=by
  intro N' W b17 H X hlo iM;refine sL (show Region.ready .any bO (lh [0,1,2,4,5,14])=[3,13] by kernel_rfl) ?_ ?_
  ·have hb:=K0 W #[.string cM,.string mStart] 9;have hc3:(W.alloc (.cells #[.string cM,.string mStart] 9)).cell? ⟨W.heap.size,j,none⟩=some (.string m):=by rw [(aC.new W 9 #[.string cM,.string mStart]).cell];exact hj
   have Fz: ¬K W.heap.size:=fun hk=>by have:=H.h.nb _ (H.h.kn _ hk);omega
   have hsz:(W.alloc (.cells #[.string cM,.string mStart] 9)).heap.size=W.heap.size+1:=by simp [dI]
   have X:=X.map fun b T cs _ hm=>hm.below hb;have HH:=H.below hb;obtain ⟨ti,ht1,yZ,AQ⟩:=Tm;refine gu (o:=opAt bO 3) (d:=170) (TU (e:=9) (x:= .const (.string cM)) (y:= .const (.string mStart)) (s:=cM) (t:=mStart) (by kernel_rfl) rfl rfl fY ht1 yZ AQ) X.s ?_;refine eu (o:=opAt bO 6) (d:=173) 6 hQ (fun W hW=>uU (T:=26) (x:= .tmp 170) (i:= .tmp 172) (by kernel_rfl) rfl (show ev _ _=some (.int .i64 x.val) from rfl) (by omega) (by omega) RC) X.s ?_;exact Kd (by kernel_rfl) (show sY _ [(6,PH g6),(7,PH g7),(167,.agg (bX q S1 S2)),(169,.int .i64 ((k:Nat):Int)),(173,.pointer (some ⟨W.heap.size,j,none⟩)),(17,PH b17)] from by rw [tH];exact ⟨rfl,rfl,rfl,rfl,by simp [lk],rfl,trivial⟩) (aln _ _ W.heap.size _ HH X (by omega) ⟨hc3,Fz⟩ ⟨iM.1.below hb,iM.2⟩)
  ·obtain ⟨W',dX,eW,hb,hN,H',M,hsz⟩:=H.h.alloc 58 ep;have X':BX K dX W' q x S1 S2 lo g3 g5 g6 g7 g15:=X.map fun b T cs _ hm=>(hm.below hb).more hN;have HH:HS K N w S2 dX W' _ _:=⟨H',H.hf.fj hb,fun i hi=>hN i (H.hn i hi)⟩;refine gu (o:=opAt bO 13) (d:=16) (w':=W') (by rw [eW];exact cY (z:= .agg ep) (by kernel_rfl) mP) X'.s ?_;exact dM (ali _ _ _ _ HH  X'  (by omega)  ⟨M,hlo⟩  ⟨(iM.1.below hb).more hN,iM.2⟩  (by have:=iM.1.lt;omega))
 have aDT: ∀(N':Nat->Prop) (W:World),HS K N w S2 N' W S1 q->BX K N' W q x S1 S2 lo g3 g5 g6 g7 g15->lo<=W.heap.size->AU 235 ay bO Q (sH q x S1 S2 g5 g15) 16 12 (lh [0,1,2,4,5]) [(6,PH g6),(7,PH g7),(167,.agg (bX q S1 S2)),(169,.int .i64 ((k:Nat):Int)),(172,.int .i64 x.val)] W:=by
  intro N' W H X hlo;refine Pu (show Region.ready .any bO (lh [0,1,2,4,5])=[3,13,14] by kernel_rfl) ?_ ?_ ?_
  ·have hb:=K0 W #[.string cM,.string mStart] 9;have hc3:(W.alloc (.cells #[.string cM,.string mStart] 9)).cell? ⟨W.heap.size,j,none⟩=some (.string m):=by rw [(aC.new W 9 #[.string cM,.string mStart]).cell];exact hj
   have Fz: ¬K W.heap.size:=fun hk=>by have:=H.h.nb _ (H.h.kn _ hk);omega
   have hsz:(W.alloc (.cells #[.string cM,.string mStart] 9)).heap.size=W.heap.size+1:=by simp [dI]
   have X:=X.map fun b T cs _ hm=>hm.below hb;have HH:=H.below hb;obtain ⟨ti,ht1,yZ,AQ⟩:=Tm;refine gu (o:=opAt bO 3) (d:=170) (TU (e:=9) (x:= .const (.string cM)) (y:= .const (.string mStart)) (s:=cM) (t:=mStart) (by kernel_rfl) rfl rfl fY ht1 yZ AQ) X.s ?_;refine eu (o:=opAt bO 6) (d:=173) 6 hQ (fun W hW=>uU (T:=26) (x:= .tmp 170) (i:= .tmp 172) (by kernel_rfl) rfl (show ev _ _=some (.int .i64 x.val) from rfl) (by omega) (by omega) RC) X.s ?_;exact Kd (by kernel_rfl) (show sY _ [(6,PH g6),(7,PH g7),(167,.agg (bX q S1 S2)),(169,.int .i64 ((k:Nat):Int)),(173,.pointer (some ⟨W.heap.size,j,none⟩))] from by rw [tH];exact ⟨rfl,rfl,rfl,rfl,by simp [lk],trivial⟩) (aDY _ _ W.heap.size HH X (by omega) ⟨hc3,Fz⟩)
  ·obtain ⟨W',dX,eW,hb,hN,H',M,hsz⟩:=H.h.alloc 58 ep;have X':BX K dX W' q x S1 S2 lo g3 g5 g6 g7 g15:=X.map fun b T cs _ hm=>(hm.below hb).more hN;have HH:HS K N w S2 dX W' _ _:=⟨H',H.hf.fj hb,fun i hi=>hN i (H.hn i hi)⟩;refine gu (o:=opAt bO 13) (d:=16) (w':=W') (by rw [eW];exact cY (z:= .agg ep) (by kernel_rfl) mP) X'.s ?_;exact dM (aDV _ _ _ HH  X'  (by omega)  ⟨M,hlo⟩)
  ·obtain ⟨W',dX,eW,hb,hN,H',M,hsz⟩:=H.h.alloc 111 bP;have X':BX K dX W' q x S1 S2 lo g3 g5 g6 g7 g15:=X.map fun b T cs _ hm=>(hm.below hb).more hN;have HH:HS K N w S2 dX W' _ _:=⟨H',H.hf.fj hb,fun i hi=>hN i (H.hn i hi)⟩;refine gu (o:=opAt bO 14) (d:=17) (w':=W') (by rw [eW];exact cY (z:= .agg bP) (by kernel_rfl) jI) X'.s ?_;exact dM (aDU _ _ _ HH  X'  (by omega)  ⟨M,hlo⟩)
 refine eu (o:=opAt bO 0) (d:=167) 0 hQ (fun W hW=>bE (T:=58) (x:= .tmp 15) (ho:=(by kernel_rfl)) dc hW.1 cg) X.s ?_;refine eu (o:=opAt bO 1) (d:=168) 1 hQ (fun W hW=>aN (x:= .tmp 1) (ho:=(by kernel_rfl))) X.s ?_;refine eu (o:=opAt bO 2) (d:=169) 2 hQ (fun W hW=>jB (op:= .sub) (T:=3) (U:=3) (x:= .tmp 168) (y:= .const (.int .i64 1)) (ho:=(by kernel_rfl)) (hb:=hw)) X.s ?_;refine eu (o:=opAt bO 4) (d:=171) 4 hQ (fun W hW=>bD (x:= .tmp 5) (ho:=(by kernel_rfl)) Y7) X.s ?_;refine eu (o:=opAt bO 5) (d:=172) 5 hQ (fun W hW=>bM (T:=3) (x:= .tmp 171) (ho:=(by kernel_rfl)) lL ((hW.2.cell 2).trans rfl)) X.s ?_;exact dM (aDT _ _ H X hlo)
abbrev Bx:=Nat×TypeId×Array Value
structure OX(K N0:Nat->Prop)(w0:World)(N:Nat->Prop)(W:World)(S1 S2:Value)(p:Part)(l:List Bx):Prop where
 h:PV K N W S1 S2 p
 f:dF K w0 W
 n: ∀i,N0 i->N i
 m: ∀x∈l,MB K N W x.1 x.2.1 x.2.2
 lo: ∀x∈l,w0.heap.size<=x.1
 nd:(l.map (·.1)).Nodup
section
variable {K N0 N N':Nat->Prop}{w0 W W':World}{S1 jM S2:Value}{p q:Part}{l:List Bx}{x0 x1 x2 x3 x4 x5 x6 x7 x8:Bx}{b i:Nat}{T:TypeId}{cs cs':Array Value}
def OX.start(h:PV K N0 w0 S1 S2 p):OX K N0 w0 N0 w0 S1 S2 p []:=⟨h,dF.refl K w0,fun _ h=>h,fun x hx=>(by cases hx),fun x hx=>(by cases hx),List.nodup_nil⟩
def OX.q0(O:OX K N0 w0 N W S1 S2 p ((b,T,cs)::l)):MB K N W b T cs:=O.m _ (.head _)
def OX.q1(O:OX K N0 w0 N W S1 S2 p (x0::(b,T,cs)::l)):MB K N W b T cs:=O.m _ (.tail _ (.head _))
def OX.q2(O:OX K N0 w0 N W S1 S2 p (x0::x1::(b,T,cs)::l)):MB K N W b T cs:=O.m _ (.tail _ (.tail _ (.head _)))
def OX.q3(O:OX K N0 w0 N W S1 S2 p (x0::x1::x2::(b,T,cs)::l)):MB K N W b T cs:=O.m _ (.tail _ (.tail _ (.tail _ (.head _))))
def OX.q4(O:OX K N0 w0 N W S1 S2 p (x0::x1::x2::x3::(b,T,cs)::l)):MB K N W b T cs:=O.m _ (.tail _ (.tail _ (.tail _ (.tail _ (.head _)))))
def OX.q5(O:OX K N0 w0 N W S1 S2 p (x0::x1::x2::x3::x4::(b,T,cs)::l)):MB K N W b T cs:=O.m _ (.tail _ (.tail _ (.tail _ (.tail _ (.tail _ (.head _))))))
def OX.below(O:OX K N0 w0 N W S1 S2 p l)(hb:Below W.heap.size W W'):OX K N0 w0 N W' S1 S2 p l:={O with h:=O.h.below hb,f:=O.f.fj hb,m:=fun x hx=>(O.m x hx).below hb}
def OX.al(O:OX K N0 w0 N W S1 S2 p l)(T:TypeId)(cs:Array Value): ∃W' N',W'=W.alloc (.cells cs T)/\OX K N0 w0 N' W' S1 S2 p ((W.heap.size,T,cs)::l):=by
 obtain ⟨W',N',e,hb,hN,H',M,hs⟩:=O.h.alloc T cs;refine ⟨W',N',e,H',O.f.fj hb,fun i hi=>hN i (O.n i hi),fun x hx=> ?_,fun x hx=> ?_,?_⟩
 ·rcases fJ.1 hx with rfl|hx
  ·exact M
  ·exact ((O.m x hx).below hb).more hN
 ·rcases fJ.1 hx with rfl|hx
  ·exact O.f.size
  ·exact O.lo x hx
 ·rw [kU,PW];refine ⟨fun hm=> ?_,O.nd⟩;obtain ⟨x,hx,e⟩:=gD.1 hm;have:=(O.m x hx).lt;have e:x.1=W.heap.size:=e;omega
def OX.kf(O:OX K N0 w0 N W S1 S2 p l)(H:PV K N W' jM S2 q)(hf:dF K W W'):OX K N0 w0 N W' jM S2 q l:=⟨H,O.f.Dv hf,O.n,fun x hx=>(O.m x hx).kr hf,O.lo,O.nd⟩
def OX.wr(O:OX K N0 w0 N W S1 S2 p l)(hi:l[i]? =some (b,T,cs))(o:bN W W' b)(r:aC W' b T cs'):OX K N0 w0 N W' S1 S2 p (l.set i (b,T,cs')):=by
 have hil:=(dQ.1 hi).1;have M:=O.m _ (kV hi);refine ⟨O.h.one o M.n M.k M.g,O.f.one o (.inr (O.lo _ (kV hi))),O.n,fun x hx=> ?_,fun x hx=> ?_,?_⟩
 ·obtain ⟨j,hj,e⟩:=KD.1 hx;rw [List.getElem_set] at e;split at e
  ·subst e;exact M.put r
  ·rename_i hne;have hj':j<l.length:=by simpa using hj
   subst e;refine (O.m _ (vM hj')).other o fun e=>hne (Eq.symm ?_);have e2:l[i]=(b,T,cs):=by rw [cO hil] at hi;exact gh hi
   have hp:=Xu.1 O.nd;have e3:b=l[j].1:=e.symm;rcases dY i j with h1|h1
   ·have:=hp i j (by simpa using hil) (by simpa using hj') h1;simp [e2] at this;exact absurd e3 this
   ·rcases Nat.eq_or_lt_of_le h1 with h2|h2
    ·exact h2
    ·have:=hp j i (by simpa using hj') (by simpa using hil) h2;simp [e2] at this;exact absurd e3.symm this
 ·rcases sU hx with h1|h1
  ·exact O.lo x h1
  ·rw [h1];exact O.lo (b,T,cs) (kV hi)
 ·have:(l.set i (b,T,cs')).map (·.1)=l.map (·.1):=by
   rw [PS];apply zV;intro j;rw [Ew];split
   ·rename_i e;subst e;split
    ·rw [iI,hi];rfl
    ·rename_i hn;exact absurd (by simpa using hil) hn
   ·rfl
  rw [this];exact O.nd
def OX.r0(O:OX K N0 w0 N W S1 S2 p ((b,T,cs)::l))(o:bN W W' b)(r:aC W' b T cs'):OX K N0 w0 N W' S1 S2 p ((b,T,cs')::l):=O.wr (i:=0) rfl o r
def OX.r1(O:OX K N0 w0 N W S1 S2 p (x0::(b,T,cs)::l))(o:bN W W' b)(r:aC W' b T cs'):OX K N0 w0 N W' S1 S2 p (x0::(b,T,cs')::l):=O.wr (i:=1) rfl o r
def OX.r2(O:OX K N0 w0 N W S1 S2 p (x0::x1::(b,T,cs)::l))(o:bN W W' b)(r:aC W' b T cs'):OX K N0 w0 N W' S1 S2 p (x0::x1::(b,T,cs')::l):=O.wr (i:=2) rfl o r
def OX.r3(O:OX K N0 w0 N W S1 S2 p (x0::x1::x2::(b,T,cs)::l))(o:bN W W' b)(r:aC W' b T cs'):OX K N0 w0 N W' S1 S2 p (x0::x1::x2::(b,T,cs')::l):=O.wr (i:=3) rfl o r
def OX.r4(O:OX K N0 w0 N W S1 S2 p (x0::x1::x2::x3::(b,T,cs)::l))(o:bN W W' b)(r:aC W' b T cs'):OX K N0 w0 N W' S1 S2 p (x0::x1::x2::x3::(b,T,cs')::l):=O.wr (i:=4) rfl o r
def OX.r5(O:OX K N0 w0 N W S1 S2 p (x0::x1::x2::x3::x4::(b,T,cs)::l))(o:bN W W' b)(r:aC W' b T cs'):OX K N0 w0 N W' S1 S2 p (x0::x1::x2::x3::x4::(b,T,cs')::l):=O.wr (i:=5) rfl o r
def OX.iR(O:OX K N0 w0 N W S1 S2 p l){b c:Nat}{T T':TypeId}{cs cs':Array Value}(i j:Nat)(hi:l[i]? =some (b,T,cs):=by rfl)(hj:l[j]? =some (c,T',cs'):=by rfl)(h:i≠j:=by decide):b≠c:=by
 have key: ∀(i j:Nat) (x y:Bx),l[i]? =some x->l[j]? =some y->i<j->x.1≠y.1:=fun i j x y hi hj h=>by obtain ⟨h1,e1⟩:=dQ.1 hi;obtain ⟨h2,e2⟩:=dQ.1 hj;have:=Xu.1 O.nd i j (by simpa using h1) (by simpa using h2) h;simp only [List.getElem_map,e1,e2] at this;exact this
 rcases Xy h with h1|h1
 ·exact key i j _ _ hi hj h1
 ·exact (key j i _ _ hj hi h1).symm
def as9{b1 b2 b3 b4:Nat}{T1 T2 T3 T4:TypeId}{c1 c2 c3 c4:Array Value}(h:PV K N W S1 S2 p)(f:dF K w0 W)(n: ∀i,N0 i->N i)(m1:MB K N W b1 T1 c1)(m2:MB K N W b2 T2 c2)(m3:MB K N W b3 T3 c3)(m4:MB K N W b4 T4 c4)(lo:w0.heap.size<=b1/\w0.heap.size<=b2/\w0.heap.size<=b3/\w0.heap.size<=b4)(ne:b1≠b2/\b1≠b3/\b1≠b4/\b2≠b3/\b2≠b4/\b3≠b4):OX K N0 w0 N W S1 S2 p [(b1,T1,c1),(b2,T2,c2),(b3,T3,c3),(b4,T4,c4)]:=by
 refine ⟨h,f,n,fun x hx=> ?_,fun x hx=> ?_,?_⟩
 ·simp only [fJ,sV,vT] at hx;rcases hx with rfl|rfl|rfl|rfl<;>assumption
 ·simp only [fJ,sV,vT] at hx;rcases hx with rfl|rfl|rfl|rfl
  ·exact lo.1
  ·exact lo.2.1
  ·exact lo.2.2.1
  ·exact lo.2.2.2
 ·simp [ne]
def OX.bump{o n cap k:Nat}(O:OX K N0 w0 N W S1 (.slice (some ⟨b,o,none⟩) n cap) p l)(hk:k<p.aw.length)(hv:IntKind.i64.min<=jc (nth p.aw k).count/\jc (nth p.aw k).count<=IntKind.i64.max):OX K N0 w0 N (W.setCell ⟨b,o+k*2+1,none⟩ (.int .i64 (jc (nth p.aw k).count))) S1 (.slice (some ⟨b,o,none⟩) n cap) (Go.Proofs.YtekplmpbkgchfaaGreatDoor.bump p k) l:=by obtain ⟨-, -, -,hKb, -⟩:=O.h.lay hk;exact ⟨O.h.bump hk hv,O.f.aFp _ (.inl hKb),O.n,fun x hx=>(O.m x hx).far (a:=⟨b,o+k*2+1,none⟩) _ hKb,O.lo,O.nd⟩
end
section
variable {n:Nat}{P:Program}{ops:Array Oper}{Q:Exit->Act->World->Prop}{E:List (Nat×Value)}{o:Oper}{rest:List Oper}{d:Nat}
variable {K N0 N:Nat->Prop}{w0 W:World}{S1 S2:Value}{p:Part}{l:List Bx}{T:TypeId}{cs:Array Value}
def ue(O:OX K N0 w0 N W S1 S2 p l)(hz:(P.info? T).bind (·.zero)=some (.agg cs))(h: ∀W' N',OX K N0 w0 N' W' S1 S2 p ((W.heap.size,T,cs)::l)->WL n P ops Q rest ((d,.pointer (some ⟨W.heap.size,0,none⟩))::E) W')(ho:o.op= .alloc T:=by rfl)(hg:o.guard=none:=by rfl)(hd:o.dst=some d:=by rfl)(cT:d<n:=by decide):WL n P ops Q (o::rest) E W:=by obtain ⟨W',N',e,O'⟩:=O.al T cs;have:=h W' N' O';rw [e] at this;exact jN hg hd (cY ho hz) cT this
def aeL{x:Operand}(O:OX K N0 w0 N W S1 S2 p l)(h: ∀W' N',OX K N0 w0 N' W' S1 S2 p ((W.heap.size,T,cs)::l)->WL n P ops Q rest ((d,.pointer (some ⟨W.heap.size,0,none⟩))::E) W')(ho:o.op= .box T x:=by rfl)(hx:ev E x=some (.agg cs):=by rfl)(hg:o.guard=none:=by rfl)(hd:o.dst=some d:=by rfl)(cT:d<n:=by decide):WL n P ops Q (o::rest) E W:=by obtain ⟨W',N',e,O'⟩:=O.al T cs;have:=h W' N' O';rw [e] at this;exact jN hg hd (uT (ho:=ho) (hx:=hx)) cT this
end
end
end Go.Proofs.YtekplmpbkgchfaaGreatDoor
