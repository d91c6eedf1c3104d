/- Walks over a part in a box: where a walk stands; regions that draw; appends onto rows of one's own. -/
import Derived.Test.YtoomhbopolalnaaGreatDoorS17
import Derived.Deep.DeepCutAuto
set_option linter.all false
set_option maxRecDepth 100000
namespace Go.Proofs.YtoomhbopolalnaaGreatDoor
variable {a:Act}{n:Nat}{P:Program}{b w:World}
section
open Go.RowKit Go
variable [GC]
def sI:(∀{α:Type} {l:List α} {i:Nat} {a:α},l.toArray.setIfInBounds i a=(l.set i a).toArray)/\(∀{α:Type} {x b:α} {xs:List α},(x::xs).set 0 b=b::xs)/\(∀{α:Type} {x:α} {n:Nat} {xs:List α} {b:α},(x::xs).set (n+1) b=x::xs.set n b):=⟨by intros;simp,by intros;rfl,by intros;rfl⟩
def rzs{b:Nat}{T:TypeId}(h:aA w b T #[.int .i64 0,.int .i64 0,.string ⟨#[]⟩,.int .i64 0,.int .i64 0]):w.cell? ⟨b,0,none⟩=some (.int .i64 0)/\w.cell? ⟨b,1,none⟩=some (.int .i64 0)/\w.cell? ⟨b,2,none⟩=some (.string ⟨#[]⟩)/\w.cell? ⟨b,3,none⟩=some (.int .i64 0)/\w.cell? ⟨b,4,none⟩=some (.int .i64 0)/\∀i,w.frozen? ⟨b,i,none⟩=false:=⟨by rw[h.cell];rfl,by rw[h.cell];rfl,by rw[h.cell];rfl,by rw[h.cell];rfl,by rw[h.cell];rfl,h.frozen⟩
def lH(x:Call):Value:=.agg #[.string x.method,.string x.key,.int .i64 x.val,.string x.text]
def amv(r:gK):Value:=.agg #[.int .i64 r.code,.int .i64 r.val,.string r.text,.int .i64 r.want,.int .i64 r.had]
structure Ig(x:Call):Prop where
 method:x.method.size<=maxLen
 key:x.key.size<=maxLen
 val:IntKind.i64.min<=x.val/\x.val<=IntKind.i64.max
 text:x.text.size<4294967281
structure St(K:Nat->Prop)(w:World)(g:Nat)(S2:Value)(K':Nat->Prop)(p:Part)(wi:World):Prop where
 pb:PB K' wi g S2 p
 nb:NG<=w.heap.size
 sub:∀b,K' b->K b\/(w.heap.size<=b/\b<wi.heap.size)
 fr:dD K w wi
section
variable {K K':Nat->Prop}{w wi wj:World}{g:Nat}{S2:Value}{p q:Part}
def dD.jd{a c:World}(h:dD K a b)(k:Below b.heap.size b c):dD K a c :=
 ⟨k.os.trans h.os,k.tape.trans h.tape,k.output.trans h.output,dV h.size k.size,fun i e f=>(k.block i (ek e h.size)).trans (h.block i e f)⟩
def dD.aHj{a:World}(h:dD K a b){q:Addr}(v:Value)(c:K q.block\/a.heap.size<=q.block):dD K a (b.setCell q v) :=
 ⟨h.os,h.tape,h.output,by simpa using h.size,fun i j f=>(aaU (fun e=>by rcases c with c|c;exact f (e▸c);omega)).trans (h.block i j f)⟩
end
def cQ:Array Value:=#[.int .i64 0,.int .i64 0,.string ⟨#[]⟩,.int .i64 0,.int .i64 0]
def toList_inj{a b:ByteArray}(h:a.toList=b.toList):a=b:=by have:=Ej a b;rw[h]at this;simpa using this.symm
def aFn{id:Nat}{Q:Exit->Act->World->Prop}{l:List Oper}(n:Nat)(m:P.follows .mixedOrders=true)(B:Region.lexTailB .any l.toArray n=true)
  (h:∀b:World,b.heap=w.heap->Below w.heap.size w b->wpStill P l.toArray b (fun c=>wpList P l.toArray Q (l.drop n) c b) (l.take n) a):(Code.region id l.toArray true).wp P Q a w :=
 wp_region_still_tail n m B (h _ rfl ⟨rfl,rfl,rfl,bK _,fun _ _=>rfl⟩)
def aA.oD{K:Nat->Prop}{w':World}{b:Nat}{T:TypeId}{cs:Array Value}(h:aA w b T cs)(f:dD K w w')(a:¬K b):aA w' b T cs:=(f.block b h.lt a).trans h
def eY(r:gK):Array Value:=#[.int .i64 r.code,.int .i64 r.val,.string r.text,.int .i64 r.want,.int .i64 r.had]
def Vj{m:ByteArray}(h:m.size<=maxLen):Ig (bL m):=⟨h,show cL.size<=maxLen by unfold maxLen;decide,show IntKind.i64.min<=(0:Int)/\(0:Int)<=IntKind.i64.max by decide,show cL.size<4294967281 by decide⟩
def dD.one{K:Nat->Prop}{a c:World}{g:Nat}(h:dD K a b)(ho:bU b c g)(hg:K g\/a.heap.size<=g):dD K a c :=
  ⟨ho.os.trans h.os,ho.tape.trans h.tape,ho.output.trans h.output,by rw[ho.size];exact h.size,fun i j f=>(ho.block i (fun e=>by rcases hg with hg|hg;exact f (e▸hg);omega)).trans (h.block i j f)⟩
def jF(r:gK):∀u∈(eY r).toList,u.oneCell'=true:=by intro u h;simp[eY]at h;rcases h with rfl|rfl|rfl|rfl|rfl<;>rfl
def Ei(w:World)(b o k:Nat)(x:Call):List (Nat×Value) :=
  [(3,.pointer (some ⟨w.heap.size,0,none⟩)),(4,.pointer (some ⟨w.heap.size+1,0,none⟩)),(5,.pointer (some ⟨w.heap.size+1+1,0,none⟩)),(6,.pointer (some ⟨w.heap.size+1+1+1,0,none⟩)),
   (7,.pointer (some ⟨b,o+k*2,none⟩)),(8,.func (.func 154) #[] #[.pointer (some ⟨w.heap.size,0,none⟩),.pointer (some ⟨w.heap.size+1,0,none⟩)]),(9,.bool (gm x))]
def M8:mC Tryz.prog 51 0=some 0:=by kernel_rfl
def Bi:mC Tryz.prog 51 1=some 5:=by kernel_rfl
def vL:mC Tryz.prog 31 0=some 0:=by kernel_rfl
def aai:mC Tryz.prog 31 2=some 2:=by kernel_rfl
def Dq:mC Tryz.prog 75 0=some 0:=by kernel_rfl
def JG:mC Tryz.prog 75 1=some 1:=by kernel_rfl
def FY:mC Tryz.prog 110 0=some 0:=by kernel_rfl
def aip:mC Tryz.prog 110 1=some 1:=by kernel_rfl
def Dm:vI Tryz.prog 49=some 2:=by kernel_rfl
def mW:(Tryz.prog.info? 110).bind (·.zero)=some (.agg cQ):=by kernel_rfl
def cw:(Tryz.prog.info? 110).map (·.size)=some 5:=by kernel_rfl
def uE:(Tryz.prog.info? 31).map (·.size)=some 4:=by kernel_rfl
def abU:(Tryz.prog.info? 3).map (·.size)=some 1:=by kernel_rfl
def agx(v:Int):um Tryz.prog 110 [(1,.int .i64 v)]=some (eY (rep 0 v 0 0)):=by kernel_rfl
def Y7(v:Int):um Tryz.prog 110 [(0,.int .i64 v)]=some (eY (rep v 0 0 0)):=by kernel_rfl
def axW:rT Tryz.prog 153=true:=by kernel_rfl
def axX:rT Tryz.prog 125=true:=by kernel_rfl
def CW.tail{Q:Exit->Act->World->Prop}{E:List (Nat×Value)}{id:Nat}{l:List Oper}(m:Nat)(c:P.follows .mixedOrders=true)(B:Region.lexTailB .any l.toArray m=true)
    (h:∀b:World,b.heap=w.heap->Below w.heap.size w b->WS n P l.toArray b (fun e=>wpList P l.toArray Q (l.drop m) e b) (l.take m) E):CW n P (.region id l.toArray true) Q E w:=fun a f=>
  aFn m c B fun b j r=>h b j r a f
def awm{Q:Exit->Act->World->Prop}{E:List (Nat×Value)}{ops:Array Oper}{rest:List Oper}(h:WL n P ops Q rest E b):WS n P ops b (fun c=>wpList P ops Q rest c b) [] E:=fun a e=>wpStill_nil (h a e)
end
variable {i:Nat}{v:Value}
section
open Go
section
variable {P:Program}{ops:Array Oper}{Q:Exit->Act->World->Prop}{md:Region.Mode}{S:World->Prop}{s:Nat}
def uh(P:Program)(md:Region.Mode)(ops:Array Oper)(Q:Exit->Act->World->Prop)(S:World->Prop)(s:Nat):Nat->Array Bool->Act->World->Prop
 |0,L,a,w=>Region.ready md ops L=[]/\Q .normal a w
 |n+1,L,a,w=>(Region.ready md ops L=[]->Q .normal a w) /\
  ∀i∈Region.ready md ops L,wpOp P ops Q i (fun b w'=>(i≠s->S w')/\uh P md ops Q S s n (L.setIfInBounds i true) b w') a w
def agl:∀(n:Nat) (L:Array Bool) (a:Act) (w:World),uh P md ops Q S s n L a w->wpAny P md ops Q n L a w
 |0,_,_,_,h=>h
 |n+1,_,_,_,h=>⟨h.1,fun i b=>wpOp_mono (fun c w' e=>agl n _ c w' e.2) (h.2 i b)⟩
def Ih(md:Region.Mode)(ops:Array Oper)(L:Array Bool):Prop :=
 ∀k ok,ops[k]? =some ok->L.getD k false=true->∀e∈ok.after,Region.binds md e=true->L.getD e.on false=true
def Ih.put{L:Array Bool}(h:Ih md ops L){i:Nat}(r:i∈Region.ready md ops L):Ih md ops (L.setIfInBounds i true):=fun k ok b c e f j=>by
 by_cases a:i=k
 ·subst a;obtain⟨_,o,m,l⟩:=mem_ready.1 r;rw[b]at m;cases m;exact getD_set_true (l e f j)
 ·rw[getD_set_ne false a]at c;exact getD_set_true (h k ok b c e f j)
def MO(md:Region.Mode)(ops:Array Oper)(L:Array Bool):Bool :=
 (List.range ops.size).all fun k=> !(L.getD k false)||((ops[k]?).map fun o=>o.after.all fun e=> !Region.binds md e||L.getD e.on false).getD true
def ax9{L:Array Bool}(h:MO md ops L=true):Ih md ops L:=fun k ok a l e c f=>by have b:=fM.1 h k (om.2 (rQ.1 a).1);simp only[l,a,Bool.not_true,QJ,j0,jZ]at b;have j:=QG.1 b e c;simpa[f]using j
def preB(md:Region.Mode)(ops:Array Oper):Nat->Nat->Nat->Bool
 |0,_,_=>false
 |n+1,i,s=>match ops[s]? with
  |none=>false
  |some o=>o.after.any fun e=>Region.binds md e&&(e.on==i||preB md ops n i e.on)
def aES{L:Array Bool}(j:Ih md ops L){i:Nat}:∀(n s:Nat),preB md ops n i s=true ->
  (∀o,ops[s]? =some o->∀e∈o.after,Region.binds md e=true->L.getD e.on false=true)->L.getD i false=true:=by
 intro n;induction n with
 |zero=>intro s h;cases h
 |succ n ih=>
  intro s h m;simp only[preB]at h;cases a:ops[s]? with
  |none=>rw[a]at h;cases h
  |some o=>
   rw[a]at h;obtain⟨e,r,b⟩:=Array.any_eq_true'.1 h;simp only[aY,jY,vA]at b;have l:=m o a e r b.1;rcases b.2 with c|c
   ·rw[<-c];exact l
   ·exact ih e.on c (fun t f=>j e.on t f l)
def awp{B:Oper}(U:ops[i]? =some B)(u:∀(j:Nat) (o:Oper) cs b,ops[j]? =some o->o.op≠.select cs b)
  (hQ:∀c a w,Q (.panic c) (a.put B.dst v) w->Q (.panic c) a w) (his:i≠s) (m:Nat) (hp:preB md ops m i s=true) :
  ∀(n:Nat) (L:Array Bool) (a:Act) (w:World),
   (∀j x,ops[j]? =some x->j≠i->L.getD j true=false->(∀e∈x.after,Region.binds md e=true->e.on≠i)->B.apart ops x=true) ->
   i∈Region.ready md ops L->YieldsIf P ops S B v a->S w->Ih md ops L ->
   uh P md ops Q S s n (L.setIfInBounds i true) (a.put B.dst v) w->uh P md ops Q S s (n+1) L a w:=by
 intro n;induction n with
 |zero=>
  intro L a w _ A O G _ H;refine⟨fun h=>(by rw[h]at A;cases A),fun j C=> ?_⟩;by_cases f:j=i
  ·subst f;exact O.wpOp U G ⟨fun _=>G,H⟩
  ·have:=ready_mono C f;rw[H.1]at this;cases this
 |succ n ih=>
  intro L a w r A O G Z H;refine⟨fun h=>(by rw[h]at A;cases A),fun j C=> ?_⟩;by_cases f:j=i
  ·subst f;exact O.wpOp U G ⟨fun _=>G,H⟩
  ·have I:=(mem_ready.1 A).1;have J:L.getD i false≠true:=fun F=>by
    rcases dO i L.size with V|V
    ·simp[V]at I F;rw[I]at F;cases F
    ·simp[Fa V]at F
   have W:j≠s:=fun e=>by subst e;obtain⟨_,x,l,t⟩:=mem_ready.1 C;exact J (aES Z m j hp (fun o y=>by rw[l]at y;cases y;exact t))
   have F:=H.2 j (ready_mono C f);obtain⟨y,x,l,t⟩:=mem_ready.1 C;have M:∀e∈x.after,Region.binds md e=true->e.on≠i:=fun e z G heq=>J (by rw[<-heq];exact t e z G);have t:=wpOp_putIf l (r j x l f y M) (fun cs b=>u i B cs b U) (fun cs b=>u j x cs b l) hQ O F;refine wpOp_mono (fun l w' T=>⟨T.2.1,ih (L.setIfInBounds j true) l w' (fun k ok x X z Y=> ?_) (ready_mono A (yc f)) T.1 (T.2.1 W) (Z.put C) ?_⟩) t
   ·refine r k ok x X ?_ Y;by_cases N:j=k
    ·subst N;exact y
    ·rw[getD_set_ne true N]at z;exact z
   ·rw[Array.setIfInBounds_comm _ _ f];exact T.2.2
def awq{b:Oper}{L:Array Bool}(f:ops.toList[i]? =some b)
  (j:Region.noSelect ops=true) (l:Region.free md ops L i=true) (r:(Region.ready md ops L).contains i=true)
  (e:(preB md ops 30 i s&& !(i==s)&&MO md ops L)=true)
  (m:∀c a w,Q (.panic c) (a.put b.dst v) w->Q (.panic c) a w) (y:YieldsIf P ops S b v a) (t:S w)
  (h:uh P md ops Q S s n (L.setIfInBounds i true) (a.put b.dst v) w):uh P md ops Q S s (n+1) L a w:=by
 simp only[aY,qH,YY]at e;exact awp (by rw[<-sX];exact f) (Region.noSelect_spec j) m e.1.2 30 e.1.1 n L a w (Region.free_spec (by rw[<-sX];exact f) l) (by simpa using r) y t (ax9 e.2) h
def Iv(P:Program)(md:Region.Mode)(ops:Array Oper)(Q:Exit->Act->World->Prop)(S:World->Prop)(s n:Nat)(L:Array Bool)(a:Act)(w:World)(i:Nat)(o:Oper):Prop :=
 ∀K':Act->World->Prop,(∀b w',(i≠s->S w')->((i≠s->S w')->uh P md ops Q S s n (L.setIfInBounds i true) b w')->K' b w') ->
  if Region.wanted o (yielded ops a.tmps)=true then Oper.wp P o a w K' Q else K' (a.put o.dst undef) w
def Iv.op{o:Oper}{L:Array Bool}(ho:ops[i]? =some o)
  (h:Iv P md ops Q S s n L a w i o):wpOp P ops Q i (fun b w'=>(i≠s->S w')/\uh P md ops Q S s n (L.setIfInBounds i true) b w') a w:=by
 have:=h (fun b w'=>(i≠s->S w')/\uh P md ops Q S s n (L.setIfInBounds i true) b w') (fun b w' e f=>⟨e,f e⟩);unfold wpOp;rw[ho];show if Region.wanted o (yielded ops a.tmps)=true then _ else _;split
 ·rename_i c;rw[aD c]at this;exact .inl this
 ·rename_i c;rw[aw c]at this;exact this
def I2{o:Oper}{L:Array Bool}(ho:ops.toList[i]? =some o)(r:Region.ready md ops L=[i])
  (h:Iv P md ops Q S s n L a w i o):uh P md ops Q S s (n+1) L a w :=
 ⟨fun e=>(by rw[r]at e;cases e),fun j c=>by have b:=c;rw[r]at b;cases mP.1 b;exact h.op (by rw[<-sX];exact ho)⟩
def awo{L:Array Bool}(r:Region.ready md ops L=[])(h:Q .normal a w):∀n,uh P md ops Q S s n L a w
 |0=>⟨r,h⟩
 |_+1=>⟨fun _=>h,by rw[r];simp⟩
def aKz{id:Nat}(S:World->Prop)(s:Nat)(m:P.follows .mixedOrders=true)(b:S w.drew)
  (h:S w.drew->uh P .any ops Q S s ops.size (Array.replicate ops.size false) a w.drew):(Code.region id ops true).wp P Q a w :=
 wp_region_any m (agl _ _ _ _ (h b))
end
end
variable {M:Addr->Prop}{y:TypeId}
section
open Go.RowKit Go
variable [GC]
section
variable {n:Nat}{P:Program}{ops:Array Oper}{Q:Exit->Act->World->Prop}{S:World->Prop}{s k:Nat}{L:Array Bool}{E:List (Nat×Value)}{w w':World}{i d:Nat}{o:Oper}{v:Value}
def AU(n:Nat)(P:Program)(ops:Array Oper)(Q:Exit->Act->World->Prop)(S:World->Prop)(s k:Nat)(L:Array Bool)(E:List (Nat×Value))(w:World):Prop:=∀a,Env n a E->uh P .any ops Q S s k L a w
def CW.any{id:Nat}{l:List Oper}(S:World->Prop)(s:Nat)(m:P.follows .mixedOrders=true)(h:∀b:World,b.heap=w.heap->Below w.heap.size w b->S b/\AU n P l.toArray Q S s l.toArray.size (Array.replicate l.toArray.size false) E b):CW n P (.region id l.toArray true) Q E w:=fun a e=>by have c:=h w.drew rfl ⟨rfl,rfl,rfl,bK _,fun _ _=>rfl⟩;exact aKz S s m c.1 fun _=>c.2 a e
def AU.take(i:Nat)(f:ops.toList[i]? =some o)(j:Region.noSelect ops=true)(l:Region.free .any ops L i=true)(m:(Region.ready .any ops L).contains i=true)(t:(preB .any ops 30 i s&& !(i==s)&&MO .any ops L)=true)
  (u:∀c a w,Q (.panic c) (a.put o.dst v) w->Q (.panic c) a w) (hg:o.guard=none) (hd:o.dst=some d) (r:∀W,S W->eQ n P E o W v W) (b:d<n) (x:S w) (h:AU n P ops Q S s k (L.setIfInBounds i true) ((d,v)::E) w):AU n P ops Q S s (k+1) L E w:=fun a e=>
 awq f j l m t u (.inl ⟨ER hg _,fun W y=>r W y a e⟩) x (by rw[hd];exact h _ (e.put b v))
def Ax(i:Nat)(ho:ops.toList[i]? =some o)(c:Region.ready .any ops L=[i])(hg:o.guard=none)(hd:o.dst=none)(r:CQ n P E o w w')(e:i≠s->S w')(h:AU n P ops Q S s k (L.setIfInBounds i true) E w'):AU n P ops Q S s (k+1) L E w:=fun a b=>
 I2 ho c fun K' f=>by rw[aD (ER hg _)];unfold Oper.wp;rw[r a b,YG,hd];exact f _ _ e fun _=>h _ b
def iK(i:Nat){T:TypeId}{x y:Operand}{b:Nat}{t:TypeId}{C cs:Array Value}(ho:ops.toList[i]? =some o)(c:ev E y=some (.agg cs))(hb:aA w b t C)(e:∀u∈cs.toList,u.oneCell'=true)(z:(P.info? T).map (·.size)=some cs.size)(f:∀w',bU w w' b->i≠s->S w')(h:∀w',aA w' b t cs->bU w w' b->AU n P ops Q S s k (L.setIfInBounds i true) E w')(r:Region.ready .any ops L=[i]:=by kernel_rfl)(hg:o.guard=none:=by rfl)(hd:o.dst=none:=by rfl)(hop:o.op=.store T x y:=by rfl)(hx:ev E x=some (.pointer (some ⟨b,0,none⟩)):=by rfl)(hC:C.size=cs.size:=by rfl):AU n P ops Q S s (k+1) L E w:=by obtain⟨w',j,l,a⟩:=amb (n:=n) (P:=P) (E:=E) hop hx c z e hC hb;exact Ax i ho r hg hd j (f w' a) (h w' l a)
def auo(i:Nat)(ho:ops.toList[i]? =some o)(e:Region.ready .any ops L=[i])(hg:o.guard=none)(hd:o.dst=some d)(r:eQ n P E o w v w')(b:d<n)(f:i≠s->S w')(h:AU n P ops Q S s k (L.setIfInBounds i true) ((d,v)::E) w'):AU n P ops Q S s (k+1) L E w:=fun a c=>
 I2 ho e fun K' j=>by rw[aD (ER hg _)];unfold Oper.wp;rw[r a c,Mc,hd];exact j _ _ f fun _=>h _ (c.put b v)
def AU.c(i:Nat){f:FuncId}{args:Array Value}{R:Ending->World->Prop}(ho:ops.toList[i]? =some o)(j:Region.ready .any ops L=[i])(hg:o.guard=none)(hd:o.dst=some d)(r:zr n P E o w f args)(b:d<n)(hC:Calls P f args w R)
  (h:∀e w',R e w'->∃v,e=.returned v/\(i≠s->S w')/\AU n P ops Q S s k (L.setIfInBounds i true) ((d,v)::E) w'):AU n P ops Q S s (k+1) L E w:=fun a c=>
 I2 ho j fun K' l=>by rw[aD (ER hg _)];unfold Oper.wp;rw[r a c];refine hC.mono fun e w' m=> ?_;obtain⟨v,rfl,t,u⟩:=h e w' m;rw[hd];exact l _ _ t fun _=>u _ (c.put b v)
def ij(r:Region.ready .any ops L=[])(h:NX n (Q .normal) E w):AU n P ops Q S s k L E w:=fun a b=>awo r (h a b) k
def aX(i:Nat)(e:ops.toList[i]? =some o)(r:∀W,S W->eQ n P E o W v W)(f:S w)(h:AU n P ops Q S s k (L.setIfInBounds i true) ((d,v)::E) w)(j:Region.noSelect ops=true:=by kernel_rfl)(l:Region.free .any ops L i=true:=by kernel_rfl)(m:(Region.ready .any ops L).contains i=true:=by kernel_rfl)(t:(preB .any ops 30 i s&& !(i==s)&&MO .any ops L)=true:=by kernel_rfl)
  (u:∀c a w,Q (.panic c) (a.put o.dst v) w->Q (.panic c) a w:=by exact fun _ _ _ h=>h) (hg:o.guard=none:=by rfl) (hd:o.dst=some d:=by rfl) (b:d<n:=by decide):AU n P ops Q S s (k+1) L E w:=AU.take i e j l m t u hg hd r b f h
def iE(i:Nat)(e:∀c a t v w,Q (.panic c) (Act.put a t v) w->Q (.panic c) a w)(r:∀W,S W->eQ n P E o W v W)(f:S w)(h:AU n P ops Q S s k (L.setIfInBounds i true) ((d,v)::E) w)(j:ops.toList[i]? =some o:=by kernel_rfl)(l:Region.noSelect ops=true:=by kernel_rfl)(m:Region.free .any ops L i=true:=by kernel_rfl)(u:(Region.ready .any ops L).contains i=true:=by kernel_rfl)(x:(preB .any ops 30 i s&& !(i==s)&&MO .any ops L)=true:=by kernel_rfl)
  (hg:o.guard=none:=by kernel_rfl) (hd:o.dst=some d:=by kernel_rfl) (b:d<n:=by decide):AU n P ops Q S s (k+1) L E w:=AU.take i j l m u x (fun _ _ _ h=>e _ _ _ _ _ h) hg hd r b f h
def gI(i:Nat)(ho:ops.toList[i]? =some o)(r:eQ n P E o w v w')(b:i≠s->S w')(h:AU n P ops Q S s k (L.setIfInBounds i true) ((d,v)::E) w')(c:Region.ready .any ops L=[i]:=by kernel_rfl)(hg:o.guard=none:=by rfl)(hd:o.dst=some d:=by rfl)(a:d<n:=by decide):AU n P ops Q S s (k+1) L E w:=auo i ho c hg hd r a b h
def p9(i:Nat){f:FuncId}{args:Array Value}{R:Ending->World->Prop}(ho:ops.toList[i]? =some o)(hC:Calls P f args w R)
  (h:∀e w',R e w'->∃v,e=.returned v/\(i≠s->S w')/\AU n P ops Q S s k (L.setIfInBounds i true) ((d,v)::E) w') (b:Region.ready .any ops L=[i]:=by kernel_rfl) (r:zr n P E o w f args:=by exact pL (by kernel_rfl) rfl rfl rfl) (hg:o.guard=none:=by rfl) (hd:o.dst=some d:=by rfl) (a:d<n:=by decide):AU n P ops Q S s (k+1) L E w:=AU.c i ho b hg hd r a hC h
end
def Vp{r:gK}(h1:IntKind.i64.min<=r.code/\r.code<=IntKind.i64.max)(h2:IntKind.i64.min<=r.val/\r.val<=IntKind.i64.max)(h:r.text.size<=maxLen)(a:IntKind.i64.min<=r.want/\r.want<=IntKind.i64.max)(b:IntKind.i64.min<=r.had/\r.had<=IntKind.i64.max):R w M (enc r) (amv r) :=
 ⟨_,rfl,⟨_,_,rfl,⟨rfl,h1⟩,_,_,rfl,⟨rfl,h2⟩,_,_,rfl,⟨rfl,h⟩,_,_,rfl,⟨rfl,a⟩,_,_,rfl,⟨rfl,b⟩,rfl⟩⟩
def aFs{fn:Func}{p u:Tmp}{ty:TypeId}(h:fn.results=#[.cell p ty,.cell u y])(tmps:Array Value)(w:World){g b:Nat}{t z:TypeId}{cs c:Array Value}(d e:TypeDesc)
  (A:tmps.getD p undef=.pointer (some ⟨g,0,none⟩)) (hg:aA w g t cs) (B:P.underlying ty=some d) (hd:(match d with|.struct _|.array _ _=>true|_=>false)=true) (C:(P.info? ty).map (·.size)=some cs.size)
  (f:tmps.getD u undef=.pointer (some ⟨b,0,none⟩)) (j:aA w b z c) (l:P.underlying y=some e) (m:(match e with|.struct _|.array _ _=>true|_=>false)=true) (r:(P.info? y).map (·.size)=some c.size) :
  (results fn tmps).run P w=.ok (.tuple #[.agg cs,.agg c]) w:=by
 have x:tmps[p]?.getD undef=.pointer (some ⟨g,0,none⟩):=by simpa using A
 have a:tmps[u]?.getD undef=.pointer (some ⟨b,0,none⟩):=by simpa using f
 simp[results,h,x,a,asAddr,IZ w g t ty cs (0,0) d hg B hd C,IZ w b z y c (0,0) e j l m r,mw,Result.andThen]
def DW{p:Part}(h:R w M (enc p) v):∃S1 S2,v=.agg #[.string p.core.kind,.bool p.core.on,.bool p.core.broken,S1,.int .i64 p.core.count,S2]/\R w M (ak p.core.cells) S1/\R w M (ak p.ai) S2/\p.core.kind.size<=maxLen/\(IntKind.i64.min<=p.core.count/\p.core.count<=IntKind.i64.max):=by
 obtain⟨c,rfl,v0,r0,e,⟨rfl,f⟩,v1,r1,rfl,rfl,r,r2,rfl,rfl,a,r3,rfl,j,v4,r4,rfl,⟨rfl,l⟩,b,r5,rfl,m,rfl⟩:=h;have:c=#[.string p.core.kind,.bool p.core.on,.bool p.core.broken,a,.int .i64 p.core.count,b]:=by rw[<-iT,e]
 exact⟨a,b,by rw[this],j,m,f,l⟩
def Zv{x:Call}(h:R w M (enc x) v):v=lH x/\x.method.size<=maxLen/\x.key.size<=maxLen/\(IntKind.i64.min<=x.val/\x.val<=IntKind.i64.max):=by
 obtain⟨c,rfl,v0,r0,e,⟨rfl,a⟩,v1,r1,rfl,⟨rfl,b⟩,j,r2,rfl,⟨rfl,f⟩,l,r3,rfl,⟨rfl,m⟩,rfl⟩:=h;have:c=#[.string x.method,.string x.key,.int .i64 x.val,.string x.text]:=by rw[<-iT,e]
 exact⟨by rw[this];rfl,a,b,f⟩
def jV:Array Value:=#[.string ⟨#[]⟩,.bool false,.bool false,.slice none 0 0,.int .i64 0,.slice none 0 0]
def dz(p:Part)(S1 S2:Value):Array Value:=#[.string p.core.kind,.bool p.core.on,.bool p.core.broken,S1,.int .i64 p.core.count,S2]
def ac5(r:gK):Prop:=(0<=r.code/\r.code<=7)/\r.text.size<=100/\r.want=0/\r.had=0
def Vq{c v:Int}(h:0<=c/\c<=7):ac5 (rep c v 0 0):=⟨h,by show(⟨#[]⟩:ByteArray).size<=100;decide,rfl,rfl⟩
def ayQ(p:Core)(x:Call):ac5 (eZ p x).2:=by
 unfold eZ keepD
 (repeat' split)<;>first
  |exact Vq (by decide)
  |exact⟨show(0:Int)<=0/\(0:Int)<=7 by decide,by have:=ain p.cells;simp only;omega,rfl,rfl⟩
def anr:∀(k:Nat) (p:Part) (x:Call),ac5 (bi k p x).2
 |0,p,x=>ayQ p.core x
 |k+1,p,x=>by
  have ih:=anr k;rw[bi];split
  ·exact Vq (by decide)
  split
  ·exact ih _ _
  split
  ·split
   ·exact ih _ _
   ·exact ih _ _
  split
  ·exact Vq (by decide)
  split
  ·split
   ·exact ih _ _
   split
   ·exact ih _ _
   ·exact Vq (by decide)
  split
  ·exact ih _ _
  split
  ·have:=ih p x;unfold OY;simp only;split
   ·exact this
   ·exact this
  ·exact ih _ _
def zp{E:List (Nat×Value)}{fn:Func}{R:Ending->World->Prop}{p u:Tmp}{ty:TypeId}{g x:Nat}{t z:TypeId}{cs c:Array Value}{d b:TypeDesc}(h:fn.results=#[.cell p ty,.cell u y])(A:lk E p=some (.pointer (some ⟨g,0,none⟩)))(e:lk E u=some (.pointer (some ⟨x,0,none⟩)))
  (hg:aA w g t cs) (f:aA w x z c) (B:P.underlying ty=some d) (j:P.underlying y=some b) (hd:(match d with|.struct _|.array _ _=>true|_=>false)=true) (l:(match b with|.struct _|.array _ _=>true|_=>false)=true)
  (C:(P.info? ty).map (·.size)=some cs.size) (m:(P.info? y).map (·.size)=some c.size) (F:R (.returned (.tuple #[.agg cs,.agg c])) w):NX n (bodyPost P fn R .ret) E w :=
 fun a r=>⟨r.df,_,aFs h a.tmps w d b (r.at' p _ A) hg B hd C (r.at' u _ e) f j l m,F⟩
def acy(p:Part){a1 a2:Option Addr}{n1 c1 n2 c2:Nat}:∀u∈(dz p (.slice a1 n1 c1) (.slice a2 n2 c2)).toList,u.oneCell'=true:=by intro u h;simp[dz]at h;rcases h with rfl|rfl|rfl|rfl|rfl|rfl<;>rfl
def ah9(p:Part):fc p<64:=zF p _
def uF:(Tryz.prog.info? 51).bind (·.zero)=some (.agg jV):=by kernel_rfl
def cu:(Tryz.prog.info? 51).map (·.size)=some 6:=by kernel_rfl
def awE(a b c:Int):um Tryz.prog 110 [(0,.int .i64 a),(3,.int .i64 b),(4,.int .i64 c)]=some (eY (rep a 0 b c)):=by kernel_rfl
def avu{c a f:World}{p:Part}{S1 S2:Value}(G:dZ c M)(hb:Below c.heap.size c a)(y:R a (fun _=>False) (ak p.core.cells) S1)(z:R a (fun _=>False) (ak p.ai) S2)(A:Qz c.heap.size a S1 2)(B:Qz c.heap.size a S2 2)(C:afy S1 S2)
  (F:p.core.kind.size<=maxLen) (H:IntKind.i64.min<=p.core.count/\p.core.count<=IntKind.i64.max) (U:aA f a.heap.size 51 (dz p S1 S2)) (I:Below a.heap.size a f) (V:a.heap.size<f.heap.size) :
  PB (fun b=>c.heap.size<=b/\b<f.heap.size) f a.heap.size S2 p/\lE (fun b=>c.heap.size<=b/\b<f.heap.size) f a.heap.size S1 (GU p.core.cells)/\(∀b,dS S1 b->¬dS S2 b):=by
 have r:R a (fun _=>False) (.sl ((GU p.core.cells).map uK)) S1:=by rw[alW];exact y
 have j:R a (fun _=>False) (.sl ((qp p.ai).map uK)) S2:=by rw[alY];exact z
 have q1:=afV (K:=fun b=>c.heap.size<=b/\b<a.heap.size) (g:=a.heap.size) r A (fun b l m=>⟨l,m⟩) (fun b l m=>by omega);have q2:=afV (K:=fun b=>c.heap.size<=b/\b<a.heap.size) (g:=a.heap.size) j B (fun b l m=>⟨l,m⟩) (fun b l m=>by omega);have O:lE (fun b=>c.heap.size<=b/\b<f.heap.size) f a.heap.size S1 (GU p.core.cells):=q1.keep (fun b J=>I.block b (q1.out J).2.2) fun b h=>⟨h.1,by have:=h.2;omega⟩;have W:lE (fun b=>c.heap.size<=b/\b<f.heap.size) f a.heap.size S2 (qp p.ai):=q2.keep (fun b J=>I.block b (q2.out J).2.2) fun b h=>⟨h.1,by have:=h.2;omega⟩;have T:∀b,dS S1 b->¬dS S2 b:=fun b ⟨o,s,len,cap,e,X⟩ ⟨Y,Z,t,u,j,N⟩=>C b o s len cap b Y Z t u e X j N rfl;have x:Below c.heap.size c f:=bt hb I;exact⟨⟨⟨G.2.1.keep fun k j=>x.block k (ek j G.2.2),dV G.2.2 x.size⟩,fun b h=>⟨dV G.2.2 h.1,h.2⟩,⟨hb.size,V⟩,⟨S1,U,O,T⟩,W,F,H⟩,O,T⟩
end
section
open Go.RowKit
variable [GC]
def I8(rows:List (List D))(k:Nat):Int:=match rows[k]? with
 |some [.int _ n]=>n
 |_=>0
def aGA(h c:Int):Int:=bits .and .i64 (wrap64 (wrap64 (wrap64 (h*167)+c)+29)) 1073741823
def He(rows:List (List D)):Nat->Int
 |0=>wrap64 (739391+wrap64 (3*rows.length))
 |k+1=>aGA (He rows k) (I8 rows k)
def aCR(rows:List (List D))(hty:∀r∈rows,∃n,r=[.int .u8 n])(a:Option Addr)(cap:Nat)(w:World)(hl:rows.length<=maxLen)(hr:∀k,k<rows.length->∃b o,a=some ⟨b,o,none⟩/\w.cell? ⟨b,o+k,none⟩=some (.int .u8 (I8 rows k))/\0<=I8 rows k/\I8 rows k<=255) :
  Calls Tryz.prog 12 #[.slice a rows.length cap] w fun e w'=>∃h:Int,∃n:Nat,n=min rows.length 4000/\h=He rows n/\e=.returned (.pointer (some ⟨w.heap.size,0,none⟩))/\w'.heap[w.heap.size]? =some (.cells #[.slice a rows.length cap,.int .i64 0,.int .i64 h] 77 (0,0))/\Below w.heap.size w w':=by
 go_enter Tryz.func12,Tryz.ntmps12;go_wp2_with fail;go_loop [3,4] (fun h i=>∃k:Nat,k<=rows.length/\k<=4000/\i=.int .i64 k/\h=.int .i64 (He rows k)) (fun _ i=>4001-(intOf i).toNat)
 case atStart=>exact⟨0,by omega,by omega,rfl,rfl⟩
 case round=>
  obtain⟨k,hk,hk',rfl,rfl⟩:=hrel;by_cases hlt:k<rows.length
  ·obtain⟨b,o,rfl,hc,hb⟩:=hr k hlt;by_cases h4:k<4000
   ·go_wp2;exact⟨⟨k+1,by omega,by omega,by simp,rfl⟩,by simp[intOf];omega⟩
   ·obtain rfl:k=4000:=by omega
    go_wp2;go_ret;refine⟨rfl,?_,by go_grown⟩;exact vB _ _
  ·obtain rfl:k=rows.length:=by omega
   go_wp2;go_ret;refine⟨rfl,?_,by go_grown⟩;exact vB _ _
def aGB(rows:List (List D)):∀n,IntKind.i64.min<=He rows n/\He rows n<=IntKind.i64.max
 |0=>by
  have e:IntKind.i64.min= -9223372036854775808/\IntKind.i64.max=9223372036854775807:=by decide
  rw[e.1,e.2];unfold He wrap64;omega
 |n+1=>by show IntKind.i64.min<=IntKind.i64.wrap _/\IntKind.i64.wrap _<=IntKind.i64.max;exact I0 _ _
def axK(rows:List (List D))(hty:∀r∈rows,∃n,r=[.int .u8 n]):Qw Tryz.prog 12 [.sl rows] [.sl rows,.int .i64 0,.int .i64 (He rows (min rows.length 4000))]:=by
 refine⟨by kernel_rfl,fun w M V y z=> ?_⟩;have W:=y.1;obtain⟨v,q,rfl,F,rfl⟩:=z;have A:=F;obtain⟨a,len,cap,rfl,l,N,O,f,c⟩:=F;subst l;refine(aCR rows hty a cap w (by omega) fun k G=> ?_).mono ?_
 ·rcases a with _|⟨b,o,s⟩
  ·have:=f rfl;omega
  ·obtain⟨B,C⟩:=c b o s rfl;have B:=B (by omega);subst B;have j:rows[k]? =some rows[k]:=bX G;obtain⟨n,H⟩:=hty rows[k] (uZ G);have I:=C.get (n:=1) (fun r z=>by obtain⟨m,rfl⟩:=hty r z;rfl) j;rw[H]at I;obtain⟨⟨u,T,_,U,J⟩,_⟩:=I;subst U;have x:I8 rows k=n:=by unfold I8;rw[j,H]
   rw[x];refine⟨b,o,rfl,by simpa using T,?_⟩;have e:IntKind.u8.min=0/\IntKind.u8.max=255:=by decide
   rw[e.1,e.2]at J;exact J
 ·rintro e w' ⟨h,n,rfl,rfl,rfl,t,x⟩;refine⟨w.heap.size,_,_,rfl,bK _,t,?_,x⟩;refine⟨_,_,rfl,R.keep (bR.below x fun p X h=> ?_) _ _ A,_,_,rfl,⟨rfl,by decide⟩,_,_,rfl,⟨rfl,aGB _ _⟩,rfl⟩;rcases h with h|h
  ·exact h
  ·omega
end
variable {q:ByteArray->Bool}{r:D}{env':D->List (List D)->Int->Int->List D}{Q:D->List D->Prop}{T:D->Prop}{f:FuncId}{rows:List (List D)}{L:List (List D->Prop)}{t:List (Nat×Nat)}{l:List Cell}{cs env xs:List D}{args bx:List E}{Γ:List VT}{vt:VT}
section
open Go.RowKit Go
variable [GC]
def oC:List CT:=[.sl 5,.int .i64,.int .i64]
def VJ:aJ.tab 5=[.int .u8]:=by kernel_rfl
def qD(cs:List D):Prop:=∃r i h,cs=[.sl r,.int .i64 i,.int .i64 h]/\da aJ.tab [.int .u8] r/\0<=i
def qD.ty(h:qD cs):bE aJ.tab oC cs:=by obtain⟨r,i,h,rfl,a,_⟩:=h;refine⟨?_,rfl,rfl,trivial⟩;show da _ (aJ.tab _) _;rw[VJ];exact a
def Dr(f:FuncId)(xs:List D)(T:D->Prop):Prop:=∀a,qD a->∃r c,T r/\qD c/\aG Tryz.prog f (some a) xs r c
def auz{V:VC}(m:rH Tryz.prog aJ pN f (some oC)=V)(a:V.ok=true)(b:rG Tryz.prog aJ f (some oC)=Γ)
  (hty:∀cs,bE aJ.tab oC cs->fK aJ.tab Γ (xs++cs)) (r0:D) (t:T r0)
  (e:∀rows i h,dC xs->(rows.length:Int)<=9223372036854775807->da aJ.tab [.int .u8] rows->0<=i->V.den Tryz.prog aJ.tab (xs++[.sl rows,.int .i64 i,.int .i64 h]) (fun d bs=>T d/\qD bs) []):Dr f xs T:=by
 intro cs l;have c:=l;obtain⟨rows,i,h,rfl,u,x⟩:=l;obtain⟨⟨r,j⟩,⟨q1,q2⟩,q3⟩:=auH (T:=fun d bs=>T d/\qD bs) (r0:=(r0,[.sl rows,.int .i64 i,.int .i64 h])) m a b Ck mo ⟨t,c⟩ (bc:=some [.sl rows,.int .i64 i,.int .i64 h]) (ds:=xs) rfl (hty _ c.ty) (fun h=>by cases h)
  (fun y z=>e rows i h y (by simp[dC,Fits,maxLen]at z;omega) u x)
 exact⟨r,j,q1,q2,q3⟩
def wN(f:FuncId)(xs:List D)(T:D->Prop)(t:List (Nat×Nat)):Prop:=∀a,qD a->∃r c,T r/\qD c/\dN Tryz.prog f (some a) xs r c t
def Dr.fZ(h:wN f xs T t):Dr f xs T:=fun a b=>by obtain⟨r,c,e,j,l⟩:=h a b;exact⟨r,c,e,j,.fZ l⟩
def auy{V:VC}{l:List (Nat×Nat)}(u:rH Tryz.prog aJ pN f (some oC)=V)(t:pN.get f=l)(a:V.ok=true)(b:rG Tryz.prog aJ f (some oC)=Γ)
  (hty:∀cs,bE aJ.tab oC cs->fK aJ.tab Γ (xs++cs)) (r0:D) (x:T r0)
  (e:∀rows i h,dC xs->(rows.length:Int)<=9223372036854775807->da aJ.tab [.int .u8] rows->0<=i->V.den Tryz.prog aJ.tab (xs++[.sl rows,.int .i64 i,.int .i64 h]) (fun d bs=>T d/\qD bs) []):wN f xs T l:=by
 intro cs m;have c:=m;obtain⟨rows,i,h,rfl,y,z⟩:=m;obtain⟨⟨r,j⟩,⟨q1,q2⟩,q3⟩:=XW (T:=fun d bs=>T d/\qD bs) (r0:=(r0,[.sl rows,.int .i64 i,.int .i64 h])) u a b Ck mo ⟨x,c⟩ (bc:=some [.sl rows,.int .i64 i,.int .i64 h]) (ds:=xs) rfl (hty _ c.ty) (fun h=>by cases h)
  (fun A B=>e rows i h A (by simp[dC,Fits,maxLen]at B;omega) y z)
 exact⟨r,j,q1,q2,t▸q3⟩
def lC(V:VC)(Γ:List VT){xs:List D}{T:D->Prop}(hty:∀cs,bE aJ.tab oC cs->fK aJ.tab Γ (xs++cs))(r0:D)(c:T r0)
  (e:∀rows i h,dC xs->(rows.length:Int)<=9223372036854775807->da aJ.tab [.int .u8] rows->0<=i->V.den Tryz.prog aJ.tab (xs++[.sl rows,.int .i64 i,.int .i64 h]) (fun d bs=>T d/\qD bs) []) (j:rH Tryz.prog aJ pN f (some oC)=V:=by kernel_rfl) (a:rG Tryz.prog aJ f (some oC)=Γ:=by kernel_rfl) (b:V.ok=true:=by rfl):Dr f xs T:=auz j b a hty r0 c e
def EU(V:VC)(Γ:List VT){xs:List D}{T:D->Prop}{t:List (Nat×Nat)}(hty:∀cs,bE aJ.tab oC cs->fK aJ.tab Γ (xs++cs))(r0:D)(c:T r0)
  (e:∀rows i h,dC xs->(rows.length:Int)<=9223372036854775807->da aJ.tab [.int .u8] rows->0<=i->V.den Tryz.prog aJ.tab (xs++[.sl rows,.int .i64 i,.int .i64 h]) (fun d bs=>T d/\qD bs) []) (j:rH Tryz.prog aJ pN f (some oC)=V:=by kernel_rfl) (a:rG Tryz.prog aJ f (some oC)=Γ:=by kernel_rfl) (r:pN.get f=t:=by kernel_rfl) (b:V.ok=true:=by rfl):wN f xs T t:=auy j r b a hty r0 c e
def ayF{k:VC}{a:List (Nat×Nat)}
  (hb:bx.map (·.den env)=cs) (ha:args.map (·.den env)=xs) (c:qD cs) (b:wN f xs T a) (e:∀r,T r->bH aJ.tab vt r)
  (j:∀r rows i h,T r->da aJ.tab [.int .u8] rows->0<=i->k.den Tryz.prog aJ.tab (env++[r,.sl rows,.int .i64 i,.int .i64 h]) Q L):(VC.rq (.cM f (some bx) args vt oC a) k).den Tryz.prog aJ.tab env Q L:=by
 obtain⟨r,l,q1,q2,q3⟩:=b cs c;have t:=q2.ty;obtain⟨rows,i,h,rfl,m,u⟩:=q2;exact⟨r,_,e r q1,t,by rw[<-hb, <-ha]at q3;exact q3,j r rows i h q1 m u⟩
def vG{gs:Gd}{k:VC}
  (hb:bx.map (·.den env)=cs) (ha:args.map (·.den env)=xs) (c:qD cs) (a:Dr f xs T) (b:∀r,T r->bH aJ.tab vt r)
  (e:∀r rows i h,T r->da aJ.tab [.int .u8] rows->0<=i->k.den Tryz.prog aJ.tab (env++[r,.sl rows,.int .i64 i,.int .i64 h]) Q L):(VC.rq (.call gs f (some bx) args vt oC) k).den Tryz.prog aJ.tab env Q L:=by
 obtain⟨r,j,q1,q2,q3⟩:=a cs c;have t:=q2.ty;obtain⟨rows,i,h,rfl,l,m⟩:=q2;exact⟨r,_,b r q1,t,fun _=>by rw[<-hb, <-ha]at q3;exact q3,e r rows i h q1 l m⟩
def cr{k:VC}{gs:Gd}
  (a:Dr f xs T) (b:∀r,T r->bH aJ.tab vt r) (c:∀r rows i h,T r->da aJ.tab [.int .u8] rows->0<=i->k.den Tryz.prog aJ.tab (env' r rows i h) Q L)
  (hb:bx.map (·.den env)=cs:=by(first|(simp only[gS];done)|(simp only[gS];exact rfl)|(simp only[gS,cS];try exact rfl))) (ha:args.map (·.den env)=xs:=by(first|(simp only[gS];done)|(simp only[gS];exact rfl)|(simp only[gS,cS];try exact rfl))) (e:qD cs:=by exact⟨_,_,_,rfl,by assumption,by assumption⟩)
  (j:∀r rows i h,env++[r,.sl rows,.int .i64 i,.int .i64 h]=env' r rows i h:=by(intro r rows i h;simp only[cA];try exact rfl)):(VC.rq (.call gs f (some bx) args vt oC) k).den Tryz.prog aJ.tab env Q L:=vG hb ha e a b fun r rows i h l m t=>by rw[j];exact c r rows i h l m t
def Ba{k:VC}
  (a:wN f xs T t) (b:∀r,T r->bH aJ.tab vt r) (c:∀r rows i h,T r->da aJ.tab [.int .u8] rows->0<=i->k.den Tryz.prog aJ.tab (env' r rows i h) Q L)
  (hb:bx.map (·.den env)=cs:=by(first|(simp only[gS];done)|(simp only[gS];exact rfl)|(simp only[gS,cS];try exact rfl))) (ha:args.map (·.den env)=xs:=by(first|(simp only[gS];done)|(simp only[gS];exact rfl)|(simp only[gS,cS];try exact rfl))) (e:qD cs:=by exact⟨_,_,_,rfl,by assumption,by assumption⟩)
  (j:∀r rows i h,env++[r,.sl rows,.int .i64 i,.int .i64 h]=env' r rows i h:=by(intro r rows i h;simp only[cA];try exact rfl)):(VC.rq (.cM f (some bx) args vt oC t) k).den Tryz.prog aJ.tab env Q L:=ayF hb ha e a b fun r rows i h l m u=>by rw[j];exact c r rows i h l m u
def vY(r:D):Prop:=∃x,r=.int .i64 x
def agk(x:Int):0<=dQ .and .i64 x 255/\dQ .and .i64 x 255<=255:=by
 have h:((BitVec.ofInt 64 x &&& BitVec.ofInt 64 255).toNat:Int)<=255:=by
  rw[BitVec.toNat_and];have:(BitVec.ofInt 64 x).toNat &&& (BitVec.ofInt 64 255).toNat<=(BitVec.ofInt 64 255).toNat:=Nat.and_le_right;have e:(BitVec.ofInt 64 255).toNat=255:=by decide
  omega
 show 0<=IntKind.i64.wrap ((BitVec.ofInt 64 x &&& BitVec.ofInt 64 255).toNat:Int)/\IntKind.i64.wrap ((BitVec.ofInt 64 x &&& BitVec.ofInt 64 255).toNat:Int)<=255;rw[wrap_i64 (by omega) (by omega)];omega
def SK:Dr 67 [] (fun r=>∃x,r=.int .i64 x/\0<=x/\x<=255):=by
 refine lC apQ aI1 (fun j h=> ?_) (.int .i64 0) ⟨0,rfl,by omega,by omega⟩ fun e i h t u l m=> ?_
 ·obtain⟨e,i,h,rfl,f⟩:∃a b c,j=[a,b,c]/\bE aJ.tab oC [a,b,c]:=by
   match j,h with|[a,b,c],h=>exact⟨a,b,c,rfl,h⟩
  exact⟨f.1,f.2.1,f.2.2.1,trivial⟩
 unfold apQ;refine aQ (fun _=>rfl) (aQ (fun _=>rfl) (aj (fun h=> ?_) (fun h=> ?_)))
 ·simp[E.den,bg,cK]at h;refine aQ (fun _=> ?_) ?_
  ·simp[E.den,cK];omega
  ·refine⟨⟨_,rfl,agk _⟩,e,_,_,rfl,l,?_⟩;simp only[E.den,ud,tZ,iw,gQ];rw[bF];omega
 ·exact⟨⟨_,rfl,agk _⟩,e,_,_,rfl,l,m⟩
def ji(h:bE aJ.tab oC cs):fK aJ.tab [.one (.c (.sl 5)),.one (.c (.int .i64)),.one (.c (.int .i64))] cs:=by
 match cs,h with|[a,b,c],h=>exact⟨h.1,h.2.1,h.2.2.1,trivial⟩
def oL(r:D):Prop:=∃b,r=.bool b
def jC(n:Int)(r:D):Prop:=∃x,r=.int .i64 x/\0<=x/\(0<n->x<n)
def BL(r:D):Prop:=∃v:lQ,r=enc v
def vY.ty(h:vY r):bH aJ.tab (.one (.c (.int .i64))) r:=by obtain⟨x,rfl⟩:=h;rfl
def oL.ty(h:oL r):bH aJ.tab (.one (.c .bool)) r:=by obtain⟨x,rfl⟩:=h;trivial
def jC.ty{n:Int}(h:jC n r):bH aJ.tab (.one (.c (.int .i64))) r:=by obtain⟨x,rfl,_⟩:=h;rfl
def BL.ty(h:BL r):bH aJ.tab (.one (.agg [.int .i64,.int .i64])) r:=by obtain⟨v,rfl⟩:=h;exact En v
def Sv(h:∃x,r=.int .i64 x/\0<=x/\x<=255):bH aJ.tab (.one (.c (.int .i64))) r:=by obtain⟨x,rfl,_⟩:=h;rfl
def rem_in{x n:Int}(hx:0<=x)(h:0<n):0<=dQ .rem .i64 x n/\dQ .rem .i64 x n<n:=⟨Yr _ hx,Int.tmod_lt_of_pos _ h⟩
def agn{x y:Int}(h1: -9223372036854775808<=x*y)(h2:x*y<=9223372036854775807):dQ .mul .i64 x y=x*y:=wrap_i64 h1 h2
def mA(n:Int):Dr 36 [.int .i64 n] (jC n):=by
 refine lC apP aI0 (fun l h=>by exact⟨rfl,ji h⟩) (.int .i64 0) ⟨0,rfl,by omega,fun h=>h⟩ fun r i c m t a b=> ?_;(simp only[cA]);unfold apP;apply aj<;>intro h
 ·simp[E.den,bg]at h;exact⟨⟨_,rfl,by omega,by omega⟩,_,_,_,rfl,a,b⟩
 simp[E.den,bg]at h;apply aj<;>intro u
 ·(refine cr (SK) (fun _ h=>Sv h) ?_;rintro _ r i c ⟨x,rfl,f⟩ a b)
  refine aQ (fun _=> ?_) ?_
  ·simp[E.den,bg];omega
  exact⟨⟨_,rfl,(rem_in f.1 h).1,fun _=>(rem_in f.1 h).2⟩,_,_,_,rfl,a,b⟩
 ·(refine cr (SK) (fun _ h=>Sv h) ?_;rintro _ r i c ⟨x,rfl,f⟩ a b)
  (refine cr (SK) (fun _ h=>Sv h) ?_;rintro _ r i c ⟨y,rfl,A⟩ a b)
  (refine cr (SK) (fun _ h=>Sv h) ?_;rintro _ r i c ⟨z,rfl,B⟩ a b)
  refine aQ (fun _=> ?_) ?_
  ·simp[E.den,bg];omega
  have e:dQ .add .i64 (dQ .add .i64 (dQ .mul .i64 x 65536) (dQ .mul .i64 y 256)) z=x*65536+y*256+z:=by rw[agn (x:=x) (by omega) (by omega),agn (x:=y) (by omega) (by omega),bF (x:=x*65536) (y:=y*256),bF]
  have j:=rem_in (x:=dQ .add .i64 (dQ .add .i64 (dQ .mul .i64 x 65536) (dQ .mul .i64 y 256)) z) (n:=n) (by rw[e];omega) h;exact⟨⟨_,rfl,j.1,fun _=>j.2⟩,_,_,_,rfl,a,b⟩
def qN(n:Int):Dr 35 [.int .i64 n] oL:=by
 refine lC apV aI6 (fun e h=>by exact⟨rfl,ji h⟩) (.bool false) ⟨_,rfl⟩ fun r i c f l a b=> ?_;(simp only[cA]);unfold apV
 (refine cr (mA _) (fun _ h=>jC.ty h) ?_;rintro _ r i c ⟨x,rfl,j⟩ a b)
 exact⟨⟨_,rfl⟩,_,_,_,rfl,a,b⟩
def ayp:Dr 174 [] (jC 64):=by
 refine lC ap0 aJb (fun f h=>by exact ji h) (.int .i64 0) ⟨_,rfl,by omega,fun _=>by omega⟩ fun r i c j l a b=> ?_;(simp only[cA]);unfold ap0
 (refine cr (mA _) (fun _ h=>jC.ty h) ?_;rintro _ r i c ⟨x,rfl,e⟩ a b)
 exact⟨⟨_,rfl,e⟩,_,_,_,rfl,a,b⟩
def vW(l:List Int):D:=.sl (l.map fun n=>[.int .i64 n])
def aHf:aJ.tab 3=[.int .i64]:=by kernel_rfl
def akp(l:List Int):bH aJ.tab (.one (.c (.sl 3))) (vW l):=by show da _ (aJ.tab _) _;rw[aHf];exact sV fun r h=>by obtain⟨n,_,rfl⟩:=fN.1 h;exact⟨rfl,trivial⟩
def ZB(l:List Int)(t:0<l.length):Dr 33 [vW l] vY:=by
 refine lC VZ an5 (fun u h=>by exact⟨akp l,ji h⟩) (.int .i64 0) ⟨_,rfl⟩ fun r i c f y a b=> ?_;(simp only[cA]);unfold VZ;have z:(l.length:Int)<=9223372036854775807:=by simp[dC,Fits,vW,maxLen]at f;omega
 have B:Dr 36 [.int .i64 (cK (vW l))] (jC l.length):=by have:=mA l.length;simpa[vW,cK]using this
 (refine cr (B) (fun _ h=>jC.ty h) ?_;rintro _ r i c ⟨x,rfl,j⟩ a b)
 refine aQ (fun _=> ?_) ?_
 ·simp[E.den,vW,cK];omega
 have m:=j.2 (by omega);have e:l[x.toNat]? =some l[x.toNat]:=bX (by omega);refine⟨⟨l[x.toNat],?_⟩,_,_,_,rfl,a,b⟩;simp[E.den,vW,e]
def ZC:Dr 176 [] vY:=by
 refine lC apU aI5 (fun e h=>by exact ji h) (.int .i64 0) ⟨_,rfl⟩ fun r i c f l a b=> ?_;(simp only[cA]);unfold apU
 (refine cr (ZB [-1,0,1,2,3,4,5,6,7,63,64,99,100,999,1000,9223372036854775807, -9223372036854775808] (by decide)) (fun _ h=>vY.ty h) ?_;rintro _ r i c ⟨x,rfl⟩ a b)
 exact⟨⟨_,rfl⟩,_,_,_,rfl,a,b⟩
def ahw:Dr 163 [] vY:=by
 refine lC apZ aJa (fun f h=>by exact ji h) (.int .i64 0) ⟨_,rfl⟩ fun r i e j l a c=> ?_;(simp only[cA]);unfold apZ
 (refine cr (qN _) (fun _ h=>oL.ty h) ?_;rintro _ r i e ⟨b,rfl⟩ a c)
 apply aj<;>intro h
 ·(refine cr (ZB [-1,64,65,1000,9223372036854775807, -9223372036854775808] (by decide)) (fun _ h=>vY.ty h) ?_;rintro _ r i e ⟨x,rfl⟩ a c)
  exact⟨⟨_,rfl⟩,_,_,_,rfl,a,c⟩
 ·(refine cr (ayp) (fun _ h=>jC.ty h) ?_;rintro _ r i e ⟨x,rfl,m⟩ a c)
  exact⟨⟨_,rfl⟩,_,_,_,rfl,a,c⟩
def ayu:Dr 175 [] BL:=by
 refine lC aql aJw (fun e h=>by exact ji h) (enc (default:lQ)) ⟨_,rfl⟩ fun r i c f l a b=> ?_;(simp only[cA]);unfold aql
 (refine cr (mA _) (fun _ h=>jC.ty h) ?_;rintro _ r i c ⟨x,rfl,j⟩ a b)
 (refine cr (mA _) (fun _ h=>jC.ty h) ?_;rintro _ r i c ⟨y,rfl,m⟩ a b)
 exact⟨⟨⟨_,_⟩,rfl⟩,_,_,_,rfl,a,b⟩
def SL:Dr 164 [] BL:=by
 refine lC aqk aJv (fun j h=>by exact ji h) (enc (default:lQ)) ⟨_,rfl⟩ fun r i e l m a c=> ?_;(simp only[cA]);unfold aqk
 (refine cr (ayu) (fun _ h=>BL.ty h) ?_;rintro _ r i e ⟨v,rfl⟩ a c)
 (refine cr (qN _) (fun _ h=>oL.ty h) ?_;rintro _ r i e ⟨b,rfl⟩ a c)
 apply aj<;>intro h
 ·(refine cr (ZC) (fun _ h=>vY.ty h) ?_;rintro _ r i e ⟨x,rfl⟩ a c)
  (refine cr (qN _) (fun _ h=>oL.ty h) ?_;rintro _ r i e ⟨f,rfl⟩ a c)
  apply aj<;>intro h
  ·(refine cr (ZC) (fun _ h=>vY.ty h) ?_;rintro _ r i e ⟨y,rfl⟩ a c)
   exact⟨⟨⟨y,x⟩,rfl⟩,_,_,_,rfl,a,c⟩
  ·exact⟨⟨⟨v.mH,x⟩,rfl⟩,_,_,_,rfl,a,c⟩
 ·(refine cr (qN _) (fun _ h=>oL.ty h) ?_;rintro _ r i e ⟨f,rfl⟩ a c)
  apply aj<;>intro h
  ·(refine cr (ZC) (fun _ h=>vY.ty h) ?_;rintro _ r i e ⟨y,rfl⟩ a c)
   exact⟨⟨⟨y,v.min⟩,rfl⟩,_,_,_,rfl,a,c⟩
  ·exact⟨⟨v,rfl⟩,_,_,_,rfl,a,c⟩
def aFA(h:da aJ.tab [.int .u8] rows):∀r∈rows,∃n,r=[.int .u8 n]:=by
 intro r a;have:=h.mem r a
 match r,this with
 |[d],this=>obtain⟨n,rfl⟩:=zK this.1;exact⟨n,rfl⟩
def ayG{k:VC}(ha:args.map (·.den env)=[.sl rows])(h:da aJ.tab [.int .u8] rows)
  (a:∀b,k.den Tryz.prog aJ.tab (env++[.sl rows,.int .i64 0,.int .i64 b]) Q L):(VC.rq (.new 12 args oC) k).den Tryz.prog aJ.tab env Q L :=
 ⟨_,qD.ty ⟨rows,0,_,rfl,h,QM _⟩,by rw[ha];exact axK rows (aFA h),a _⟩
def isS(r:D):Prop:=∃s:ByteArray,r=.str s
def isS.ty(h:isS r):bH aJ.tab (.one (.c .str)) r:=by obtain⟨x,rfl⟩:=h;trivial
def ac8:List D->Bool
 |[.str _]=>true
 |_=>false
def ane{r:List D}(h:ac8 r=true):∃s,r=[.str s]:=by
 match r,h with
 |[.str s],_=>exact⟨s,rfl⟩
def uu(a:List (List D))(B:0<a.length)(m:a.all ac8=true):Dr 44 [.sl a] isS:=by
 have c:∀r∈a,∃s,r=[.str s]:=fun r b=>ane (fM.1 m r b);have t:bH aJ.tab (.one (.c (.sl 9))) (.sl a):=by show da _ (aJ.tab _) _;rw[OP];exact sV fun r b=>by obtain⟨s,rfl⟩:=c r b;exact⟨trivial,trivial⟩
 refine lC Eo VS (fun C h=>by exact⟨t,ji h⟩) (.str cL) ⟨_,rfl⟩ fun f i u y F b l=> ?_;(simp only[cA]);unfold Eo;have G:(a.length:Int)<=9223372036854775807:=by simp[dC,Fits,maxLen]at y;omega
 (refine cr (mA a.length) (fun _ h=>jC.ty h) ?_ (hb:=by(simp only[gS,cK];try exact rfl)) (ha:=by(simp only[gS,cK];try exact rfl));rintro _ f i u ⟨x,rfl,z⟩ b l)
 refine aQ (fun _=> ?_) ?_
 ·simp[E.den,cK];omega
 have A:=z.2 (by omega);have e:a[x.toNat]? =some a[x.toNat]:=bX (by omega);obtain⟨s,j⟩:=c _ (uZ (show x.toNat<a.length by omega));refine⟨⟨s,?_⟩,_,_,_,rfl,b,l⟩;simp[E.den,e,j]
def Og(l:List Int)(r:D):Prop:=∃x,r=.int .i64 x/\x∈l
def Og.ty{l:List Int}(h:Og l r):bH aJ.tab (.one (.c (.int .i64))) r:=by obtain⟨x,rfl,_⟩:=h;rfl
def aht(l:List Int)(t:0<l.length):Dr 33 [vW l] (Og l):=by
 refine lC VZ an5 (fun u h=>by exact⟨akp l,ji h⟩) (.int .i64 l[0]) ⟨_,rfl,uZ _⟩ fun r i c f y a b=> ?_;(simp only[cA]);unfold VZ;have z:(l.length:Int)<=9223372036854775807:=by simp[dC,Fits,vW,maxLen]at f;omega
 have B:Dr 36 [.int .i64 (cK (vW l))] (jC l.length):=by have:=mA l.length;simpa[vW,cK]using this
 (refine cr (B) (fun _ h=>jC.ty h) ?_;rintro _ r i c ⟨x,rfl,j⟩ a b)
 refine aQ (fun _=> ?_) ?_
 ·simp[E.den,vW,cK];omega
 have m:=j.2 (by omega);have e:l[x.toNat]? =some l[x.toNat]:=bX (by omega);refine⟨⟨l[x.toNat],?_,uZ _⟩,_,_,_,rfl,a,b⟩;simp[E.den,vW,e]
def ZE:Dr 66 [] isS:=by
 refine lC aqp aJA (fun e h=>by exact ji h) (.str cL) ⟨_,rfl⟩ fun r i c f l a b=> ?_;(simp only[cA]);unfold aqp
 (apply vG;(focus (simp only[gS];try exact rfl));(focus (simp only[gS];try exact rfl));(focus (exact⟨_,_,_,rfl,by assumption,by assumption⟩));(focus (first|exact uu _ (by decide) rfl|exact Dr.fZ (uu _ (by decide) rfl)));(focus (exact fun _ h=>isS.ty h));rintro _ r i c ⟨s,rfl⟩ a b;(simp only[cA]))
 exact⟨⟨_,rfl⟩,_,_,_,rfl,a,b⟩
def ayr:Dr 115 [] isS:=by
 refine lC aqa aJk (fun f h=>by exact ji h) (.str cL) ⟨_,rfl⟩ fun r i e j l a c=> ?_;(simp only[cA]);unfold aqa
 (refine cr (qN _) (fun _ h=>oL.ty h) ?_;rintro _ r i e ⟨b,rfl⟩ a c)
 apply aj<;>intro h
 ·(apply vG;(focus (simp only[gS];try exact rfl));(focus (simp only[gS];try exact rfl));(focus (exact⟨_,_,_,rfl,by assumption,by assumption⟩));(focus (first|exact uu _ (by decide) rfl|exact Dr.fZ (uu _ (by decide) rfl)));(focus (exact fun _ h=>isS.ty h));rintro _ r i e ⟨s,rfl⟩ a c;(simp only[cA]))
  exact⟨⟨_,rfl⟩,_,_,_,rfl,a,c⟩
 ·(apply vG;(focus (simp only[gS];try exact rfl));(focus (simp only[gS];try exact rfl));(focus (exact⟨_,_,_,rfl,by assumption,by assumption⟩));(focus (first|exact uu _ (by decide) rfl|exact Dr.fZ (uu _ (by decide) rfl)));(focus (exact fun _ h=>isS.ty h));rintro _ r i e ⟨s,rfl⟩ a c;(simp only[cA]))
  exact⟨⟨_,rfl⟩,_,_,_,rfl,a,c⟩
def ahx:Dr 149 [] isS:=by
 refine lC aqi aJs (fun f h=>by exact ji h) (.str cL) ⟨_,rfl⟩ fun r i e j l a c=> ?_;(simp only[cA]);unfold aqi
 (refine cr (qN _) (fun _ h=>oL.ty h) ?_;rintro _ r i e ⟨b,rfl⟩ a c)
 apply aj<;>intro h
 ·(apply vG;(focus (simp only[gS];try exact rfl));(focus (simp only[gS];try exact rfl));(focus (exact⟨_,_,_,rfl,by assumption,by assumption⟩));(focus (first|exact uu _ (by decide) rfl|exact Dr.fZ (uu _ (by decide) rfl)));(focus (exact fun _ h=>isS.ty h));rintro _ r i e ⟨s,rfl⟩ a c;(simp only[cA]))
  exact⟨⟨_,rfl⟩,_,_,_,rfl,a,c⟩
 ·(apply vG;(focus (simp only[gS];try exact rfl));(focus (simp only[gS];try exact rfl));(focus (exact⟨_,_,_,rfl,by assumption,by assumption⟩));(focus (first|exact uu _ (by decide) rfl|exact Dr.fZ (uu _ (by decide) rfl)));(focus (exact fun _ h=>isS.ty h));rintro _ r i e ⟨s,rfl⟩ a c;(simp only[cA]))
  exact⟨⟨_,rfl⟩,_,_,_,rfl,a,c⟩
structure EW where
 s:ByteArray
 k:Nat
 rows:List (List D)
 i:Int
 h:Int
def EW.lay(s:EW):List D:=[.str s.s,.int .i64 s.k,.sl s.rows,.int .i64 s.i,.int .i64 s.h]
def ayt(f:Int):Dr 116 [.int .i64 f] isS:=by
 refine lC aqh aJr (fun l h=>by exact⟨rfl,ji h⟩) (.str cL) ⟨_,rfl⟩ fun r i c m t a b=> ?_;(simp only[cA]);unfold aqh
 (refine cr (ahx) (fun _ h=>isS.ty h) ?_;rintro _ r i c ⟨s,rfl⟩ a b)
 refine qO EW EW.lay (fun s=>s.k<=6/\da aJ.tab [.int .u8] s.rows/\0<=s.i) (fun s=>6-s.k) ⟨s,0,r,i,c⟩ (fun s e h=>by simp[EW.lay]at h;omega) rfl ⟨by simp,a,b⟩ ?_;rintro⟨s,k,r,i,c⟩ ⟨j,a,b⟩ -;simp only at j a b;simp only[EW.lay,gY,iw];apply aj<;>intro h
 ·simp[E.den,bg]at h;refine aH (agZ s) ?_;refine aH (wX f (mJ s)) ?_;apply aj<;>intro u
  ·exact⟨⟨_,rfl⟩,_,_,_,rfl,a,b⟩
  (refine cr (ahx) (fun _ h=>isS.ty h) ?_;rintro _ r i c ⟨e,rfl⟩ a b)
  refine⟨⟨e,k+1,r,i,c⟩,?_,⟨by simp only;omega,a,b⟩,by simp only;omega⟩;simp[E.den,EW.lay];rw[bF]
 ·exact⟨⟨_,rfl⟩,_,_,_,rfl,a,b⟩
def DI(r:D):Prop:=∃l:List ByteArray,r=ak l/\l.length<=5
def DI.ty(h:DI r):bH aJ.tab (.one (.c (.sl 9))) r:=by obtain⟨l,rfl,_⟩:=h;exact kA l
structure E5 where
 l:List ByteArray
 n:Int
 rows:List (List D)
 i:Int
 h:Int
def E5.lay(s:E5):List D:=[ak s.l,.int .i64 s.n,.sl s.rows,.int .i64 s.i,.int .i64 s.h]
def ahy:wN 74 [] DI [(0,1)]:=by
 refine EU aqj aJt (fun y h=>by exact ji h) (ak ([]:List ByteArray)) ⟨_,rfl,by simp⟩ fun r i c z A a b=> ?_;(simp only[cA]);unfold aqj
 (refine cr (ayr) (fun _ h=>isS.ty h) ?_;rintro _ r i c ⟨s,rfl⟩ a b)
 (refine cr (mA _) (fun _ h=>jC.ty h) ?_;rintro _ r i c ⟨n,rfl,j⟩ a b)
 have u:=j.2 (by omega);refine qO E5 E5.lay (fun s=>da aJ.tab [.int .u8] s.rows/\0<=s.i/\0<=s.n/\(s.l.length:Int)+s.n<=4) (fun s=>s.n.toNat) ⟨[s],n,r,i,c⟩ (fun s t h=>by simp[E5.lay]at h;rw[h.2.1]) rfl ⟨a,b,j.1,by simp;omega⟩ ?_;rintro⟨l,m,r,i,c⟩ ⟨a,b,x,e⟩ -;simp only at a b x e;simp only[E5.lay,gY,iw];apply aj<;>intro h
 ·simp[E.den,bg]at h;refine aH (Dg l) ?_
  (refine cr (ayt _) (fun _ h=>isS.ty h) ?_;rintro _ r i c ⟨t,rfl⟩ a b)
  refine aQ (fun _=> ?_) ?_
  ·simp[E.den];omega
  have f:dQ .sub .i64 m 1=m-1:=lS;refine⟨⟨l++[t],m-1,r,i,c⟩,?_,⟨a,b,by simp only;omega,by simp;omega⟩,by simp only;omega⟩;simp[E.den,E5.lay,f,ak,fP]
 ·exact⟨⟨l,rfl,by omega⟩,_,_,_,rfl,a,b⟩
structure wQ where
 k:Nat
 rows:List (List D)
 i:Int
 h:Int
def wQ.lay(s:wQ):List D:=[.int .i64 s.k,.sl s.rows,.int .i64 s.i,.int .i64 s.h]
def ahz:wN 42 [] DI [(0,1)]:=by
 refine EU V0 an7 (fun j h=>by exact ji h) (ak ([]:List ByteArray)) ⟨_,rfl,by simp⟩ fun r i c m t a b=> ?_;(simp only[cA]);unfold V0;refine qO wQ wQ.lay (fun s=>s.k<=4/\da aJ.tab [.int .u8] s.rows/\0<=s.i) (fun s=>4-s.k) ⟨0,r,i,c⟩ (fun s u h=>by simp[wQ.lay]at h;omega) rfl ⟨by simp,a,b⟩ ?_;rintro⟨k,r,i,c⟩ ⟨f,a,b⟩ -;simp only at f a b;simp only[wQ.lay,gY,iw];apply aj<;>intro h
 ·simp[E.den,bg]at h
  (refine Ba (ahy) (fun _ h=>DI.ty h) ?_;rintro _ r i c ⟨l,rfl,e⟩ a b)
  refine aH (Dg l) ?_;apply aj<;>intro x
  ·exact⟨⟨l,rfl,e⟩,_,_,_,rfl,a,b⟩
  refine⟨⟨k+1,r,i,c⟩,?_,⟨by simp only;omega,a,b⟩,by simp only;omega⟩;simp[E.den,wQ.lay];rw[bF]
 ·(apply vG;(focus (simp only[gS];try exact rfl));(focus (simp only[gS];try exact rfl));(focus (exact⟨_,_,_,rfl,by assumption,by assumption⟩));(focus (first|exact uu _ (by decide) rfl|exact Dr.fZ (uu _ (by decide) rfl)));(focus (exact fun _ h=>isS.ty h));rintro _ r i c ⟨s,rfl⟩ a b;(simp only[cA]))
  exact⟨⟨[s],rfl,by simp⟩,_,_,_,rfl,a,b⟩
def Uz(r:D):Prop:=∃n:mq,r=enc n
def Uz.ty(h:Uz r):bH aJ.tab (.one (.agg [.int .i64,.str,.int .i64,.int .i64])) r:=by obtain⟨n,rfl⟩:=h;exact Em n
def ayw:Dr 139 [] Uz:=by
 refine lC aqq aJB (fun e h=>by exact ji h) (enc (default:mq)) ⟨_,rfl⟩ fun r i c f l a b=> ?_;(simp only[cA]);unfold aqq
 (refine cr (ZB [1,2,2,4,8,3,16,32,5,6] (by decide)) (fun _ h=>vY.ty h) ?_;rintro _ r i c ⟨x,rfl⟩ a b)
 (refine cr (mA _) (fun _ h=>jC.ty h) ?_;rintro _ r i c ⟨y,rfl,j⟩ a b)
 (refine cr (qN _) (fun _ h=>oL.ty h) ?_;rintro _ r i c ⟨b1,rfl⟩ a b)
 apply aj<;>intro _
 ·(refine cr (ZE) (fun _ h=>isS.ty h) ?_;rintro _ r i c ⟨s,rfl⟩ a b)
  (refine cr (qN _) (fun _ h=>oL.ty h) ?_;rintro _ r i c ⟨b2,rfl⟩ a b)
  apply aj<;>intro _
  ·(refine cr (ahw) (fun _ h=>vY.ty h) ?_;rintro _ r i c ⟨z,rfl⟩ a b)
   (refine cr (qN _) (fun _ h=>oL.ty h) ?_;rintro _ r i c ⟨b3,rfl⟩ a b)
   apply aj<;>intro _
   ·(refine cr (SL) (fun _ h=>BL.ty h) ?_;rintro _ r i c ⟨v,rfl⟩ a b)
    exact⟨⟨⟨z,s,v⟩,rfl⟩,_,_,_,rfl,a,b⟩
   ·exact⟨⟨⟨z,s,⟨1,y⟩⟩,rfl⟩,_,_,_,rfl,a,b⟩
  ·(refine cr (qN _) (fun _ h=>oL.ty h) ?_;rintro _ r i c ⟨b3,rfl⟩ a b)
   apply aj<;>intro _
   ·(refine cr (SL) (fun _ h=>BL.ty h) ?_;rintro _ r i c ⟨v,rfl⟩ a b)
    exact⟨⟨⟨x,s,v⟩,rfl⟩,_,_,_,rfl,a,b⟩
   ·exact⟨⟨⟨x,s,⟨1,y⟩⟩,rfl⟩,_,_,_,rfl,a,b⟩
 ·(refine cr (qN _) (fun _ h=>oL.ty h) ?_;rintro _ r i c ⟨b2,rfl⟩ a b)
  apply aj<;>intro _
  ·(refine cr (ahw) (fun _ h=>vY.ty h) ?_;rintro _ r i c ⟨z,rfl⟩ a b)
   (refine cr (qN _) (fun _ h=>oL.ty h) ?_;rintro _ r i c ⟨b3,rfl⟩ a b)
   apply aj<;>intro _
   ·(refine cr (SL) (fun _ h=>BL.ty h) ?_;rintro _ r i c ⟨v,rfl⟩ a b)
    exact⟨⟨⟨z,cL,v⟩,rfl⟩,_,_,_,rfl,a,b⟩
   ·exact⟨⟨⟨z,cL,⟨1,y⟩⟩,rfl⟩,_,_,_,rfl,a,b⟩
  ·(refine cr (qN _) (fun _ h=>oL.ty h) ?_;rintro _ r i c ⟨b3,rfl⟩ a b)
   apply aj<;>intro _
   ·(refine cr (SL) (fun _ h=>BL.ty h) ?_;rintro _ r i c ⟨v,rfl⟩ a b)
    exact⟨⟨⟨x,cL,v⟩,rfl⟩,_,_,_,rfl,a,b⟩
   ·exact⟨⟨⟨x,cL,⟨1,y⟩⟩,rfl⟩,_,_,_,rfl,a,b⟩
structure CK where
 n:Int
 rows:List (List D)
 i:Int
 h:Int
 e:Entry
def CK.lay(s:CK):List D:=[.int .i64 s.n,.sl s.rows,.int .i64 s.i,.int .i64 s.h,.str s.e.name,ak s.e.recipe,.int .i64 s.e.jT.mH,.int .i64 s.e.jT.min,ak s.e.needs]
structure EV where
 l:List Entry
 k:Nat
 rows:List (List D)
 i:Int
 h:Int
def EV.lay(s:EV):List D:=[ak s.l,.int .i64 s.k,.sl s.rows,.int .i64 s.i,.int .i64 s.h]
def xL:List ByteArray:=[⟨#[97]⟩,⟨#[98]⟩,⟨#[99]⟩,⟨#[100]⟩,⟨#[101]⟩,⟨#[102]⟩]
def ahp(a:Γ=[.one (.c (.sl 5))]){ds:List D}(h:fK aJ.tab Γ ds):∃rows,ds=[.sl rows]/\da aJ.tab (aJ.tab 5) rows/\da aJ.tab [.int .u8] rows:=by
 subst a
 match ds,h with
 |[d],h=>obtain⟨rows,rfl,r⟩:=xj h.1;exact⟨rows,rfl,r,by rwa[VJ]at r⟩
def agw:∀{a b c:List UInt8},Op.bytesLess a b=true->Op.bytesLess b c=true->Op.bytesLess a c=true
 |_,[],_,h,_=>by simp[Op.bytesLess]at h
 |_,_::_,[],_,h=>by simp[Op.bytesLess]at h
 |[],_::_,_::_,_,_=>by simp[Op.bytesLess]
 |x::a,y::b,z::c,h1,h2=>by have ih:=@agw a b c;simp only[Op.bytesLess,jY,aY,dr,vA]at h1 h2 ⊢;grind
def aih{p:Nat->Bool}:∀{n:Nat},eH p n=none->∀i,i<n->p i=false
 |0,_,i,b=>by omega
 |n+1,h,i,b=>by
  simp only[eH]at h;split at h
  ·cases h
  ·rename_i h1;split at h
   ·cases h
   ·rename_i h2;rcases dO i n with a|a
    ·exact aih h1 i a
    ·obtain rfl:i=n:=by omega
     simpa using h2
def ak3{a b c:ByteArray}(h1:du a b=true)(h2:du b c=true):du a c=true:=agw h1 h2
def Oo(a:ByteArray):du a a=false:=by
 cases h:du a a with
 |false=>rfl
 |true=>have:=ltA h;rw[h]at this;cases this
def RT(l:List Cell):Prop:=∀i,i+1<l.length->du (nth l i).key (nth l (i+1)).key=true
def SG(h:iM l=true):RT l:=fun i a=>by
 unfold iM at h;simp only[aY]at h;have:=kC.1 h.2 (i+1) a;unfold nI at this;simp only[aY,jY,vA]at this;rcases this.2 with h|h
 ·omega
 ·exact h
def agp(h:RT l){k:ByteArray}:∀i,dG l k<i->i<l.length->du k (nth l i).key=true:=by
 intro i;induction i with
 |zero=>intro h;omega
 |succ i ih=>
  intro m j;have a:=h i j;rcases dO (dG l k) i with b|b
  ·exact ak3 (ih b (by omega)) a
  ·have e:i=dG l k:=by omega
   have c:=RW (l:=l) (k:=k) (by omega);rw[<-e]at c;by_cases f:(nth l i).key=k
   ·rw[<-f];exact a
   ·exact ak3 (ltT f c) a
def oF(l:List Cell)(k:ByteArray)(v:Int)(i:Nat):List Cell :=
 if dG l k<i then(l.take (dG l k)++[⟨k,v⟩])++(l.take i).drop (dG l k+if kG l k=true then 1 else 0)else l.take i
def azG(l:List Cell)(k:ByteArray)(v:Int):oF l k v 0=[]:=by unfold oF;simp
def adf{α:Type}[Inhabited α]{l:List α}{i:Nat}(h:i<l.length):l.take (i+1)=l.take i++[nth l i]:=by rw[Ma];simp[nth,h]
def azF{k:ByteArray}{v:Int}(h:i<dG l k)(a:i<l.length):oF l k v (i+1)=oF l k v i++[nth l i]:=by unfold oF;rw[aw (show ¬dG l k<i+1 by omega),aw (show ¬dG l k<i by omega),adf a]
def azC{k:ByteArray}{v:Int}(h:i=dG l k)(b:i<l.length):oF l k v (i+1)=if(nth l i).key=k then oF l k v i++[⟨k,v⟩]else(oF l k v i++[⟨k,v⟩])++[nth l i]:=by
 unfold oF;rw[aD (show dG l k<i+1 by omega),aw (show ¬dG l k<i by omega),adf b];by_cases e:(nth l i).key=k
 ·have a:kG l k=true:=BK.2 ⟨by omega,by rw[<-h];exact e⟩;rw[aD e,aD a,IB (by rw[jI,mO,List.length_singleton];omega)];rw[qJ,h]
 ·have a:kG l k=false:=by
   cases c:kG l k with
   |false=>rfl
   |true=>have:=(BK.1 c).2;rw[<-h]at this;exact absurd this e
  simp only[aw e,a,xZ,vC,rS];rw[agd (by rw[mO];omega),IB (by rw[mO];omega),iw,h]
def azE{k:ByteArray}{v:Int}(h:dG l k<i)(a:i<l.length):oF l k v (i+1)=oF l k v i++[nth l i]:=by unfold oF;rw[aD (show dG l k<i+1 by omega),aD h,adf a,agd (by rw[mO];split<;>omega)];simp only[iU]
def azD{k:ByteArray}{v:Int}:sB l k v=if dG l k<l.length then oF l k v l.length else oF l k v l.length++[⟨k,v⟩]:=by
 unfold oF sB;have b:=Mr l k;by_cases h:dG l k<l.length
 ·simp only[aD h,wU];by_cases a:kG l k=true
  ·rw[aD a,aD a,List.set_eq_take_append_cons_drop,aD h];simp
  ·rw[aw a,aw a,rS]
 ·have e:dG l k=l.length:=by omega
  have a:kG l k=false:=by
   cases c:kG l k with
   |false=>rfl
   |true=>have:=(BK.1 c).1;omega
  simp only[aw h,a,xZ,vC,e];simp
def GS(l:List Cell)(k:ByteArray):Int:=match eH (fun i=>decide ((nth l i).key=k)) l.length with
 |some i=>(i:Int)
 |none=> -1
def alT(h:RT l)(k:ByteArray):GS l k=if kG l k=true then((dG l k:Nat):Int)else -1:=by
 unfold GS;cases f:eH (fun i=>decide ((nth l i).key=k)) l.length with
 |none=> have j:=aih f;rw[aw];intro m;obtain⟨c,a⟩:=BK.1 m;have:=j _ c;simp at this;exact this a
 |some i=>
  obtain⟨c,a,r⟩:=xg f;have a:(nth l i).key=k:=by simpa using a
  have e:dG l k=i:=by
   rcases Fh i (dG l k)with b|b|b
   ·have:=Ms b;rw[a,Oo]at this;cases this
   ·exact b.symm
   ·have:=agp h i b c;rw[a,Oo]at this;cases this
  rw[aD (BK.2 ⟨by omega,by rw[e];exact a⟩),e]
def xx(q:ByteArray->Bool)(r:D):Prop:=∃s:ByteArray,r=.str s/\q s=true
def xx.ty(h:xx q r):bH aJ.tab (.one (.c .str)) r:=by obtain⟨x,rfl,_⟩:=h;trivial
def anc(q:ByteArray->Bool):List D->Bool
 |[.str s]=>q s
 |_=>false
def aGU{r:List D}(h:anc q r=true):∃s,r=[.str s]/\q s=true:=by
 match r,h with
 |[.str s],h=>exact⟨s,rfl,h⟩
def Jg(q:ByteArray->Bool)(m:ByteArray)(y:q m=true)(a:List (List D))(z:0<a.length)(A:a.all (anc q)=true):Dr 44 [.sl a] (xx q):=by
 have c:∀r∈a,∃s:ByteArray,r=[.str s]/\q s=true:=fun r b=>aGU (fM.1 A r b);have t:bH aJ.tab (.one (.c (.sl 9))) (.sl a):=by show da _ (aJ.tab _) _;rw[OP];exact sV fun r b=>by obtain⟨s,rfl,_⟩:=c r b;exact⟨trivial,trivial⟩
 refine lC Eo VS (fun H h=>by exact⟨t,ji h⟩) (.str m) ⟨_,rfl,y⟩ fun f i B C z b u=> ?_;(simp only[cA]);unfold Eo;have I:(a.length:Int)<=9223372036854775807:=by simp[dC,Fits,maxLen]at C;omega
 (refine cr (mA a.length) (fun _ h=>jC.ty h) ?_ (hb:=by(simp only[gS,cK];try exact rfl)) (ha:=by(simp only[gS,cK];try exact rfl));rintro _ f i B ⟨x,rfl,F⟩ b u)
 refine aQ (fun _=> ?_) ?_
 ·simp[E.den,cK];omega
 have G:=F.2 (by omega);have e:a[x.toNat]? =some a[x.toNat]:=bX (by omega);obtain⟨s,j,l⟩:=c _ (uZ (show x.toNat<a.length by omega));refine⟨⟨s,?_,l⟩,_,_,_,rfl,b,u⟩;simp[E.den,e,j]
def ZD:Dr 68 [] (xx kY):=by
 refine lC ap9 aJj (fun f h=>by exact ji h) (.str ⟨#[97]⟩) ⟨_,rfl,by kernel_rfl⟩ fun r i c j l a b=> ?_;(simp only[cA]);unfold ap9
 (apply vG;(focus (simp only[gS];try exact rfl));(focus (simp only[gS];try exact rfl));(focus (exact⟨_,_,_,rfl,by assumption,by assumption⟩));(focus (first|exact Jg kY ⟨#[97]⟩ (by kernel_rfl) _ (by decide) (by kernel_rfl)|exact Dr.fZ (Jg kY ⟨#[97]⟩ (by kernel_rfl) _ (by decide) (by kernel_rfl))));(focus (exact fun _ h=>xx.ty h));rintro _ r i c ⟨s,rfl,e⟩ a b;(simp only[cA]))
 exact⟨⟨_,rfl,e⟩,_,_,_,rfl,a,b⟩
def ag5(l:List Cell)(k:ByteArray):aG Tryz.prog 147 none [ak l,.str k] (.int .i64 (GS l k)) []:=by
 refine bZ ap3 aJd ⟨xO l,trivial,trivial⟩ fun f=> ?_;have c:l.length<=9223372036854775807:=kF f.1;unfold ap3;refine cU l.length (fun k=>[.int .i64 k]) (fun i=>∀j,j<i->decide ((nth l j).key=k)=false) rfl (fun j h=>by omega) ?_;intro i m I _;simp only[cA];apply aj<;>intro a<;>simp only[eS]at a
 ·have a:i<l.length:=by simp at a;exact a
  refine dK ?_;refine aj (fun b=>ay ?_) (fun b=> ?_)
  ·simp only[eS,rB,mz,gX]at b ⊢;have b:(nth l i).key=k:=by simpa using b
   have e:eH (fun i=>decide ((nth l i).key=k)) l.length=some i:=yt (by simpa using b) I a;unfold GS;rw[e]
  ·simp only[eS,rB,mz,gX]at b;have b:(nth l i).key≠k:=by simpa using b
   refine cJ a ?_ fun j r=> ?_
   ·simp only[eS];rw[bF];rfl
   ·rcases dO j i with h|h
    ·exact I j h
    ·obtain rfl:j=i:=by omega
     simpa using b
 ·have a:i=l.length:=by simp at a;omega
  subst a;refine ay ?_;simp only[eS];unfold GS;rw[yq I]
def ag6(l:List Cell)(k:ByteArray)(v:Int)(x:RT l)(C:l.length<=1048576):dN Tryz.prog 148 none [ak l,.str k,.int .i64 v] (ak (sB l k v)) [] [(0,2)]:=by
 refine gu aqb aJl ⟨xO l,trivial,rfl,trivial⟩ fun u=> ?_;have y:=Mr l k;unfold aqb;refine cU l.length (fun i=>[.bool (decide (dG l k<i)),ak (oF l k v i),.int .i64 i]) (fun _=>True) (by simp[E.den,azG,ak]) trivial ?_;intro i F _ _;have z:(oF l k v i).length<=i+1:=by
  unfold oF;split
  ·simp;omega
  ·simp;omega
 simp only[cA];apply aj<;>intro b<;>simp only[eS]at b
 ·have b:i<l.length:=by simp at b;exact b
  refine dK ?_;apply aj<;>intro a<;>simp only[eS,rB,mz,gX]at a
  ·have m:gz .geq (nth l i).key k= !du (nth l i).key k:=by rfl
   simp at a;have A:i=dG l k:=by
    rcases dO i (dG l k)with h|h
    ·have:=Ms h;rw[a.2]at this;cases this
    ·omega
   refine aQ (fun _=> ?_) ?_
   ·simp only[eS];simp;omega
   have c:=azC (v:=v) A b;apply aj<;>intro f<;>simp only[eS,rB,mz,gX]at f
   ·have f:(nth l i).key≠k:=by simpa using f
    rw[aw f]at c;refine aQ (fun _=> ?_) ?_
    ·simp only[eS];simp;omega
    refine cJ b ?_ trivial;rw[c,Mn (show dG l k<i+1 by omega)];simp only[eS,rB,mz,gX];rw[bF];simp[ak,mz]
   ·have f:(nth l i).key=k:=by simpa using f
    rw[aD f]at c;refine cJ b ?_ trivial;rw[c,Mn (show dG l k<i+1 by omega)];simp only[eS,rB,mz,gX];rw[bF];simp[ak,mz]
  ·have m:gz .geq (nth l i).key k= !du (nth l i).key k:=by rfl
   have r:(nth l i).key≠k:=by
    intro e;rcases Fh i (dG l k)with h|h|h
    ·have:=Ms h;rw[e,Oo]at this;cases this
    ·rw[e,Oo]at a;simp at a;omega
    ·have:=agp x i h b;rw[e,Oo]at this;cases this
   have B:i≠dG l k:=by intro e;have:=RW (l:=l) (k:=k) (by omega);rw[<-e]at this;rw[this]at a;simp at a;omega
   have c:oF l k v (i+1)=oF l k v i++[nth l i]:=by
    rcases dO i (dG l k)with h|h
    ·exact azF h b
    ·exact azE (by omega) b
   have t:decide (dG l k<i+1)=decide (dG l k<i):=YZ.2 (by omega);apply aj<;>intro f
   ·refine aQ (fun _=> ?_) ?_
    ·simp only[eS];simp;omega
    refine cJ b ?_ trivial;rw[c,t];simp only[eS,rB,mz,gX];rw[bF];simp[ak,mz]
   ·exfalso;simp only[eS,rB,mz,gX]at f;exact r (by simpa using f)
 ·have b:i=l.length:=by simp at b;omega
  subst b;have j:=azD (l:=l) (k:=k) (v:=v);apply aj<;>intro a<;>simp only[eS]at a
  ·have a:¬dG l k<l.length:=by simpa using a
   refine aQ (fun _=> ?_) (ay ?_)
   ·simp only[eS];simp;omega
   ·rw[j,aw a];simp only[eS];simp[ak,mz]
  ·have a:dG l k<l.length:=by simpa using a
   refine ay ?_;rw[j,aD a];simp only[eS]
def Uw(r:D):Prop:=∃l:List Cell,r=ak l/\iM l=true
def Uw.ty(h:Uw r):bH aJ.tab (.one (.c (.sl 107))) r:=by obtain⟨l,rfl,_⟩:=h;exact xO l
structure CJ where
 l:List Cell
 n:Int
 rows:List (List D)
 i:Int
 h:Int
def CJ.lay(s:CJ):List D:=[ak s.l,.int .i64 s.n,.sl s.rows,.int .i64 s.i,.int .i64 s.h]
def ayq:wN 111 [] Uw [(0,2)]:=by
 refine EU ap5 aJf (fun I h=>by exact ji h) (ak ([]:List Cell)) ⟨_,rfl,by decide⟩ fun r i e J c a b=> ?_;(simp only[cA]);unfold ap5
 (refine cr (mA _) (fun _ h=>jC.ty h) ?_;rintro _ r i e ⟨n,rfl,x⟩ a b)
 have A:=x.2 (by omega);refine qO CJ CJ.lay (fun s=>da aJ.tab [.int .u8] s.rows/\0<=s.i/\0<=s.n/\s.n<=6/\iM s.l=true) (fun s=>s.n.toNat) ⟨[],n,r,i,e⟩ (fun s M h=>by simp[CJ.lay]at h;rw[h.2.1]) rfl ⟨a,b,x.1,by simp only;omega,show iM []=true by decide⟩ ?_;rintro⟨l,m,r,i,e⟩ ⟨a,b,B,t,c⟩ -;simp only at a b B t c;have C:=ym c;have f:0<m->dQ .sub .i64 m 1=m-1:=fun h=>lS;simp only[CJ.lay,gY,iw];apply aj<;>intro h
 ·simp[E.den,bg]at h
  (refine cr (ZD) (fun _ h=>xx.ty h) ?_;rintro _ r i e ⟨k,rfl,F⟩ a b)
  refine aH (ag5 l k) ?_;apply aj<;>intro j
  ·simp only[eS]at j;rw[alT (SG c)]at j
   (refine cr (mA _) (fun _ h=>jC.ty h) ?_;rintro _ r i e ⟨y,rfl,z⟩ a b)
   have G:=z.2 (by omega);have u:iM (sB l k y)=true:=al8 c F (zW.2 ⟨z.1,by omega⟩) (fun H=>by rw[H.1]at j;simp at j;omega)
   refine fD (ag6 l k y (SG c) (by omega)) (hty:=xO _) ?_;refine⟨⟨sB l k y,m-1,r,i,e⟩,?_,⟨a,b,by simp only;omega,by simp only;omega,u⟩,by simp only;omega⟩;simp[E.den,CJ.lay,f h]
  ·refine⟨⟨l,m-1,r,i,e⟩,?_,⟨a,b,by simp only;omega,by simp only;omega,c⟩,by simp only;omega⟩;simp[E.den,CJ.lay,f h]
 ·exact⟨⟨l,rfl,c⟩,_,_,_,rfl,a,b⟩
def JC(s:ByteArray):Bool:=decide (s.size<=100)
def ays:Dr 69 [] (xx JC):=by
 refine lC aqd aJn (fun j h=>by exact ji h) (.str cL) ⟨_,rfl,by decide⟩ fun r i c m f a b=> ?_;(simp only[cA]);unfold aqd
 (refine Ba (ayq) (fun _ h=>Uw.ty h) ?_;rintro _ r i c ⟨l,rfl,f⟩ a b)
 refine aH (agU l) ?_;have t:=ain l
 (refine cr (mA _) (fun _ h=>jC.ty h) ?_;rintro _ r i c ⟨y,rfl,u⟩ a b)
 apply aj<;>intro h
 ·(apply vG;(focus (simp only[gS];try exact rfl));(focus (simp only[gS];try exact rfl));(focus (exact⟨_,_,_,rfl,by assumption,by assumption⟩));(focus (first|exact Jg (fun s=>decide (s.size<=40)) cL (by decide) _ (by decide) (by kernel_rfl)|exact Dr.fZ (Jg (fun s=>decide (s.size<=40)) cL (by decide) _ (by decide) (by kernel_rfl))));(focus (exact fun _ h=>xx.ty h));rintro _ r i c ⟨s,rfl,e⟩ a b;(simp only[cA]))
  have e:s.size<=40:=by simpa using e
  refine aQ (fun _=> ?_) ?_
  ·simp only[eS];refine ZF ?_;unfold maxLen;omega
  exact⟨⟨_,rfl,by unfold JC;simp only[E.den,jJ,rR,gY,iw,ud,tZ,zn,AP,dr];omega⟩,_,_,_,rfl,a,b⟩
 apply aj<;>intro h
 ·(apply vG;(focus (simp only[gS];try exact rfl));(focus (simp only[gS];try exact rfl));(focus (exact⟨_,_,_,rfl,by assumption,by assumption⟩));(focus (first|exact Jg JC cL (by decide) _ (by decide) (by kernel_rfl)|exact Dr.fZ (Jg JC cL (by decide) _ (by decide) (by kernel_rfl))));(focus (exact fun _ h=>xx.ty h));rintro _ r i c ⟨s,rfl,e⟩ a b;(simp only[cA]))
  exact⟨⟨_,rfl,e⟩,_,_,_,rfl,a,b⟩
 ·exact⟨⟨_,rfl,by unfold JC;simp;omega⟩,_,_,_,rfl,a,b⟩
end
end Go.Proofs.YtoomhbopolalnaaGreatDoor
