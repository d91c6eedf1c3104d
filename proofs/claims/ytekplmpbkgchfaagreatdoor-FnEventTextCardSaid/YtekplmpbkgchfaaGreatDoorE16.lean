/- Walks over an environment: regions whose order is left open, with stores and calls. No program in sight. -/
import Derived.Test.YtekplmpbkgchfaaGreatDoorE11
import Derived.Test.YtekplmpbkgchfaaGreatDoorE15
import Derived.Test.YtekplmpbkgchfaaGreatDoorE0
import Derived.Test.YtekplmpbkgchfaaGreatDoorE12
import Derived.Test.YtekplmpbkgchfaaGreatDoorE14
import Derived.Test.YtekplmpbkgchfaaGreatDoorE13
set_option linter.all false
set_option maxRecDepth 100000
namespace Go.Proofs.YtekplmpbkgchfaaGreatDoor
section
open Go.RowKit Go
variable [GC]
section
variable {n:Nat}{P:Program}{ops:Array Oper}{Q:Exit->Act->World->Prop}{S:World->Prop}{s k:Nat}{L:Array Bool}{E:List (Nat×Value)}{w w':World}{i d:Nat}{o:Oper}{v:Value}
def AU(n:Nat)(P:Program)(ops:Array Oper)(Q:Exit->Act->World->Prop)(S:World->Prop)(s k:Nat)(L:Array Bool)(E:List (Nat×Value))(w:World):Prop:= ∀a,Env n a E->qF P .any ops Q S s k L a w
def CW.any{id:Nat}{l:List Oper}(S:World->Prop)(s:Nat)(hm:P.follows .mixedOrders=true)(h: ∀wd:World,wd.heap=w.heap->Below w.heap.size w wd->S wd/\AU n P l.toArray Q S s l.toArray.size (Array.replicate l.toArray.size false) E wd):CW n P (.region id l.toArray true) Q E w:=fun a hE=>by have h1:=h w.drew rfl ⟨rfl,rfl,rfl,bU _,fun _ _=>rfl⟩;exact aIj S s hm h1.1 fun _=>h1.2 a hE
def AU.take(i:Nat)(hi:ops.toList[i]? =some o)(hs:Region.noSelect ops=true)(hf:Region.free .any ops L i=true)(hr:(Region.ready .any ops L).contains i=true)(hp:(preB .any ops 30 i s&& !(i==s)&&E4 .any ops L)=true)
  (hQ: ∀c a w,Q (.panic c) (a.put o.dst v) w->Q (.panic c) a w) (hg:o.guard=none) (hd:o.dst=some d) (hrun: ∀W,S W->fu n P E o W v W) (cT:d<n) (hS:S w) (h:AU n P ops Q S s k (L.setIfInBounds i true) ((d,v)::E) w):AU n P ops Q S s (k+1) L E w:=fun a hE =>
 aeY hi hs hf hr hp hQ (.inl ⟨Kb hg _,fun W hW=>hrun W hW a hE⟩) hS (by rw [hd];exact h _ (hE.put cT v))
def D3(i:Nat)(ho:ops.toList[i]? =some o)(hr:Region.ready .any ops L=[i])(hg:o.guard=none)(hd:o.dst=none)(hrun:Em n P E o w w')(hS:i≠s->S w')(h:AU n P ops Q S s k (L.setIfInBounds i true) E w'):AU n P ops Q S s (k+1) L E w:=fun a hE =>
 HL ho hr fun K' hK=>by rw [aA (Kb hg _)];unfold Oper.wp;rw [hrun a hE,Oper.upon_skip,hd];exact hK _ _ hS fun _=>h _ hE
def iE(i:Nat){T:TypeId}{x y:Operand}{b:Nat}{t:TypeId}{C cs:Array Value}(ho:ops.toList[i]? =some o)(hy:ev E y=some (.agg cs))(hb:aC w b t C)(hone: ∀u∈cs.toList,u.oneCell'=true)(hsz:(P.info? T).map (·.size)=some cs.size)(hS: ∀w',bN w w' b->i≠s->S w')(h: ∀w',aC w' b t cs->bN w w' b->AU n P ops Q S s k (L.setIfInBounds i true) E w')(hr:Region.ready .any ops L=[i]:=by kernel_rfl)(hg:o.guard=none:=by rfl)(hd:o.dst=none:=by rfl)(hop:o.op= .store T x y:=by rfl)(hx:ev E x=some (.pointer (some ⟨b,0,none⟩)):=by rfl)(hC:C.size=cs.size:=by rfl):AU n P ops Q S s (k+1) L E w:=by obtain ⟨w',h1,h2,h3⟩:=akF (n:=n) (P:=P) (E:=E) hop hx hy hsz hone hC hb;exact D3 i ho hr hg hd h1 (hS w' h3) (h w' h2 h3)
def asE(i:Nat)(ho:ops.toList[i]? =some o)(hr:Region.ready .any ops L=[i])(hg:o.guard=none)(hd:o.dst=some d)(hrun:fu n P E o w v w')(cT:d<n)(hS:i≠s->S w')(h:AU n P ops Q S s k (L.setIfInBounds i true) ((d,v)::E) w'):AU n P ops Q S s (k+1) L E w:=fun a hE =>
 HL ho hr fun K' hK=>by rw [aA (Kb hg _)];unfold Oper.wp;rw [hrun a hE,KH,hd];exact hK _ _ hS fun _=>h _ (hE.put cT v)
def AU.c(i:Nat){f:FuncId}{args:Array Value}{R:Ending->World->Prop}(ho:ops.toList[i]? =some o)(hr:Region.ready .any ops L=[i])(hg:o.guard=none)(hd:o.dst=some d)(hrun:yx n P E o w f args)(cT:d<n)(hC:Calls P f args w R)
  (h: ∀e w',R e w'-> ∃v,e= .returned v/\(i≠s->S w')/\AU n P ops Q S s k (L.setIfInBounds i true) ((d,v)::E) w'):AU n P ops Q S s (k+1) L E w:=fun a hE =>
 HL ho hr fun K' hK=>by rw [aA (Kb hg _)];unfold Oper.wp;rw [hrun a hE];refine hC.mono fun e w' he=> ?_;obtain ⟨v,rfl,hS,hv⟩:=h e w' he;rw [hd];exact hK _ _ hS fun _=>hv _ (hE.put cT v)
def jd(hr:Region.ready .any ops L=[])(h:NX n (Q .normal) E w):AU n P ops Q S s k L E w:=fun a hE=>auL hr (h a hE) k
def bh(i:Nat)(hi:ops.toList[i]? =some o)(hrun: ∀W,S W->fu n P E o W v W)(hS:S w)(h:AU n P ops Q S s k (L.setIfInBounds i true) ((d,v)::E) w)(hs:Region.noSelect ops=true:=by kernel_rfl)(hf:Region.free .any ops L i=true:=by kernel_rfl)(hr:(Region.ready .any ops L).contains i=true:=by kernel_rfl)(hp:(preB .any ops 30 i s&& !(i==s)&&E4 .any ops L)=true:=by kernel_rfl)
  (hQ: ∀c a w,Q (.panic c) (a.put o.dst v) w->Q (.panic c) a w:=by exact fun _ _ _ h=>h) (hg:o.guard=none:=by rfl) (hd:o.dst=some d:=by rfl) (cT:d<n:=by decide):AU n P ops Q S s (k+1) L E w:=AU.take i hi hs hf hr hp hQ hg hd hrun cT hS h
def eu(i:Nat)(hQ: ∀c a t v w,Q (.panic c) (Act.put a t v) w->Q (.panic c) a w)(hrun: ∀W,S W->fu n P E o W v W)(hS:S w)(h:AU n P ops Q S s k (L.setIfInBounds i true) ((d,v)::E) w)(hi:ops.toList[i]? =some o:=by kernel_rfl)(hs:Region.noSelect ops=true:=by kernel_rfl)(hf:Region.free .any ops L i=true:=by kernel_rfl)(hr:(Region.ready .any ops L).contains i=true:=by kernel_rfl)(hp:(preB .any ops 30 i s&& !(i==s)&&E4 .any ops L)=true:=by kernel_rfl)
  (hg:o.guard=none:=by kernel_rfl) (hd:o.dst=some d:=by kernel_rfl) (cT:d<n:=by decide):AU n P ops Q S s (k+1) L E w:=AU.take i hi hs hf hr hp (fun _ _ _ h=>hQ _ _ _ _ _ h) hg hd hrun cT hS h
def jo(i:Nat)(ho:ops.toList[i]? =some o)(hrun:fu n P E o w v w')(hS:i≠s->S w')(h:AU n P ops Q S s k (L.setIfInBounds i true) ((d,v)::E) w')(hr:Region.ready .any ops L=[i]:=by kernel_rfl)(hg:o.guard=none:=by rfl)(hd:o.dst=some d:=by rfl)(cT:d<n:=by decide):AU n P ops Q S s (k+1) L E w:=asE i ho hr hg hd hrun cT hS h
def pO(i:Nat){f:FuncId}{args:Array Value}{R:Ending->World->Prop}(ho:ops.toList[i]? =some o)(hC:Calls P f args w R)
  (h: ∀e w',R e w'-> ∃v,e= .returned v/\(i≠s->S w')/\AU n P ops Q S s k (L.setIfInBounds i true) ((d,v)::E) w') (hr:Region.ready .any ops L=[i]:=by kernel_rfl) (hrun:yx n P E o w f args:=by exact pI (by kernel_rfl) rfl rfl rfl) (hg:o.guard=none:=by rfl) (hd:o.dst=some d:=by rfl) (cT:d<n:=by decide):AU n P ops Q S s (k+1) L E w:=AU.c i ho hr hg hd hrun cT hC h
end
def T9{w:World}{M:Addr->Prop}{r:gJ}(h1:IntKind.i64.min<=r.code/\r.code<=IntKind.i64.max)(h2:IntKind.i64.min<=r.val/\r.val<=IntKind.i64.max)(h3:r.text.size<=maxLen)(h4:IntKind.i64.min<=r.want/\r.want<=IntKind.i64.max)(h5:IntKind.i64.min<=r.had/\r.had<=IntKind.i64.max):R w M (enc r) (akZ r) :=
 ⟨_,rfl,⟨_,_,rfl,⟨rfl,h1⟩,_,_,rfl,⟨rfl,h2⟩,_,_,rfl,⟨rfl,h3⟩,_,_,rfl,⟨rfl,h4⟩,_,_,rfl,⟨rfl,h5⟩,rfl⟩⟩
def aDA{P:Program}{fn:Func}{p u:Tmp}{ty oH:TypeId}(h:fn.results= #[.cell p ty,.cell u oH])(tmps:Array Value)(w:World){g g2:Nat}{t t2:TypeId}{cs nX:Array Value}(d d2:TypeDesc)
  (hp:tmps.getD p undef= .pointer (some ⟨g,0,none⟩)) (hg:aC w g t cs) (hu:P.underlying ty=some d) (hd:(match d with| .struct _| .array _ _=>true|_=>false)=true) (hi:(P.info? ty).map (·.size)=some cs.size)
  (nG:tmps.getD u undef= .pointer (some ⟨g2,0,none⟩)) (Fw:aC w g2 t2 nX) (qa:P.underlying oH=some d2) (nF:(match d2 with| .struct _| .array _ _=>true|_=>false)=true) (hi2:(P.info? oH).map (·.size)=some nX.size) :
  (results fn tmps).run P w= .ok (.tuple #[.agg cs,.agg nX]) w:=by
 have hp':tmps[p]?.getD undef= .pointer (some ⟨g,0,none⟩):=by simpa using hp
 have Z6:tmps[u]?.getD undef= .pointer (some ⟨g2,0,none⟩):=by simpa using nG
 simp [results,h,hp',Z6,asAddr,Hz w g t ty cs (0,0) d hg hu hd hi,Hz w g2 t2 oH nX (0,0) d2 Fw qa nF hi2,lK,Result.andThen]
def De{w:World}{M:Addr->Prop}{p:Part}{v:Value}(h:R w M (enc p) v): ∃S1 S2,v= .agg #[.string p.core.kind,.bool p.core.on,.bool p.core.broken,S1,.int .i64 p.core.count,S2]/\R w M (ax p.core.cells) S1/\R w M (ax p.aw) S2/\p.core.kind.size<=maxLen/\(IntKind.i64.min<=p.core.count/\p.core.count<=IntKind.i64.max):=by
 obtain ⟨cs,rfl,v0,r0,e0,⟨rfl,h0⟩,v1,r1,rfl,rfl,v2,r2,rfl,rfl,v3,r3,rfl,h3,v4,r4,rfl,⟨rfl,h4⟩,v5,r5,rfl,h5,rfl⟩:=h;have:cs= #[.string p.core.kind,.bool p.core.on,.bool p.core.broken,v3,.int .i64 p.core.count,v5]:=by rw [<-kJ,e0]
 exact ⟨v3,v5,by rw [this],h3,h5,h0,h4⟩
def afD{w:World}{M:Addr->Prop}{x:Call}{v:Value}(h:R w M (enc x) v):v=oZ x/\x.method.size<=maxLen/\x.key.size<=maxLen/\(IntKind.i64.min<=x.val/\x.val<=IntKind.i64.max):=by
 obtain ⟨cs,rfl,v0,r0,e0,⟨rfl,h0⟩,v1,r1,rfl,⟨rfl,h1⟩,v2,r2,rfl,⟨rfl,h2⟩,v3,r3,rfl,⟨rfl,h3⟩,rfl⟩:=h;have:cs= #[.string x.method,.string x.key,.int .i64 x.val,.string x.text]:=by rw [<-kJ,e0]
 exact ⟨by rw [this];rfl,h0,h1,h2⟩
def ep:Array Value:= #[.string ⟨#[]⟩,.bool false,.bool false,.slice none 0 0,.int .i64 0,.slice none 0 0]
def bX(p:Part)(S1 S2:Value):Array Value:= #[.string p.core.kind,.bool p.core.on,.bool p.core.broken,S1,.int .i64 p.core.count,S2]
def abI(r:gJ):Prop:=(0<=r.code/\r.code<=7)/\r.text.size<=100/\r.want=0/\r.had=0
def Ua{c v:Int}(h:0<=c/\c<=7):abI (rep c v 0 0):=⟨h,by show (⟨#[]⟩:ByteArray).size<=100;decide,rfl,rfl⟩
def axd(p:Core)(x:Call):abI (fc p x).2:=by
 unfold fc keepD
 (repeat' split)<;>first
  | exact Ua (by decide)
  | exact ⟨show (0:Int)<=0/\(0:Int)<=7 by decide,by have:=agV p.cells;simp only;omega,rfl,rfl⟩
def alW: ∀(k:Nat) (p:Part) (x:Call),abI (aW k p x).2
 | 0,p,x=>axd p.core x
 | k+1,p,x=>by
  have ih:=alW k;rw [aW];split
  ·exact Ua (by decide)
  split
  ·exact ih _ _
  split
  ·split
   ·exact ih _ _
   ·exact ih _ _
  split
  ·exact Ua (by decide)
  split
  ·split
   ·exact ih _ _
   split
   ·exact ih _ _
   ·exact Ua (by decide)
  split
  ·exact ih _ _
  split
  ·have:=ih p x;unfold NS;simp only;split
   ·exact this
   ·exact this
  ·exact ih _ _
def yu{n:Nat}{P:Program}{E:List (Nat×Value)}{w:World}{fn:Func}{R:Ending->World->Prop}{p u:Tmp}{ty oH:TypeId}{g g2:Nat}{t t2:TypeId}{cs nX:Array Value}{d d2:TypeDesc}(h:fn.results= #[.cell p ty,.cell u oH])(hp:lk E p=some (.pointer (some ⟨g,0,none⟩)))(nG:lk E u=some (.pointer (some ⟨g2,0,none⟩)))
  (hg:aC w g t cs) (Fw:aC w g2 t2 nX) (hu:P.underlying ty=some d) (qa:P.underlying oH=some d2) (hd:(match d with| .struct _| .array _ _=>true|_=>false)=true) (nF:(match d2 with| .struct _| .array _ _=>true|_=>false)=true)
  (hi:(P.info? ty).map (·.size)=some cs.size) (hi2:(P.info? oH).map (·.size)=some nX.size) (hR:R (.returned (.tuple #[.agg cs,.agg nX])) w):NX n (bodyPost P fn R .ret) E w :=
 fun a hE=>⟨hE.df,_,aDA h a.tmps w d d2 (hE.at' p _ hp) hg hu hd hi (hE.at' u _ nG) Fw qa nF hi2,hR⟩
def aa6(p:Part){a1 a2:Option Addr}{n1 c1 n2 c2:Nat}: ∀u∈(bX p (.slice a1 n1 c1) (.slice a2 n2 c2)).toList,u.oneCell'=true:=by intro u hu;simp [bX] at hu;rcases hu with rfl|rfl|rfl|rfl|rfl|rfl<;>rfl
def axD(p:Part):gb p<64:=Aj p _
def mP:(Tryz.prog.info? 58).bind (·.zero)=some (.agg ep):=by kernel_rfl
def cg:(Tryz.prog.info? 58).map (·.size)=some 6:=by kernel_rfl
def auZ(a b c:Int):tg Tryz.prog 111 [(0,.int .i64 a),(3,.int .i64 b),(4,.int .i64 c)]=some (eC (rep a 0 b c)):=by kernel_rfl
def atJ{wa v5 w6:World}{M:Addr->Prop}{p:Part}{S1 S2:Value}(hG:fN wa M)(hb:Below wa.heap.size wa v5)(hr1:R v5 (fun _=>False) (ax p.core.cells) S1)(hr2:R v5 (fun _=>False) (ax p.aw) S2)(hl1:Pz wa.heap.size v5 S1 2)(lC:Pz wa.heap.size v5 S2 2)(hap:aei S1 S2)
  (hks:p.core.kind.size<=maxLen) (hct:IntKind.i64.min<=p.core.count/\p.core.count<=IntKind.i64.max) (hR:aC w6 v5.heap.size 58 (bX p S1 S2)) (hB:Below v5.heap.size v5 w6) (hz:v5.heap.size<w6.heap.size) :
  PB (fun b=>wa.heap.size<=b/\b<w6.heap.size) w6 v5.heap.size S2 p/\kI (fun b=>wa.heap.size<=b/\b<w6.heap.size) w6 v5.heap.size S1 (F8 p.core.cells)/\(∀b,eX S1 b-> ¬eX S2 b):=by
 have MQ:R v5 (fun _=>False) (.sl ((F8 p.core.cells).map tL)) S1:=by rw [akr];exact hr1
 have azA:R v5 (fun _=>False) (.sl ((pH p.aw).map tL)) S2:=by rw [akt];exact hr2
 have q1:=aeE (K:=fun b=>wa.heap.size<=b/\b<v5.heap.size) (g:=v5.heap.size) MQ hl1 (fun b h1 h2=>⟨h1,h2⟩) (fun b h1 h2=>by omega);have q2:=aeE (K:=fun b=>wa.heap.size<=b/\b<v5.heap.size) (g:=v5.heap.size) azA lC (fun b h1 h2=>⟨h1,h2⟩) (fun b h1 h2=>by omega);have k1:kI (fun b=>wa.heap.size<=b/\b<w6.heap.size) w6 v5.heap.size S1 (F8 p.core.cells):=q1.keep (fun b ho=>hB.block b (q1.out ho).2.2) fun b h=>⟨h.1,by have:=h.2;omega⟩;have k2:kI (fun b=>wa.heap.size<=b/\b<w6.heap.size) w6 v5.heap.size S2 (pH p.aw):=q2.keep (fun b ho=>hB.block b (q2.out ho).2.2) fun b h=>⟨h.1,by have:=h.2;omega⟩;have ha: ∀b,eX S1 b-> ¬eX S2 b:=fun b ⟨o,s,len,cap,e,hc⟩ ⟨o',s',len',cap',e',hc'⟩=>hap b o s len cap b o' s' len' cap' e hc e' hc' rfl;have nB:Below wa.heap.size wa w6:=bt hb hB;exact ⟨⟨⟨hG.2.1.keep fun k hk=>nB.block k (dm hk hG.2.2),dq hG.2.2 nB.size⟩,fun b h=>⟨dq hG.2.2 h.1,h.2⟩,⟨hb.size,hz⟩,⟨S1,hR,k1,ha⟩,k2,hks,hct⟩,k1,ha⟩
end
section
open Go.RowKit
variable [GC]
def Ia(rows:List (List D))(k:Nat):Int:=match rows[k]? with
 | some [.int _ n]=>n
 | _=>0
def aED(h c:Int):Int:=bits .and .i64 (wrap64 (wrap64 (wrap64 (h*167)+c)+29)) 1073741823
def Gk(rows:List (List D)):Nat->Int
 | 0=>wrap64 (739391+wrap64 (3*rows.length))
 | k+1=>aED (Gk rows k) (Ia rows k)
def aA1(rows:List (List D))(hty: ∀r∈rows,∃n,r=[.int .u8 n])(a:Option Addr)(cap:Nat)(w:World)(hl:rows.length<=maxLen)(hr: ∀k,k<rows.length-> ∃b o,a=some ⟨b,o,none⟩/\w.cell? ⟨b,o+k,none⟩=some (.int .u8 (Ia rows k))/\0<=Ia rows k/\Ia rows k<=255) :
  Calls Tryz.prog 25 #[.slice a rows.length cap] w fun e w'=> ∃h:Int,∃n:Nat,n=min rows.length 4000/\h=Gk rows n/\e= .returned (.pointer (some ⟨w.heap.size,0,none⟩))/\w'.heap[w.heap.size]? =some (.cells #[.slice a rows.length cap,.int .i64 0,.int .i64 h] 105 (0,0))/\Below w.heap.size w w':=by
 go_enter Tryz.func25,Tryz.ntmps25;go_wp2_with fail;go_loop [3,4] (fun h i=> ∃k:Nat,k<=rows.length/\k<=4000/\i= .int .i64 k/\h= .int .i64 (Gk rows k)) (fun _ i=>4001-(intOf i).toNat)
 case atStart=>exact ⟨0,by omega,by omega,rfl,rfl⟩
 case round =>
  obtain ⟨k,hk,hk',rfl,rfl⟩:=hrel;by_cases hlt:k<rows.length
  ·obtain ⟨b,o,rfl,hc,hb⟩:=hr k hlt;by_cases h4:k<4000
   ·go_wp2;exact ⟨⟨k+1,by omega,by omega,by simp,rfl⟩,by simp [intOf];omega⟩
   ·obtain rfl:k=4000:=by omega
    go_wp2;go_ret;refine ⟨rfl,?_,by go_grown⟩;exact xn _ _
  ·obtain rfl:k=rows.length:=by omega
   go_wp2;go_ret;refine ⟨rfl,?_,by go_grown⟩;exact xn _ _
def aEE(rows:List (List D)): ∀n,IntKind.i64.min<=Gk rows n/\Gk rows n<=IntKind.i64.max
 | 0=>by
  have e:IntKind.i64.min= -9223372036854775808/\IntKind.i64.max=9223372036854775807:=by decide
  rw [e.1,e.2];unfold Gk wrap64;omega
 | n+1=>by show IntKind.i64.min<=IntKind.i64.wrap _/\IntKind.i64.wrap _<=IntKind.i64.max;exact HG _ _
def avU(rows:List (List D))(hty: ∀r∈rows,∃n,r=[.int .u8 n]):Pw Tryz.prog 25 [.sl rows] [.sl rows,.int .i64 0,.int .i64 (Gk rows (min rows.length 4000))]:=by
 refine ⟨by kernel_rfl,fun w M vs hM0 hr=> ?_⟩;have hM:=hM0.1;obtain ⟨v,q,rfl,hv,rfl⟩:=hr;have hv':=hv;obtain ⟨a,len,cap,rfl,hlen,hlc,hcm,hnone,hcells⟩:=hv;subst hlen;refine (aA1 rows hty a cap w (by omega) fun k hk=> ?_).mono ?_
 ·rcases a with _|⟨b,o,s⟩
  ·have:=hnone rfl;omega
  ·obtain ⟨hs,xI⟩:=hcells b o s rfl;have hs:=hs (by omega);subst hs;have hk':rows[k]? =some rows[k]:=cO hk;obtain ⟨n,hn⟩:=hty rows[k] (vM hk);have hg:=xI.get (n:=1) (fun r hr=>by obtain ⟨m,rfl⟩:=hty r hr;rfl) hk';rw [hn] at hg;obtain ⟨⟨u,h1,_,h2,h3⟩,_⟩:=hg;subst h2;have hb:Ia rows k=n:=by unfold Ia;rw [hk',hn]
   rw [hb];refine ⟨b,o,rfl,by simpa using h1,?_⟩;have e:IntKind.u8.min=0/\IntKind.u8.max=255:=by decide
   rw [e.1,e.2] at h3;exact h3
 ·rintro e w' ⟨h,n,rfl,rfl,rfl,hblk,hb⟩;refine ⟨w.heap.size,_,_,rfl,bU _,hblk,?_,hb⟩;refine ⟨_,_,rfl,R.keep (bY.below hb fun p hp h=> ?_) _ _ hv',_,_,rfl,⟨rfl,by decide⟩,_,_,rfl,⟨rfl,aEE _ _⟩,rfl⟩;rcases h with h|h
  ·exact h
  ·omega
end
section
open Go.RowKit Go
variable [GC]
def nu:List CT:=[.sl 5,.int .i64,.int .i64]
def NM:aI.tab 5=[.int .u8]:=by kernel_rfl
def pP(cs:List D):Prop:= ∃rows i h,cs=[.sl rows,.int .i64 i,.int .i64 h]/\cN aI.tab [.int .u8] rows/\0<=i
def pP.ty{cs:List D}(h:pP cs):br aI.tab nu cs:=by obtain ⟨rows,i,h,rfl,h1,_⟩:=h;refine ⟨?_,rfl,rfl,trivial⟩;show cN _ (aI.tab _) _;rw [NM];exact h1
def Dr(f:FuncId)(xs:List D)(T:D->Prop):Prop:= ∀cs,pP cs-> ∃r cs',T r/\pP cs'/\aH Tryz.prog f (some cs) xs r cs'
def asL{f:FuncId}{V:VC}{Γ:List VT}{xs:List D}{T:D->Prop}(hV:qp Tryz.prog aI pJ f (some nu)=V)(hok:V.ok=true)(aB:qn Tryz.prog aI f (some nu)=Γ)
  (hty: ∀cs,br aI.tab nu cs->fM aI.tab Γ (xs++cs)) (r0:D) (hT:T r0)
  (iA: ∀rows i h,dW xs->(rows.length:Int)<=9223372036854775807->cN aI.tab [.int .u8] rows->0<=i->V.den Tryz.prog aI.tab (xs++[.sl rows,.int .i64 i,.int .i64 h]) (fun d bs=>T d/\pP bs) []):Dr f xs T:=by
 intro cs hc;have hc':=hc;obtain ⟨rows,i,h,rfl,h1,h2⟩:=hc;obtain ⟨⟨r,cs'⟩,⟨q1,q2⟩,q3⟩:=aen (T:=fun d bs=>T d/\pP bs) (r0:=(r0,[.sl rows,.int .i64 i,.int .i64 h])) hV hok aB Gp mo ⟨hT,hc'⟩ (bc:=some [.sl rows,.int .i64 i,.int .i64 h]) (ds:=xs) rfl (hty _ hc'.ty) (fun h=>by cases h)
  (fun f1 f2=>iA rows i h f1 (by simp [dW,Fits,maxLen] at f2;omega) h1 h2)
 exact ⟨r,cs',q1,q2,q3⟩
def tW(f:FuncId)(xs:List D)(T:D->Prop)(rt:List (Nat×Nat)):Prop:= ∀cs,pP cs-> ∃r cs',T r/\pP cs'/\eA Tryz.prog f (some cs) xs r cs' rt
def Dr.fD{f:FuncId}{xs:List D}{T:D->Prop}{rt:List (Nat×Nat)}(h:tW f xs T rt):Dr f xs T:=fun cs hc=>by obtain ⟨r,cs',h1,h2,h3⟩:=h cs hc;exact ⟨r,cs',h1,h2,.fD h3⟩
def asK{f:FuncId}{V:VC}{Γ:List VT}{xs:List D}{T:D->Prop}{rt:List (Nat×Nat)}(hV:qp Tryz.prog aI pJ f (some nu)=V)(fK:pJ.get f=rt)(hok:V.ok=true)(aB:qn Tryz.prog aI f (some nu)=Γ)
  (hty: ∀cs,br aI.tab nu cs->fM aI.tab Γ (xs++cs)) (r0:D) (hT:T r0)
  (iA: ∀rows i h,dW xs->(rows.length:Int)<=9223372036854775807->cN aI.tab [.int .u8] rows->0<=i->V.den Tryz.prog aI.tab (xs++[.sl rows,.int .i64 i,.int .i64 h]) (fun d bs=>T d/\pP bs) []):tW f xs T rt:=by
 intro cs hc;have hc':=hc;obtain ⟨rows,i,h,rfl,h1,h2⟩:=hc;obtain ⟨⟨r,cs'⟩,⟨q1,q2⟩,q3⟩:=WO (T:=fun d bs=>T d/\pP bs) (r0:=(r0,[.sl rows,.int .i64 i,.int .i64 h])) hV hok aB Gp mo ⟨hT,hc'⟩ (bc:=some [.sl rows,.int .i64 i,.int .i64 h]) (ds:=xs) rfl (hty _ hc'.ty) (fun h=>by cases h)
  (fun f1 f2=>iA rows i h f1 (by simp [dW,Fits,maxLen] at f2;omega) h1 h2)
 exact ⟨r,cs',q1,q2,fK▸q3⟩
def jE{f:FuncId}(V:VC)(Γ:List VT){xs:List D}{T:D->Prop}(hty: ∀cs,br aI.tab nu cs->fM aI.tab Γ (xs++cs))(r0:D)(hT:T r0)
  (iA: ∀rows i h,dW xs->(rows.length:Int)<=9223372036854775807->cN aI.tab [.int .u8] rows->0<=i->V.den Tryz.prog aI.tab (xs++[.sl rows,.int .i64 i,.int .i64 h]) (fun d bs=>T d/\pP bs) []) (hV:qp Tryz.prog aI pJ f (some nu)=V:=by kernel_rfl) (aB:qn Tryz.prog aI f (some nu)=Γ:=by kernel_rfl) (hok:V.ok=true:=by rfl):Dr f xs T:=asL hV hok aB hty r0 hT iA
def BS{f:FuncId}(V:VC)(Γ:List VT){xs:List D}{T:D->Prop}{rt:List (Nat×Nat)}(hty: ∀cs,br aI.tab nu cs->fM aI.tab Γ (xs++cs))(r0:D)(hT:T r0)
  (iA: ∀rows i h,dW xs->(rows.length:Int)<=9223372036854775807->cN aI.tab [.int .u8] rows->0<=i->V.den Tryz.prog aI.tab (xs++[.sl rows,.int .i64 i,.int .i64 h]) (fun d bs=>T d/\pP bs) []) (hV:qp Tryz.prog aI pJ f (some nu)=V:=by kernel_rfl) (aB:qn Tryz.prog aI f (some nu)=Γ:=by kernel_rfl) (fK:pJ.get f=rt:=by kernel_rfl) (hok:V.ok=true:=by rfl):tW f xs T rt:=asK hV fK hok aB hty r0 hT iA
def aw2{env:List D}{Q:D->List D->Prop}{L:List (List D->Prop)}{f:FuncId}{bx args:List E}{vt:VT}{k:VC}{xs cs:List D}{T:D->Prop}{rt:List (Nat×Nat)}
  (hb:bx.map (·.den env)=cs) (ha:args.map (·.den env)=xs) (hc:pP cs) (hD:tW f xs T rt) (hT: ∀r,T r->bA aI.tab vt r)
  (hk: ∀r rows i h,T r->cN aI.tab [.int .u8] rows->0<=i->k.den Tryz.prog aI.tab (env++[r,.sl rows,.int .i64 i,.int .i64 h]) Q L):(VC.rq (.cF f (some bx) args vt nu rt) k).den Tryz.prog aI.tab env Q L:=by
 obtain ⟨r,cs',q1,q2,q3⟩:=hD cs hc;have hty:=q2.ty;obtain ⟨rows,i,h,rfl,h1,h2⟩:=q2;exact ⟨r,_,hT r q1,hty,by rw [<-hb, <-ha] at q3;exact q3,hk r rows i h q1 h1 h2⟩
def nY{env:List D}{Q:D->List D->Prop}{L:List (List D->Prop)}{gs:Gd}{f:FuncId}{bx args:List E}{vt:VT}{k:VC}{xs cs:List D}{T:D->Prop}
  (hb:bx.map (·.den env)=cs) (ha:args.map (·.den env)=xs) (hc:pP cs) (hD:Dr f xs T) (hT: ∀r,T r->bA aI.tab vt r)
  (hk: ∀r rows i h,T r->cN aI.tab [.int .u8] rows->0<=i->k.den Tryz.prog aI.tab (env++[r,.sl rows,.int .i64 i,.int .i64 h]) Q L):(VC.rq (.call gs f (some bx) args vt nu) k).den Tryz.prog aI.tab env Q L:=by
 obtain ⟨r,cs',q1,q2,q3⟩:=hD cs hc;have hty:=q2.ty;obtain ⟨rows,i,h,rfl,h1,h2⟩:=q2;exact ⟨r,_,hT r q1,hty,fun _=>by rw [<-hb, <-ha] at q3;exact q3,hk r rows i h q1 h1 h2⟩
def bJ{env:List D}{env':D->List (List D)->Int->Int->List D}{Q:D->List D->Prop}{L:List (List D->Prop)}{f:FuncId}{bx args:List E}{vt:VT}{k:VC}{xs cs:List D}{T:D->Prop}{gs:Gd}
  (hD:Dr f xs T) (hT: ∀r,T r->bA aI.tab vt r) (hk: ∀r rows i h,T r->cN aI.tab [.int .u8] rows->0<=i->k.den Tryz.prog aI.tab (env' r rows i h) Q L)
  (hb:bx.map (·.den env)=cs:=by (first|(simp only [gS];done)|(simp only [gS];exact rfl)|(simp only [gS,cS];try exact rfl))) (ha:args.map (·.den env)=xs:=by (first|(simp only [gS];done)|(simp only [gS];exact rfl)|(simp only [gS,cS];try exact rfl))) (hc:pP cs:=by exact ⟨_,_,_,rfl,by assumption,by assumption⟩)
  (he: ∀r rows i h,env++[r,.sl rows,.int .i64 i,.int .i64 h]=env' r rows i h:=by (intro r rows i h;simp only [cA];try exact rfl)):(VC.rq (.call gs f (some bx) args vt nu) k).den Tryz.prog aI.tab env Q L:=nY hb ha hc hD hT fun r rows i h h1 h2 h3=>by rw [he];exact hk r rows i h h1 h2 h3
def vY{env:List D}{env':D->List (List D)->Int->Int->List D}{Q:D->List D->Prop}{L:List (List D->Prop)}{f:FuncId}{bx args:List E}{vt:VT}{k:VC}{xs cs:List D}{T:D->Prop}{rt:List (Nat×Nat)}
  (hD:tW f xs T rt) (hT: ∀r,T r->bA aI.tab vt r) (hk: ∀r rows i h,T r->cN aI.tab [.int .u8] rows->0<=i->k.den Tryz.prog aI.tab (env' r rows i h) Q L)
  (hb:bx.map (·.den env)=cs:=by (first|(simp only [gS];done)|(simp only [gS];exact rfl)|(simp only [gS,cS];try exact rfl))) (ha:args.map (·.den env)=xs:=by (first|(simp only [gS];done)|(simp only [gS];exact rfl)|(simp only [gS,cS];try exact rfl))) (hc:pP cs:=by exact ⟨_,_,_,rfl,by assumption,by assumption⟩)
  (he: ∀r rows i h,env++[r,.sl rows,.int .i64 i,.int .i64 h]=env' r rows i h:=by (intro r rows i h;simp only [cA];try exact rfl)):(VC.rq (.cF f (some bx) args vt nu rt) k).den Tryz.prog aI.tab env Q L:=aw2 hb ha hc hD hT fun r rows i h h1 h2 h3=>by rw [he];exact hk r rows i h h1 h2 h3
def rV(r:D):Prop:= ∃x,r= .int .i64 x
def aeX(x:Int):0<=dJ .and .i64 x 255/\dJ .and .i64 x 255<=255:=by
 have h:((BitVec.ofInt 64 x &&& BitVec.ofInt 64 255).toNat:Int)<=255:=by
  rw [BitVec.toNat_and];have:(BitVec.ofInt 64 x).toNat &&& (BitVec.ofInt 64 255).toNat<=(BitVec.ofInt 64 255).toNat:=Nat.and_le_right;have e:(BitVec.ofInt 64 255).toNat=255:=by decide
  omega
 show 0<=IntKind.i64.wrap ((BitVec.ofInt 64 x &&& BitVec.ofInt 64 255).toNat:Int)/\IntKind.i64.wrap ((BitVec.ofInt 64 x &&& BitVec.ofInt 64 255).toNat:Int)<=255;rw [wrap_i64 (by omega) (by omega)];omega
def Rh:Dr 92 [] (fun r=> ∃x,r= .int .i64 x/\0<=x/\x<=255):=by
 refine jE anZ aGO (fun cs h=> ?_) (.int .i64 0) ⟨0,rfl,by omega,by omega⟩ fun rows i h f1 hl hr hi=> ?_
 ·obtain ⟨rows,i,h,rfl,h1⟩: ∃a b c,cs=[a,b,c]/\br aI.tab nu [a,b,c]:=by
   match cs,h with|[a,b,c],h=>exact ⟨a,b,c,rfl,h⟩
  exact ⟨h1.1,h1.2.1,h1.2.2.1,trivial⟩
 unfold anZ;refine aX (fun _=>rfl) (aX (fun _=>rfl) (aq (fun h=> ?_) (fun h=> ?_)))
 ·simp [E.den,ba,dL] at h;refine aX (fun _=> ?_) ?_
  ·simp [E.den,dL];omega
  ·refine ⟨⟨_,rfl,aeX _⟩,rows,_,_,rfl,hr,?_⟩;simp only [E.den,pU,qD,iw,iF];rw [bW];omega
 ·exact ⟨⟨_,rfl,aeX _⟩,rows,_,_,rfl,hr,hi⟩
def ij{cs:List D}(h:br aI.tab nu cs):fM aI.tab [.one (.c (.sl 5)),.one (.c (.int .i64)),.one (.c (.int .i64))] cs:=by
 match cs,h with|[a,b,c],h=>exact ⟨h.1,h.2.1,h.2.2.1,trivial⟩
def mN(r:D):Prop:= ∃b,r= .bool b
def iN(n:Int)(r:D):Prop:= ∃x,r= .int .i64 x/\0<=x/\(0<n->x<n)
def A5(r:D):Prop:= ∃v:qB,r=enc v
def rV.ty{r:D}(h:rV r):bA aI.tab (.one (.c (.int .i64))) r:=by obtain ⟨x,rfl⟩:=h;rfl
def mN.ty{r:D}(h:mN r):bA aI.tab (.one (.c .bool)) r:=by obtain ⟨x,rfl⟩:=h;trivial
def iN.ty{n:Int}{r:D}(h:iN n r):bA aI.tab (.one (.c (.int .i64))) r:=by obtain ⟨x,rfl,_⟩:=h;rfl
def A5.ty{r:D}(h:A5 r):bA aI.tab (.one (.agg [.int .i64,.int .i64])) r:=by obtain ⟨v,rfl⟩:=h;exact UN v
def Q1{r:D}(h: ∃x,r= .int .i64 x/\0<=x/\x<=255):bA aI.tab (.one (.c (.int .i64))) r:=by obtain ⟨x,rfl,_⟩:=h;rfl
def rem_in{x n:Int}(hx:0<=x)(hn:0<n):0<=dJ .rem .i64 x n/\dJ .rem .i64 x n<n:=⟨Xk _ hx,Int.tmod_lt_of_pos _ hn⟩
def ae1{x y:Int}(h1: -9223372036854775808<=x*y)(h2:x*y<=9223372036854775807):dJ .mul .i64 x y=x*y:=wrap_i64 h1 h2
def kq(n:Int):Dr 41 [.int .i64 n] (iN n):=by
 refine jE anY aGN (fun cs h=>by exact ⟨rfl,ij h⟩) (.int .i64 0) ⟨0,rfl,by omega,fun h=>h⟩ fun rows i sd f1 hl hr hi=> ?_;(simp only [cA]);unfold anY;apply aq<;>intro h
 ·simp [E.den,ba] at h;exact ⟨⟨_,rfl,by omega,by omega⟩,_,_,_,rfl,hr,hi⟩
 simp [E.den,ba] at h;apply aq<;>intro h2
 ·(refine bJ (Rh) (fun _ h=>Q1 h) ?_;rintro _ rows i sd ⟨x,rfl,hx⟩ hr hi)
  refine aX (fun _=> ?_) ?_
  ·simp [E.den,ba];omega
  exact ⟨⟨_,rfl,(rem_in hx.1 h).1,fun _=>(rem_in hx.1 h).2⟩,_,_,_,rfl,hr,hi⟩
 ·(refine bJ (Rh) (fun _ h=>Q1 h) ?_;rintro _ rows i sd ⟨x,rfl,hx⟩ hr hi)
  (refine bJ (Rh) (fun _ h=>Q1 h) ?_;rintro _ rows i sd ⟨y,rfl,hy⟩ hr hi)
  (refine bJ (Rh) (fun _ h=>Q1 h) ?_;rintro _ rows i sd ⟨z,rfl,hz⟩ hr hi)
  refine aX (fun _=> ?_) ?_
  ·simp [E.den,ba];omega
  have e:dJ .add .i64 (dJ .add .i64 (dJ .mul .i64 x 65536) (dJ .mul .i64 y 256)) z=x*65536+y*256+z:=by rw [ae1 (x:=x) (by omega) (by omega),ae1 (x:=y) (by omega) (by omega),bW (x:=x*65536) (y:=y*256),bW]
  have h0:=rem_in (x:=dJ .add .i64 (dJ .add .i64 (dJ .mul .i64 x 65536) (dJ .mul .i64 y 256)) z) (n:=n) (by rw [e];omega) h;exact ⟨⟨_,rfl,h0.1,fun _=>h0.2⟩,_,_,_,rfl,hr,hi⟩
def pd(n:Int):Dr 82 [.int .i64 n] mN:=by
 refine jE an4 aGT (fun cs h=>by exact ⟨rfl,ij h⟩) (.bool false) ⟨_,rfl⟩ fun rows i sd f1 hl hr hi=> ?_;(simp only [cA]);unfold an4
 (refine bJ (kq _) (fun _ h=>iN.ty h) ?_;rintro _ rows i sd ⟨x,rfl,hx⟩ hr hi)
 exact ⟨⟨_,rfl⟩,_,_,_,rfl,hr,hi⟩
def awK:Dr 246 [] (iN 64):=by
 refine jE aoa aGZ (fun cs h=>by exact ij h) (.int .i64 0) ⟨_,rfl,by omega,fun _=>by omega⟩ fun rows i sd f1 hl hr hi=> ?_;(simp only [cA]);unfold aoa
 (refine bJ (kq _) (fun _ h=>iN.ty h) ?_;rintro _ rows i sd ⟨x,rfl,hx⟩ hr hi)
 exact ⟨⟨_,rfl,hx⟩,_,_,_,rfl,hr,hi⟩
def uG(l:List Int):D:= .sl (l.map fun n=>[.int .i64 n])
def aFj:aI.tab 3=[.int .i64]:=by kernel_rfl
def aiX(l:List Int):bA aI.tab (.one (.c (.sl 3))) (uG l):=by show cN _ (aI.tab _) _;rw [aFj];exact ud fun r hr=>by obtain ⟨n,_,rfl⟩:=gD.1 hr;exact ⟨rfl,trivial⟩
def Yp(l:List Int)(h0:0<l.length):Dr 80 [uG l] rV:=by
 refine jE UZ amv (fun cs h=>by exact ⟨aiX l,ij h⟩) (.int .i64 0) ⟨_,rfl⟩ fun rows i sd f1 hl hr hi=> ?_;(simp only [cA]);unfold UZ;have hn:(l.length:Int)<=9223372036854775807:=by simp [dW,Fits,uG,maxLen] at f1;omega
 have hB:Dr 41 [.int .i64 (dL (uG l))] (iN l.length):=by have:=kq l.length;simpa [uG,dL] using this
 (refine bJ (hB) (fun _ h=>iN.ty h) ?_;rintro _ rows i sd ⟨x,rfl,hx⟩ hr hi)
 refine aX (fun _=> ?_) ?_
 ·simp [E.den,uG,dL];omega
 have hx2:=hx.2 (by omega);have e:l[x.toNat]? =some l[x.toNat]:=cO (by omega);refine ⟨⟨l[x.toNat],?_⟩,_,_,_,rfl,hr,hi⟩;simp [E.den,uG,e]
def LJ:Dr 63 [] rV:=by
 refine jE an3 aGS (fun cs h=>by exact ij h) (.int .i64 0) ⟨_,rfl⟩ fun rows i sd f1 hl hr hi=> ?_;(simp only [cA]);unfold an3
 (refine bJ (Yp [-1,0,1,2,3,4,5,6,7,63,64,99,100,999,1000,9223372036854775807, -9223372036854775808] (by decide)) (fun _ h=>rV.ty h) ?_;rintro _ rows i sd ⟨x,rfl⟩ hr hi)
 exact ⟨⟨_,rfl⟩,_,_,_,rfl,hr,hi⟩
def afX:Dr 234 [] rV:=by
 refine jE an9 aGY (fun cs h=>by exact ij h) (.int .i64 0) ⟨_,rfl⟩ fun rows i sd f1 hl hr hi=> ?_;(simp only [cA]);unfold an9
 (refine bJ (pd _) (fun _ h=>mN.ty h) ?_;rintro _ rows i sd ⟨b,rfl⟩ hr hi)
 apply aq<;>intro h
 ·(refine bJ (Yp [-1,64,65,1000,9223372036854775807, -9223372036854775808] (by decide)) (fun _ h=>rV.ty h) ?_;rintro _ rows i sd ⟨x,rfl⟩ hr hi)
  exact ⟨⟨_,rfl⟩,_,_,_,rfl,hr,hi⟩
 ·(refine bJ (awK) (fun _ h=>iN.ty h) ?_;rintro _ rows i sd ⟨x,rfl,hx⟩ hr hi)
  exact ⟨⟨_,rfl⟩,_,_,_,rfl,hr,hi⟩
def awR:Dr 247 [] A5:=by
 refine jE aox aHm (fun cs h=>by exact ij h) (enc (default:qB)) ⟨_,rfl⟩ fun rows i sd f1 hl hr hi=> ?_;(simp only [cA]);unfold aox
 (refine bJ (kq _) (fun _ h=>iN.ty h) ?_;rintro _ rows i sd ⟨x,rfl,hx⟩ hr hi)
 (refine bJ (kq _) (fun _ h=>iN.ty h) ?_;rintro _ rows i sd ⟨y,rfl,hy⟩ hr hi)
 exact ⟨⟨⟨_,_⟩,rfl⟩,_,_,_,rfl,hr,hi⟩
def Ri:Dr 235 [] A5:=by
 refine jE aow aHl (fun cs h=>by exact ij h) (enc (default:qB)) ⟨_,rfl⟩ fun rows i sd f1 hl hr hi=> ?_;(simp only [cA]);unfold aow
 (refine bJ (awR) (fun _ h=>A5.ty h) ?_;rintro _ rows i sd ⟨v,rfl⟩ hr hi)
 (refine bJ (pd _) (fun _ h=>mN.ty h) ?_;rintro _ rows i sd ⟨b,rfl⟩ hr hi)
 apply aq<;>intro h
 ·(refine bJ (LJ) (fun _ h=>rV.ty h) ?_;rintro _ rows i sd ⟨x,rfl⟩ hr hi)
  (refine bJ (pd _) (fun _ h=>mN.ty h) ?_;rintro _ rows i sd ⟨b',rfl⟩ hr hi)
  apply aq<;>intro h
  ·(refine bJ (LJ) (fun _ h=>rV.ty h) ?_;rintro _ rows i sd ⟨y,rfl⟩ hr hi)
   exact ⟨⟨⟨y,x⟩,rfl⟩,_,_,_,rfl,hr,hi⟩
  ·exact ⟨⟨⟨v.qb,x⟩,rfl⟩,_,_,_,rfl,hr,hi⟩
 ·(refine bJ (pd _) (fun _ h=>mN.ty h) ?_;rintro _ rows i sd ⟨b',rfl⟩ hr hi)
  apply aq<;>intro h
  ·(refine bJ (LJ) (fun _ h=>rV.ty h) ?_;rintro _ rows i sd ⟨y,rfl⟩ hr hi)
   exact ⟨⟨⟨y,v.min⟩,rfl⟩,_,_,_,rfl,hr,hi⟩
  ·exact ⟨⟨v,rfl⟩,_,_,_,rfl,hr,hi⟩
def aDG{rows:List (List D)}(h:cN aI.tab [.int .u8] rows): ∀r∈rows,∃n,r=[.int .u8 n]:=by
 intro r hr;have:=h.mem r hr
 match r,this with
 | [d],this=>obtain ⟨n,rfl⟩:=Av this.1;exact ⟨n,rfl⟩
def af2{env:List D}{Q:D->List D->Prop}{L:List (List D->Prop)}{args:List E}{k:VC}{rows:List (List D)}(ha:args.map (·.den env)=[.sl rows])(hr:cN aI.tab [.int .u8] rows)
  (hk: ∀sd,k.den Tryz.prog aI.tab (env++[.sl rows,.int .i64 0,.int .i64 sd]) Q L):(VC.rq (.new 25 args nu) k).den Tryz.prog aI.tab env Q L :=
 ⟨_,pP.ty ⟨rows,0,_,rfl,hr,PL _⟩,by rw [ha];exact avU rows (aDG hr),hk _⟩
def isS(r:D):Prop:= ∃s:ByteArray,r= .str s
def isS.ty{r:D}(h:isS r):bA aI.tab (.one (.c .str)) r:=by obtain ⟨x,rfl⟩:=h;trivial
def abK:List D->Bool
 | [.str _]=>true
 | _=>false
def alN{r:List D}(h:abK r=true): ∃s,r=[.str s]:=by
 match r,h with
 | [.str s],_=>exact ⟨s,rfl⟩
def qJ(eD:List (List D))(h0:0<eD.length)(hs:eD.all abK=true):Dr 42 [.sl eD] isS:=by
 have hs': ∀r∈eD,∃s,r=[.str s]:=fun r hr=>alN (fO.1 hs r hr);have hty:bA aI.tab (.one (.c (.sl 9))) (.sl eD):=by show cN _ (aI.tab _) _;rw [NL];exact ud fun r hr=>by obtain ⟨s,rfl⟩:=hs' r hr;exact ⟨trivial,trivial⟩
 refine jE Dx UO (fun cs h=>by exact ⟨hty,ij h⟩) (.str aV) ⟨_,rfl⟩ fun rows i sd f1 hl hr hi=> ?_;(simp only [cA]);unfold Dx;have hn:(eD.length:Int)<=9223372036854775807:=by simp [dW,Fits,maxLen] at f1;omega
 (refine bJ (kq eD.length) (fun _ h=>iN.ty h) ?_ (hb:=by (simp only [gS,dL];try exact rfl)) (ha:=by (simp only [gS,dL];try exact rfl));rintro _ rows i sd ⟨x,rfl,hx⟩ hr hi)
 refine aX (fun _=> ?_) ?_
 ·simp [E.den,dL];omega
 have hx2:=hx.2 (by omega);have e:eD[x.toNat]? =some eD[x.toNat]:=cO (by omega);obtain ⟨s,hs1⟩:=hs' _ (vM (show x.toNat<eD.length by omega));refine ⟨⟨s,?_⟩,_,_,_,rfl,hr,hi⟩;simp [E.den,e,hs1]
def M9(l:List Int)(r:D):Prop:= ∃x,r= .int .i64 x/\x∈l
def M9.ty{l:List Int}{r:D}(h:M9 l r):bA aI.tab (.one (.c (.int .i64))) r:=by obtain ⟨x,rfl,_⟩:=h;rfl
def afU(l:List Int)(h0:0<l.length):Dr 80 [uG l] (M9 l):=by
 refine jE UZ amv (fun cs h=>by exact ⟨aiX l,ij h⟩) (.int .i64 l[0]) ⟨_,rfl,vM _⟩ fun rows i sd f1 hl hr hi=> ?_;(simp only [cA]);unfold UZ;have hn:(l.length:Int)<=9223372036854775807:=by simp [dW,Fits,uG,maxLen] at f1;omega
 have hB:Dr 41 [.int .i64 (dL (uG l))] (iN l.length):=by have:=kq l.length;simpa [uG,dL] using this
 (refine bJ (hB) (fun _ h=>iN.ty h) ?_;rintro _ rows i sd ⟨x,rfl,hx⟩ hr hi)
 refine aX (fun _=> ?_) ?_
 ·simp [E.den,uG,dL];omega
 have hx2:=hx.2 (by omega);have e:l[x.toNat]? =some l[x.toNat]:=cO (by omega);refine ⟨⟨l[x.toNat],?_,vM _⟩,_,_,_,rfl,hr,hi⟩;simp [E.den,uG,e]
def Ys:Dr 132 [] isS:=by
 refine jE aoB aHq (fun cs h=>by exact ij h) (.str aV) ⟨_,rfl⟩ fun rows i sd f1 hl hr hi=> ?_;(simp only [cA]);unfold aoB
 (apply nY;(focus (simp only [gS];try exact rfl));(focus (simp only [gS];try exact rfl));(focus (exact ⟨_,_,_,rfl,by assumption,by assumption⟩));(focus (first|exact qJ _ (by decide) rfl|exact Dr.fD (qJ _ (by decide) rfl)));(focus (exact fun _ h=>isS.ty h));rintro _ rows i sd ⟨s,rfl⟩ hr hi;(simp only [cA]))
 exact ⟨⟨_,rfl⟩,_,_,_,rfl,hr,hi⟩
def afW:Dr 64 [] isS:=by
 refine jE an8 aGX (fun cs h=>by exact ij h) (.str aV) ⟨_,rfl⟩ fun rows i sd f1 hl hr hi=> ?_;(simp only [cA]);unfold an8
 (apply nY;(focus (simp only [gS];try exact rfl));(focus (simp only [gS];try exact rfl));(focus (exact ⟨_,_,_,rfl,by assumption,by assumption⟩));(focus (first|exact qJ _ (by decide) rfl|exact Dr.fD (qJ _ (by decide) rfl)));(focus (exact fun _ h=>isS.ty h));rintro _ rows i sd ⟨s,rfl⟩ hr hi;(simp only [cA]))
 exact ⟨⟨_,rfl⟩,_,_,_,rfl,hr,hi⟩
def awO:Dr 114 [] isS:=by
 refine jE aom aHa (fun cs h=>by exact ij h) (.str aV) ⟨_,rfl⟩ fun rows i sd f1 hl hr hi=> ?_;(simp only [cA]);unfold aom
 (refine bJ (pd _) (fun _ h=>mN.ty h) ?_;rintro _ rows i sd ⟨b,rfl⟩ hr hi)
 apply aq<;>intro h
 ·(apply nY;(focus (simp only [gS];try exact rfl));(focus (simp only [gS];try exact rfl));(focus (exact ⟨_,_,_,rfl,by assumption,by assumption⟩));(focus (first|exact qJ _ (by decide) rfl|exact Dr.fD (qJ _ (by decide) rfl)));(focus (exact fun _ h=>isS.ty h));rintro _ rows i sd ⟨s,rfl⟩ hr hi;(simp only [cA]))
  exact ⟨⟨_,rfl⟩,_,_,_,rfl,hr,hi⟩
 ·(apply nY;(focus (simp only [gS];try exact rfl));(focus (simp only [gS];try exact rfl));(focus (exact ⟨_,_,_,rfl,by assumption,by assumption⟩));(focus (first|exact qJ _ (by decide) rfl|exact Dr.fD (qJ _ (by decide) rfl)));(focus (exact fun _ h=>isS.ty h));rintro _ rows i sd ⟨s,rfl⟩ hr hi;(simp only [cA]))
  exact ⟨⟨_,rfl⟩,_,_,_,rfl,hr,hi⟩
def afY:Dr 165 [] isS:=by
 refine jE aou aHi (fun cs h=>by exact ij h) (.str aV) ⟨_,rfl⟩ fun rows i sd f1 hl hr hi=> ?_;(simp only [cA]);unfold aou
 (refine bJ (pd _) (fun _ h=>mN.ty h) ?_;rintro _ rows i sd ⟨b,rfl⟩ hr hi)
 apply aq<;>intro h
 ·(apply nY;(focus (simp only [gS];try exact rfl));(focus (simp only [gS];try exact rfl));(focus (exact ⟨_,_,_,rfl,by assumption,by assumption⟩));(focus (first|exact qJ _ (by decide) rfl|exact Dr.fD (qJ _ (by decide) rfl)));(focus (exact fun _ h=>isS.ty h));rintro _ rows i sd ⟨s,rfl⟩ hr hi;(simp only [cA]))
  exact ⟨⟨_,rfl⟩,_,_,_,rfl,hr,hi⟩
 ·(apply nY;(focus (simp only [gS];try exact rfl));(focus (simp only [gS];try exact rfl));(focus (exact ⟨_,_,_,rfl,by assumption,by assumption⟩));(focus (first|exact qJ _ (by decide) rfl|exact Dr.fD (qJ _ (by decide) rfl)));(focus (exact fun _ h=>isS.ty h));rintro _ rows i sd ⟨s,rfl⟩ hr hi;(simp only [cA]))
  exact ⟨⟨_,rfl⟩,_,_,_,rfl,hr,hi⟩
structure Eb where
 s:ByteArray
 k:Nat
 rows:List (List D)
 i:Int
 h:Int
def Eb.lay(s:Eb):List D:=[.str s.s,.int .i64 s.k,.sl s.rows,.int .i64 s.i,.int .i64 s.h]
def awQ(f:Int):Dr 115 [.int .i64 f] isS:=by
 refine jE aot aHh (fun cs h=>by exact ⟨rfl,ij h⟩) (.str aV) ⟨_,rfl⟩ fun rows i sd f1 hl hr hi=> ?_;(simp only [cA]);unfold aot
 (refine bJ (afY) (fun _ h=>isS.ty h) ?_;rintro _ rows i sd ⟨s,rfl⟩ hr hi)
 refine p7 Eb Eb.lay (fun s=>s.k<=6/\cN aI.tab [.int .u8] s.rows/\0<=s.i) (fun s=>6-s.k) ⟨s,0,rows,i,sd⟩ (fun s s' h=>by simp [Eb.lay] at h;omega) rfl ⟨by simp,hr,hi⟩ ?_;rintro ⟨s,k,rows,i,sd⟩ ⟨hk,hr,hi⟩ -;simp only at hk hr hi;simp only [Eb.lay,iH,iw];apply aq<;>intro h
 ·simp [E.den,ba] at h;refine aF (afs s) ?_;refine aF (vV f (mf s)) ?_;apply aq<;>intro h2
  ·exact ⟨⟨_,rfl⟩,_,_,_,rfl,hr,hi⟩
  (refine bJ (afY) (fun _ h=>isS.ty h) ?_;rintro _ rows i sd ⟨s',rfl⟩ hr hi)
  refine ⟨⟨s',k+1,rows,i,sd⟩,?_,⟨by simp only;omega,hr,hi⟩,by simp only;omega⟩;simp [E.den,Eb.lay];rw [bW]
 ·exact ⟨⟨_,rfl⟩,_,_,_,rfl,hr,hi⟩
def AZ(r:D):Prop:= ∃l:List ByteArray,r=ax l/\l.length<=5
def AZ.ty{r:D}(h:AZ r):bA aI.tab (.one (.c (.sl 9))) r:=by obtain ⟨l,rfl,_⟩:=h;exact lG l
structure El where
 l:List ByteArray
 n:Int
 rows:List (List D)
 i:Int
 h:Int
def El.lay(s:El):List D:=[ax s.l,.int .i64 s.n,.sl s.rows,.int .i64 s.i,.int .i64 s.h]
def Yr:tW 66 [] AZ [(0,1)]:=by
 refine BS aov aHj (fun cs h=>by exact ij h) (ax ([]:List ByteArray)) ⟨_,rfl,by simp⟩ fun rows i sd f1 hl hr hi=> ?_;(simp only [cA]);unfold aov
 (refine bJ (awO) (fun _ h=>isS.ty h) ?_;rintro _ rows i sd ⟨s,rfl⟩ hr hi)
 (refine bJ (kq _) (fun _ h=>iN.ty h) ?_;rintro _ rows i sd ⟨n,rfl,hn⟩ hr hi)
 have hn2:=hn.2 (by omega);refine p7 El El.lay (fun s=>cN aI.tab [.int .u8] s.rows/\0<=s.i/\0<=s.n/\(s.l.length:Int)+s.n<=4) (fun s=>s.n.toNat) ⟨[s],n,rows,i,sd⟩ (fun s s' h=>by simp [El.lay] at h;rw [h.2.1]) rfl ⟨hr,hi,hn.1,by simp;omega⟩ ?_;rintro ⟨l,m,rows,i,sd⟩ ⟨hr,hi,hm,ma⟩ -;simp only at hr hi hm ma;simp only [El.lay,iH,iw];apply aq<;>intro h
 ·simp [E.den,ba] at h;refine aF (Cq l) ?_
  (refine bJ (awQ _) (fun _ h=>isS.ty h) ?_;rintro _ rows i sd ⟨s',rfl⟩ hr hi)
  refine aX (fun _=> ?_) ?_
  ·simp [E.den];omega
  have hms:dJ .sub .i64 m 1=m-1:=oV;refine ⟨⟨l++[s'],m-1,rows,i,sd⟩,?_,⟨hr,hi,by simp only;omega,by simp;omega⟩,by simp only;omega⟩;simp [E.den,El.lay,hms,ax,eB]
 ·exact ⟨⟨l,rfl,by omega⟩,_,_,_,rfl,hr,hi⟩
structure vI where
 k:Nat
 rows:List (List D)
 i:Int
 h:Int
def vI.lay(s:vI):List D:=[.int .i64 s.k,.sl s.rows,.int .i64 s.i,.int .i64 s.h]
def afZ:tW 87 [] AZ [(0,1)]:=by
 refine BS U0 amx (fun cs h=>by exact ij h) (ax ([]:List ByteArray)) ⟨_,rfl,by simp⟩ fun rows i sd f1 hl hr hi=> ?_;(simp only [cA]);unfold U0;refine p7 vI vI.lay (fun s=>s.k<=4/\cN aI.tab [.int .u8] s.rows/\0<=s.i) (fun s=>4-s.k) ⟨0,rows,i,sd⟩ (fun s s' h=>by simp [vI.lay] at h;omega) rfl ⟨by simp,hr,hi⟩ ?_;rintro ⟨k,rows,i,sd⟩ ⟨hk,hr,hi⟩ -;simp only at hk hr hi;simp only [vI.lay,iH,iw];apply aq<;>intro h
 ·simp [E.den,ba] at h
  (refine vY (Yr) (fun _ h=>AZ.ty h) ?_;rintro _ rows i sd ⟨l,rfl,hl'⟩ hr hi)
  refine aF (Cq l) ?_;apply aq<;>intro h2
  ·exact ⟨⟨l,rfl,hl'⟩,_,_,_,rfl,hr,hi⟩
  refine ⟨⟨k+1,rows,i,sd⟩,?_,⟨by simp only;omega,hr,hi⟩,by simp only;omega⟩;simp [E.den,vI.lay];rw [bW]
 ·(apply nY;(focus (simp only [gS];try exact rfl));(focus (simp only [gS];try exact rfl));(focus (exact ⟨_,_,_,rfl,by assumption,by assumption⟩));(focus (first|exact qJ _ (by decide) rfl|exact Dr.fD (qJ _ (by decide) rfl)));(focus (exact fun _ h=>isS.ty h));rintro _ rows i sd ⟨s,rfl⟩ hr hi;(simp only [cA]))
  exact ⟨⟨[s],rfl,by simp⟩,_,_,_,rfl,hr,hi⟩
def Tg(r:D):Prop:= ∃n:nS,r=enc n
def Tg.ty{r:D}(h:Tg r):bA aI.tab (.one (.agg [.int .i64,.str,.int .i64,.int .i64])) r:=by obtain ⟨n,rfl⟩:=h;exact NT n
def awT:Dr 217 [] Tg:=by
 refine jE aoC aHr (fun cs h=>by exact ij h) (enc (default:nS)) ⟨_,rfl⟩ fun rows i sd f1 hl hr hi=> ?_;(simp only [cA]);unfold aoC
 (refine bJ (Yp [1,2,2,4,8,3,16,32,5,6] (by decide)) (fun _ h=>rV.ty h) ?_;rintro _ rows i sd ⟨x,rfl⟩ hr hi)
 (refine bJ (kq _) (fun _ h=>iN.ty h) ?_;rintro _ rows i sd ⟨y,rfl,hy⟩ hr hi)
 (refine bJ (pd _) (fun _ h=>mN.ty h) ?_;rintro _ rows i sd ⟨b1,rfl⟩ hr hi)
 apply aq<;>intro _
 ·(refine bJ (Ys) (fun _ h=>isS.ty h) ?_;rintro _ rows i sd ⟨s,rfl⟩ hr hi)
  (refine bJ (pd _) (fun _ h=>mN.ty h) ?_;rintro _ rows i sd ⟨b2,rfl⟩ hr hi)
  apply aq<;>intro _
  ·(refine bJ (afX) (fun _ h=>rV.ty h) ?_;rintro _ rows i sd ⟨z,rfl⟩ hr hi)
   (refine bJ (pd _) (fun _ h=>mN.ty h) ?_;rintro _ rows i sd ⟨b3,rfl⟩ hr hi)
   apply aq<;>intro _
   ·(refine bJ (Ri) (fun _ h=>A5.ty h) ?_;rintro _ rows i sd ⟨v,rfl⟩ hr hi)
    exact ⟨⟨⟨z,s,v⟩,rfl⟩,_,_,_,rfl,hr,hi⟩
   ·exact ⟨⟨⟨z,s,⟨1,y⟩⟩,rfl⟩,_,_,_,rfl,hr,hi⟩
  ·(refine bJ (pd _) (fun _ h=>mN.ty h) ?_;rintro _ rows i sd ⟨b3,rfl⟩ hr hi)
   apply aq<;>intro _
   ·(refine bJ (Ri) (fun _ h=>A5.ty h) ?_;rintro _ rows i sd ⟨v,rfl⟩ hr hi)
    exact ⟨⟨⟨x,s,v⟩,rfl⟩,_,_,_,rfl,hr,hi⟩
   ·exact ⟨⟨⟨x,s,⟨1,y⟩⟩,rfl⟩,_,_,_,rfl,hr,hi⟩
 ·(refine bJ (pd _) (fun _ h=>mN.ty h) ?_;rintro _ rows i sd ⟨b2,rfl⟩ hr hi)
  apply aq<;>intro _
  ·(refine bJ (afX) (fun _ h=>rV.ty h) ?_;rintro _ rows i sd ⟨z,rfl⟩ hr hi)
   (refine bJ (pd _) (fun _ h=>mN.ty h) ?_;rintro _ rows i sd ⟨b3,rfl⟩ hr hi)
   apply aq<;>intro _
   ·(refine bJ (Ri) (fun _ h=>A5.ty h) ?_;rintro _ rows i sd ⟨v,rfl⟩ hr hi)
    exact ⟨⟨⟨z,aV,v⟩,rfl⟩,_,_,_,rfl,hr,hi⟩
   ·exact ⟨⟨⟨z,aV,⟨1,y⟩⟩,rfl⟩,_,_,_,rfl,hr,hi⟩
  ·(refine bJ (pd _) (fun _ h=>mN.ty h) ?_;rintro _ rows i sd ⟨b3,rfl⟩ hr hi)
   apply aq<;>intro _
   ·(refine bJ (Ri) (fun _ h=>A5.ty h) ?_;rintro _ rows i sd ⟨v,rfl⟩ hr hi)
    exact ⟨⟨⟨x,aV,v⟩,rfl⟩,_,_,_,rfl,hr,hi⟩
   ·exact ⟨⟨⟨x,aV,⟨1,y⟩⟩,rfl⟩,_,_,_,rfl,hr,hi⟩
structure BU where
 n:Int
 rows:List (List D)
 i:Int
 h:Int
 e:Entry
def BU.lay(s:BU):List D:=[.int .i64 s.n,.sl s.rows,.int .i64 s.i,.int .i64 s.h,.str s.e.name,ax s.e.recipe,.int .i64 s.e.kF.qb,.int .i64 s.e.kF.min,ax s.e.needs]
structure Ea where
 l:List Entry
 k:Nat
 rows:List (List D)
 i:Int
 h:Int
def Ea.lay(s:Ea):List D:=[ax s.l,.int .i64 s.k,.sl s.rows,.int .i64 s.i,.int .i64 s.h]
def wT:List ByteArray:=[⟨#[97]⟩,⟨#[98]⟩,⟨#[99]⟩,⟨#[100]⟩,⟨#[101]⟩,⟨#[102]⟩]
def afO{Γ:List VT}(aB:Γ=[.one (.c (.sl 5))]){ds:List D}(h:fM aI.tab Γ ds): ∃rows,ds=[.sl rows]/\cN aI.tab (aI.tab 5) rows/\cN aI.tab [.int .u8] rows:=by
 subst aB
 match ds,h with
 | [d],h=>obtain ⟨rows,rfl,hr⟩:=wy h.1;exact ⟨rows,rfl,hr,by rwa [NM] at hr⟩
def ae7: ∀{a b c:List UInt8},Op.bytesLess a b=true->Op.bytesLess b c=true->Op.bytesLess a c=true
 | _,[],_,h,_=>by simp [Op.bytesLess] at h
 | _,_::_,[],_,h=>by simp [Op.bytesLess] at h
 | [],_::_,_::_,_,_=>by simp [Op.bytesLess]
 | x::a,y::b,z::c,h1,h2=>by have ih:= @ae7 a b c;simp only [Op.bytesLess,gK,aP,cC,um] at h1 h2 ⊢;grind
def agO{p:Nat->Bool}: ∀{n:Nat},dG p n=none-> ∀i,i<n->p i=false
 | 0,_,i,hi=>by omega
 | n+1,h,i,hi=>by
  simp only [dG] at h;split at h
  ·cases h
  ·rename_i h1;split at h
   ·cases h
   ·rename_i h2;rcases dY i n with h3|h3
    ·exact agO h1 i h3
    ·obtain rfl:i=n:=by omega
     simpa using h2
def ajy{a b c:ByteArray}(h1:cU a b=true)(h2:cU b c=true):cU a c=true:=ae7 h1 h2
def Nj(a:ByteArray):cU a a=false:=by
 cases h:cU a a with
 | false=>rfl
 | true=>have:=ltA h;rw [h] at this;cases this
def QS(l:List Cell):Prop:= ∀i,i+1<l.length->cU (nth l i).key (nth l (i+1)).key=true
def Rd{l:List Cell}(h:iJ l=true):QS l:=fun i hi=>by
 unfold iJ at h;simp only [aP] at h;have:=mD.1 h.2 (i+1) hi;unfold mJ at this;simp only [aP,gK,um] at this;rcases this.2 with h|h
 ·omega
 ·exact h
def ae2{l:List Cell}(h:QS l){k:ByteArray}: ∀i,cX l k<i->i<l.length->cU k (nth l i).key=true:=by
 intro i;induction i with
 | zero=>intro h;omega
 | succ i ih =>
  intro h1 h2;have hs:=h i h2;rcases dY (cX l k) i with h3|h3
  ·exact ajy (ih h3 (by omega)) hs
  ·have e:i=cX l k:=by omega
   have h4:=QV (l:=l) (k:=k) (by omega);rw [<-e] at h4;by_cases e2:(nth l i).key=k
   ·rw [<-e2];exact hs
   ·exact ajy (ltT e2 h4) hs
def nz(l:List Cell)(k:ByteArray)(v:Int)(i:Nat):List Cell :=
 if cX l k<i then (l.take (cX l k)++[⟨k,v⟩])++(l.take i).drop (cX l k+if jV l k=true then 1 else 0) else l.take i
def axW(l:List Cell)(k:ByteArray)(v:Int):nz l k v 0=[]:=by unfold nz;simp
def abR{α:Type}[Inhabited α]{l:List α}{i:Nat}(h:i<l.length):l.take (i+1)=l.take i++[nth l i]:=by rw [KF];simp [nth,h]
def axV{l:List Cell}{k:ByteArray}{v:Int}{i:Nat}(h:i<cX l k)(hl:i<l.length):nz l k v (i+1)=nz l k v i++[nth l i]:=by unfold nz;rw [ak (show ¬cX l k<i+1 by omega),ak (show ¬cX l k<i by omega),abR hl]
def axS{l:List Cell}{k:ByteArray}{v:Int}{i:Nat}(h:i=cX l k)(hl:i<l.length):nz l k v (i+1)=if (nth l i).key=k then nz l k v i++[⟨k,v⟩] else (nz l k v i++[⟨k,v⟩])++[nth l i]:=by
 unfold nz;rw [aA (show cX l k<i+1 by omega),ak (show ¬cX l k<i by omega),abR hl];by_cases e:(nth l i).key=k
 ·have hk:jV l k=true:=AY.2 ⟨by omega,by rw [<-h];exact e⟩;rw [aA e,aA hk,Ha (by rw [jw,lX,List.length_singleton];omega)];rw [oQ,h]
 ·have hk:jV l k=false:=by
   cases hq:jV l k with
   | false=>rfl
   | true=>have:=(AY.1 hq).2;rw [<-h] at this;exact absurd this e
  simp only [ak e,hk,xk,xp,EA];rw [aeT (by rw [lX];omega),Ha (by rw [lX];omega),iw,h]
def axU{l:List Cell}{k:ByteArray}{v:Int}{i:Nat}(h:cX l k<i)(hl:i<l.length):nz l k v (i+1)=nz l k v i++[nth l i]:=by unfold nz;rw [aA (show cX l k<i+1 by omega),aA h,abR hl,aeT (by rw [lX];split<;>omega)];simp only [iG]
def axT{l:List Cell}{k:ByteArray}{v:Int}:qV l k v=if cX l k<l.length then nz l k v l.length else nz l k v l.length++[⟨k,v⟩]:=by
 unfold nz qV;have hle:=KY l k;by_cases h:cX l k<l.length
 ·simp only [aA h,vO];by_cases hk:jV l k=true
  ·rw [aA hk,aA hk,List.set_eq_take_append_cons_drop,aA h];simp
  ·rw [ak hk,ak hk,EA]
 ·have e:cX l k=l.length:=by omega
  have hk:jV l k=false:=by
   cases hq:jV l k with
   | false=>rfl
   | true=>have:=(AY.1 hq).1;omega
  simp only [ak h,hk,xk,xp,e];simp
def F7(l:List Cell)(k:ByteArray):Int:=match dG (fun i=>decide ((nth l i).key=k)) l.length with
 | some i=>(i:Int)
 | none=> -1
def akp{l:List Cell}(h:QS l)(k:ByteArray):F7 l k=if jV l k=true then ((cX l k:Nat):Int) else -1:=by
 unfold F7;cases hf:dG (fun i=>decide ((nth l i).key=k)) l.length with
 | none => have hn:=agO hf;rw [ak];intro hk;obtain ⟨h1,h2⟩:=AY.1 hk;have:=hn _ h1;simp at this;exact this h2
 | some i =>
  obtain ⟨h1,h2,h3⟩:=ux hf;have h2:(nth l i).key=k:=by simpa using h2
  have e:cX l k=i:=by
   rcases Hf i (cX l k) with h4|h4|h4
   ·have:=KZ h4;rw [h2,Nj] at this;cases this
   ·exact h4.symm
   ·have:=ae2 h i h4 h1;rw [h2,Nj] at this;cases this
  rw [aA (AY.2 ⟨by omega,by rw [e];exact h2⟩),e]
def uH(q:ByteArray->Bool)(r:D):Prop:= ∃s:ByteArray,r= .str s/\q s=true
def uH.ty{q:ByteArray->Bool}{r:D}(h:uH q r):bA aI.tab (.one (.c .str)) r:=by obtain ⟨x,rfl,_⟩:=h;trivial
def alM(q:ByteArray->Bool):List D->Bool
 | [.str s]=>q s
 | _=>false
def aEZ{q:ByteArray->Bool}{r:List D}(h:alM q r=true): ∃s,r=[.str s]/\q s=true:=by
 match r,h with
 | [.str s],h=>exact ⟨s,rfl,h⟩
def Ct(q:ByteArray->Bool)(s0:ByteArray)(h0:q s0=true)(eD:List (List D))(hl:0<eD.length)(hs:eD.all (alM q)=true):Dr 42 [.sl eD] (uH q):=by
 have hs': ∀r∈eD,∃s:ByteArray,r=[.str s]/\q s=true:=fun r hr=>aEZ (fO.1 hs r hr);have hty:bA aI.tab (.one (.c (.sl 9))) (.sl eD):=by show cN _ (aI.tab _) _;rw [NL];exact ud fun r hr=>by obtain ⟨s,rfl,_⟩:=hs' r hr;exact ⟨trivial,trivial⟩
 refine jE Dx UO (fun cs h=>by exact ⟨hty,ij h⟩) (.str s0) ⟨_,rfl,h0⟩ fun rows i sd f1 hl hr hi=> ?_;(simp only [cA]);unfold Dx;have hn:(eD.length:Int)<=9223372036854775807:=by simp [dW,Fits,maxLen] at f1;omega
 (refine bJ (kq eD.length) (fun _ h=>iN.ty h) ?_ (hb:=by (simp only [gS,dL];try exact rfl)) (ha:=by (simp only [gS,dL];try exact rfl));rintro _ rows i sd ⟨x,rfl,hx⟩ hr hi)
 refine aX (fun _=> ?_) ?_
 ·simp [E.den,dL];omega
 have hx2:=hx.2 (by omega);have e:eD[x.toNat]? =some eD[x.toNat]:=cO (by omega);obtain ⟨s,hs1,hs2⟩:=hs' _ (vM (show x.toNat<eD.length by omega));refine ⟨⟨s,?_,hs2⟩,_,_,_,rfl,hr,hi⟩;simp [E.den,e,hs1]
def Yq:Dr 133 [] (uH jj):=by
 refine jE aol aG9 (fun cs h=>by exact ij h) (.str ⟨#[97]⟩) ⟨_,rfl,by kernel_rfl⟩ fun rows i sd f1 hl hr hi=> ?_;(simp only [cA]);unfold aol
 (apply nY;(focus (simp only [gS];try exact rfl));(focus (simp only [gS];try exact rfl));(focus (exact ⟨_,_,_,rfl,by assumption,by assumption⟩));(focus (first|exact Ct jj ⟨#[97]⟩ (by kernel_rfl) _ (by decide) (by kernel_rfl)|exact Dr.fD (Ct jj ⟨#[97]⟩ (by kernel_rfl) _ (by decide) (by kernel_rfl))));(focus (exact fun _ h=>uH.ty h));rintro _ rows i sd ⟨s,rfl,hs⟩ hr hi;(simp only [cA]))
 exact ⟨⟨_,rfl,hs⟩,_,_,_,rfl,hr,hi⟩
def afv(l:List Cell)(k:ByteArray):aH Tryz.prog 215 none [ax l,.str k] (.int .i64 (F7 l k)) []:=by
 refine cB aof aG3 ⟨yd l,trivial,trivial⟩ fun hfit=> ?_;have hl:l.length<=9223372036854775807:=qM hfit.1;unfold aof;refine eZ l.length (fun k=>[.int .i64 k]) (fun i=> ∀j,j<i->decide ((nth l j).key=k)=false) rfl (fun j h=>by omega) ?_;intro i hi hI _;simp only [cA];apply aq<;>intro h2<;>simp only [eS] at h2
 ·have h2:i<l.length:=by simp at h2;exact h2
  refine fZ ?_;refine aq (fun h3=>az ?_) (fun h3=> ?_)
  ·simp only [eS,rf,lY,jv] at h3 ⊢;have h3:(nth l i).key=k:=by simpa using h3
   have e:dG (fun i=>decide ((nth l i).key=k)) l.length=some i:=Am (by simpa using h3) hI h2;unfold F7;rw [e]
  ·simp only [eS,rf,lY,jv] at h3;have h3:(nth l i).key≠k:=by simpa using h3
   refine dK h2 ?_ fun j hj=> ?_
   ·simp only [eS];rw [bW];rfl
   ·rcases dY j i with h|h
    ·exact hI j h
    ·obtain rfl:j=i:=by omega
     simpa using h3
 ·have h2:i=l.length:=by simp at h2;omega
  subst h2;refine az ?_;simp only [eS];unfold F7;rw [Al hI]
def afw(l:List Cell)(k:ByteArray)(v:Int)(hs:QS l)(h4:l.length<=1048576):eA Tryz.prog 216 none [ax l,.str k,.int .i64 v] (ax (qV l k v)) [] [(0,2)]:=by
 refine iT aon aHb ⟨yd l,trivial,rfl,trivial⟩ fun hfit=> ?_;have hle:=KY l k;unfold aon;refine eZ l.length (fun i=>[.bool (decide (cX l k<i)),ax (nz l k v i),.int .i64 i]) (fun _=>True) (by simp [E.den,axW,ax]) trivial ?_;intro i hi _ _;have hgl:(nz l k v i).length<=i+1:=by
  unfold nz;split
  ·simp;omega
  ·simp;omega
 simp only [cA];apply aq<;>intro h2<;>simp only [eS] at h2
 ·have h2:i<l.length:=by simp at h2;exact h2
  refine fZ ?_;apply aq<;>intro h3<;>simp only [eS,rf,lY,jv] at h3
  ·have hge:iK .geq (nth l i).key k= !cU (nth l i).key k:=by rfl
   simp at h3;have ea:i=cX l k:=by
    rcases dY i (cX l k) with h|h
    ·have:=KZ h;rw [h3.2] at this;cases this
    ·omega
   refine aX (fun _=> ?_) ?_
   ·simp only [eS];simp;omega
   have hgo:=axS (v:=v) ea h2;apply aq<;>intro h5<;>simp only [eS,rf,lY,jv] at h5
   ·have h5:(nth l i).key≠k:=by simpa using h5
    rw [ak h5] at hgo;refine aX (fun _=> ?_) ?_
    ·simp only [eS];simp;omega
    refine dK h2 ?_ trivial;rw [hgo,QQ (show cX l k<i+1 by omega)];simp only [eS,rf,lY,jv];rw [bW];simp [ax,lY]
   ·have h5:(nth l i).key=k:=by simpa using h5
    rw [aA h5] at hgo;refine dK h2 ?_ trivial;rw [hgo,QQ (show cX l k<i+1 by omega)];simp only [eS,rf,lY,jv];rw [bW];simp [ax,lY]
  ·have hge:iK .geq (nth l i).key k= !cU (nth l i).key k:=by rfl
   have hnk:(nth l i).key≠k:=by
    intro e;rcases Hf i (cX l k) with h|h|h
    ·have:=KZ h;rw [e,Nj] at this;cases this
    ·rw [e,Nj] at h3;simp at h3;omega
    ·have:=ae2 hs i h h2;rw [e,Nj] at this;cases this
   have hni:i≠cX l k:=by intro e;have:=QV (l:=l) (k:=k) (by omega);rw [<-e] at this;rw [this] at h3;simp at h3;omega
   have hgo:nz l k v (i+1)=nz l k v i++[nth l i]:=by
    rcases dY i (cX l k) with h|h
    ·exact axV h h2
    ·exact axU (by omega) h2
   have tA:decide (cX l k<i+1)=decide (cX l k<i):=decide_eq_decide.2 (by omega);apply aq<;>intro h5
   ·refine aX (fun _=> ?_) ?_
    ·simp only [eS];simp;omega
    refine dK h2 ?_ trivial;rw [hgo,tA];simp only [eS,rf,lY,jv];rw [bW];simp [ax,lY]
   ·exfalso;simp only [eS,rf,lY,jv] at h5;exact hnk (by simpa using h5)
 ·have h2:i=l.length:=by simp at h2;omega
  subst h2;have hend:=axT (l:=l) (k:=k) (v:=v);apply aq<;>intro h3<;>simp only [eS] at h3
  ·have h3: ¬cX l k<l.length:=by simpa using h3
   refine aX (fun _=> ?_) (az ?_)
   ·simp only [eS];simp;omega
   ·rw [hend,ak h3];simp only [eS];simp [ax,lY]
  ·have h3:cX l k<l.length:=by simpa using h3
   refine az ?_;rw [hend,aA h3];simp only [eS]
def Td(r:D):Prop:= ∃l:List Cell,r=ax l/\iJ l=true
def Td.ty{r:D}(h:Td r):bA aI.tab (.one (.c (.sl 136))) r:=by obtain ⟨l,rfl,_⟩:=h;exact yd l
structure BQ where
 l:List Cell
 n:Int
 rows:List (List D)
 i:Int
 h:Int
def BQ.lay(s:BQ):List D:=[ax s.l,.int .i64 s.n,.sl s.rows,.int .i64 s.i,.int .i64 s.h]
def awN:tW 185 [] Td [(0,2)]:=by
 refine BS aoh aG5 (fun cs h=>by exact ij h) (ax ([]:List Cell)) ⟨_,rfl,by decide⟩ fun rows i sd f1 hl hr hi=> ?_;(simp only [cA]);unfold aoh
 (refine bJ (kq _) (fun _ h=>iN.ty h) ?_;rintro _ rows i sd ⟨n,rfl,hn⟩ hr hi)
 have hn2:=hn.2 (by omega);refine p7 BQ BQ.lay (fun s=>cN aI.tab [.int .u8] s.rows/\0<=s.i/\0<=s.n/\s.n<=6/\iJ s.l=true) (fun s=>s.n.toNat) ⟨[],n,rows,i,sd⟩ (fun s s' h=>by simp [BQ.lay] at h;rw [h.2.1]) rfl ⟨hr,hi,hn.1,by simp only;omega,show iJ []=true by decide⟩ ?_;rintro ⟨l,m,rows,i,sd⟩ ⟨hr,hi,hm,hm6,hl⟩ -;simp only at hr hi hm hm6 hl;have MG:=xy hl;have hms:0<m->dJ .sub .i64 m 1=m-1:=fun h=>oV;simp only [BQ.lay,iH,iw];apply aq<;>intro h
 ·simp [E.den,ba] at h
  (refine bJ (Yq) (fun _ h=>uH.ty h) ?_;rintro _ rows i sd ⟨k,rfl,hk⟩ hr hi)
  refine aF (afv l k) ?_;apply aq<;>intro h2
  ·simp only [eS] at h2;rw [akp (Rd hl)] at h2
   (refine bJ (kq _) (fun _ h=>iN.ty h) ?_;rintro _ rows i sd ⟨y,rfl,hy⟩ hr hi)
   have wF:=hy.2 (by omega);have hput:iJ (qV l k y)=true:=akE hl hk (zj.2 ⟨hy.1,by omega⟩) (fun hc=>by rw [hc.1] at h2;simp at h2;omega)
   refine fQ (afw l k y (Rd hl) (by omega)) (hty:=yd _) ?_;refine ⟨⟨qV l k y,m-1,rows,i,sd⟩,?_,⟨hr,hi,by simp only;omega,by simp only;omega,hput⟩,by simp only;omega⟩;simp [E.den,BQ.lay,hms h]
  ·refine ⟨⟨l,m-1,rows,i,sd⟩,?_,⟨hr,hi,by simp only;omega,by simp only;omega,hl⟩,by simp only;omega⟩;simp [E.den,BQ.lay,hms h]
 ·exact ⟨⟨l,rfl,hl⟩,_,_,_,rfl,hr,hi⟩
def Ak(s:ByteArray):Bool:=decide (s.size<=100)
def awP:Dr 134 [] (uH Ak):=by
 refine jE aop aHd (fun cs h=>by exact ij h) (.str aV) ⟨_,rfl,by decide⟩ fun rows i sd f1 hl hr hi=> ?_;(simp only [cA]);unfold aop
 (refine vY (awN) (fun _ h=>Td.ty h) ?_;rintro _ rows i sd ⟨l,rfl,hl⟩ hr hi)
 refine aF (afn l) ?_;have hf:=agV l
 (refine bJ (kq _) (fun _ h=>iN.ty h) ?_;rintro _ rows i sd ⟨y,rfl,hy⟩ hr hi)
 apply aq<;>intro h
 ·(apply nY;(focus (simp only [gS];try exact rfl));(focus (simp only [gS];try exact rfl));(focus (exact ⟨_,_,_,rfl,by assumption,by assumption⟩));(focus (first|exact Ct (fun s=>decide (s.size<=40)) aV (by decide) _ (by decide) (by kernel_rfl)|exact Dr.fD (Ct (fun s=>decide (s.size<=40)) aV (by decide) _ (by decide) (by kernel_rfl))));(focus (exact fun _ h=>uH.ty h));rintro _ rows i sd ⟨s,rfl,hs⟩ hr hi;(simp only [cA]))
  have hs:s.size<=40:=by simpa using hs
  refine aX (fun _=> ?_) ?_
  ·simp only [eS];refine jR ?_;unfold maxLen;omega
  exact ⟨⟨_,rfl,by unfold Ak;simp only [E.den,kU,vN,iH,iw,pU,qD,xe,gx,cC];omega⟩,_,_,_,rfl,hr,hi⟩
 apply aq<;>intro h
 ·(apply nY;(focus (simp only [gS];try exact rfl));(focus (simp only [gS];try exact rfl));(focus (exact ⟨_,_,_,rfl,by assumption,by assumption⟩));(focus (first|exact Ct Ak aV (by decide) _ (by decide) (by kernel_rfl)|exact Dr.fD (Ct Ak aV (by decide) _ (by decide) (by kernel_rfl))));(focus (exact fun _ h=>uH.ty h));rintro _ rows i sd ⟨s,rfl,hs⟩ hr hi;(simp only [cA]))
  exact ⟨⟨_,rfl,hs⟩,_,_,_,rfl,hr,hi⟩
 ·exact ⟨⟨_,rfl,by unfold Ak;simp;omega⟩,_,_,_,rfl,hr,hi⟩
def UJ(x:List UInt8):List D:=[.str (bs x)]
def Bs(l:List (List UInt8)):D:= .sl (l.map UJ)
@[simp] def aJ7 (l:List (List UInt8)):(Bs l).tN=l.map UJ:=rfl
@[simp] def aJ6 (l:List (List UInt8)):dL (Bs l)=l.length:=by simp [Bs,dL]
def YA(s:ByteArray)(a b:Nat):s.extract a b=bs ((s.data.toList.drop a).take (b-a)):=by apply Kw;simp only [bs,ByteArray.data_extract];apply Array.ext';simp
def aCA{s:ByteArray}{sep:List UInt8}{i:Nat}(h:i+sep.length<=s.size):decide (s.extract i (i+sep.length)=bs sep)=Lib.occAt s.data.toList sep i:=by rw [YA,Lib.occAt_iff_take _ _ _ (by rw [size_data];exact h),Nat.add_sub_cancel_left];simp [Bool.beq_eq_decide_eq]
def aaY(s sep:List UInt8)(a j:Nat):Lib.occAt (s.drop a) sep j=Lib.occAt s sep (a+j):=by unfold Lib.occAt;rw [Ch]
def avM(s:ByteArray)(sep:List UInt8)(h0:sep≠[])(h1:sep.length<=100)(hs:s.size<4294967281):eA Tryz.prog 253 none [.str s,.str (bs sep)] (Bs (Lib.split s.data.toList sep)) [] [(0,1)]:=by
 have hpos:0<sep.length:=PR.2 h0;refine iT anT amu (by simp [amu,fM,bA,db,cD]) fun hfit=> ?_;unfold anT;refine p7 (List (List UInt8)×Nat×Nat) (fun x=>[Bs x.1,.int .i64 x.2.1,.int .i64 x.2.2])
  (fun x=>x.1++Lib.split (s.data.toList.drop x.2.1) sep=Lib.split s.data.toList sep/\x.2.1<=x.2.2/\x.2.2<=s.size/\x.1.length<=x.2.1/\ ∀j,x.2.1<=j->j<x.2.2->Lib.occAt s.data.toList sep j=false)
  (fun x=>s.size-x.2.2) ([],0,0) ?_ rfl ⟨by simp,bU _,fX _,fX _,fun j a b=>by simp only at b;omega⟩ ?_
 ·intro x y h;simp at h;have:x.2.2=y.2.2:=by omega
  simp only [this]
 rintro ⟨out,fr,i⟩ ⟨q1,q2,q3,q4,q5⟩ _;simp only at q1 q2 q3 q4 q5;have hadd:dJ .add .i64 (i:Int) (((bs sep).size:Nat):Int)=((i+sep.length:Nat):Int):=by rw [bW (h1:=(by rw [rG];omega)) (h2:=(by rw [rG];omega)),rG];omega
 have hne:iK .neq (bs sep) ⟨#[]⟩=true:=by simp only [Ym];rw [show (⟨#[]⟩:ByteArray)=bs [] from rfl];simp [h0]
 apply aq<;>intro h
 ·simp only [E.den,iH,iw,pU,qD,BR,xe,iF,CZ,hne,hadd,Yl,sS,cC] at h;have hle:i+sep.length<=s.size:=by omega
  refine aX (fun _=> ?_) ?_
  ·simp only [E.den,iH,iw,pU,qD,iF,CZ,hadd];simp;omega
  apply aq<;>intro h2<;>simp only [E.den,iH,iw,pU,qD,BR,xe,iF,CZ,hadd,qI,jv,qG,aCA hle] at h2
  ·have hix:Lib.index (s.data.toList.drop fr) sep=((i-fr:Nat):Int):=by
    refine Lib.index_first (by rw [KA,size_data];omega) ?_ (fun j hj=> ?_)
    ·rw [aaY,show fr+(i-fr)=i by omega];exact h2
    ·rw [aaY];exact q5 _ (by omega) (by omega)
   refine aX (fun _=> ?_) ?_
   ·simp only [eS];simp;omega
   refine aX (fun _=> ?_) ?_
   ·simp only [eS];simp;omega
   refine Ij (out++[(s.data.toList.drop fr).take (i-fr)],i+sep.length,i+sep.length) ?_ ⟨?_,bU _,hle,?_,fun j a b=>by simp only at a b;omega⟩ ?_
   ·simp only [E.den,iH,iw,pU,qD,xe,iF,CZ,hadd,qI,jv,kU,vN,YA];simp [Bs,UJ]
   ·simp only;rw [<-q1,Us h0 hix,Ch,show fr+(i-fr+sep.length)=i+sep.length by omega];simp
   ·simp;omega
   ·simp only;omega
  ·refine Ij (out,fr,i+1) ?_ ⟨q1,by simp only;omega,by simp only;omega,q4,fun j a b=> ?_⟩ ?_
   ·simp only [eS];rw [bW];rfl
   ·simp only at a b;by_cases e:j=i
    ·rw [e];exact h2
    ·exact q5 j a (by omega)
   ·simp only;omega
 ·simp only [E.den,iH,iw,pU,qD,BR,xe,iF,CZ,hne,hadd,Yl,sS,mZ] at h;have hix:Lib.index (s.data.toList.drop fr) sep= -1:=by
   refine Lib.index_none fun j hj=> ?_;rw [aaY];rcases dY (fr+j) i with hlt|hge
   ·exact q5 _ (by omega) hlt
   ·cases ho:Lib.occAt s.data.toList sep (fr+j) with
    | false=>rfl
    | true =>
     rcases Lib.occAt_room ho with h3|h3
     ·rw [size_data] at h3;omega
     ·exact absurd h3 h0
  refine aX (fun _=> ?_) ?_
  ·simp only [eS];simp;omega
  refine aX (fun _=> ?_) (az ?_)
  ·simp only [eS];simp;omega
  ·simp only [E.den,iH,iw,pU,qD,xe,iF,CZ,qI,jv,YA];rw [<-q1,NH hix,show s.size-fr=(s.data.toList.drop fr).length by rw [KA,size_data],vO];simp [Bs,UJ]
def aCF:(1:Int).toNat=1:=rfl
end
end Go.Proofs.YtekplmpbkgchfaaGreatDoor
