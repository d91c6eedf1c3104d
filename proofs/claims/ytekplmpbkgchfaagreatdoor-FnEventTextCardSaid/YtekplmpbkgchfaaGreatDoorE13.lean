/- Methods, wants, calls, events: what the program and the reference compute. -/
import Derived.Test.YtekplmpbkgchfaaGreatDoorE12
import Derived.Lib.Split
import Derived.Lib.Join
import Derived.Lib.Atoi
import Derived.Lib.ItoaNum
import Derived.Shelf.Strings.Builder1
import Derived.Shelf.Strings.Builder2
import Derived.Shelf.Strings.OnBuilder
import Derived.Shelf.Strconv.Atoi
import Derived.Shelf.Strconv.Itoa0
import Derived.Shelf.Strconv.Itoa1
import Derived.Shelf.LaysM
import Derived.Shelf.Strconv.Itoa2
import Derived.Shelf.Strconv.Itoa3
import Derived.Shelf.Strconv.AtoiErrFast
import Derived.Shelf.Strconv.ParseIntEmpty
import Derived.Shelf.Strconv.AtoiFail
import Derived.Shelf.Strconv.Clone
import Derived.Shelf.Strconv.SyntaxError
import Derived.Shelf.LaysC
import Derived.Shelf.Strconv.ToError
import Derived.Shelf.Strconv.AtoiErr
import Derived.Shelf.Strconv.ErrVar
import Derived.Shelf.Strconv.Lower
import Derived.Shelf.Strconv.ParseUint10
import Derived.Shelf.Strconv.ParseUint10Empty
import Derived.Shelf.Strconv.ParseUint10Any
import Derived.Shelf.Strconv.ParseInt10
import Derived.Shelf.Strconv.AtoiLong
import Derived.Shelf.Strconv.AtoiInnerAll
import Derived.Shelf.Strconv.RangeError
import Derived.Shelf.Strconv.ToErrorRange
import Derived.Shelf.Strconv.AtoiAll
import Derived.Shelf.Strconv.ErrVarAll
import Derived.Shelf.Strings.Search1
import Derived.Shelf.Strings.Search2
import Derived.Shelf.Strings.Search3
import Derived.Shelf.Strings.Cut
import Derived.Shelf.Strings.Count
import Derived.Shelf.Strings.Shaped
import Derived.Shelf.Strings.Split
import Derived.Shelf.Strings.SplitShaped
import Derived.Shelf.Unicode.DecodeSlow
import Derived.Test.YtekplmpbkgchfaaGreatDoorProg
import Derived.Test.YtekplmpbkgchfaaGreatDoorE0
import Derived.Test.YtekplmpbkgchfaaGreatDoorE11
set_option linter.all false
set_option maxRecDepth 100000
namespace Go.Proofs.YtekplmpbkgchfaaGreatDoor
open Go.RowKit Go
variable [GC]
def mStart:ByteArray:=⟨#[83,116,97,114,116]⟩
def cM:ByteArray:=⟨#[83,116,111,112]⟩
def fH:ByteArray:=⟨#[71,101,116]⟩
def eQ:ByteArray:=⟨#[80,117,116]⟩
def jJ:ByteArray:=⟨#[84,101,108,108]⟩
def eP:ByteArray:=⟨#[72,101,97,114]⟩
def gN:ByteArray:=⟨#[76,111,97,100]⟩
def FV:ByteArray:=⟨#[83,97,118,101]⟩
def js:ByteArray:=⟨#[72,101,97,108]⟩
def methods:Nat->List ByteArray
 | 0=>[mStart,cM]
 | 1=>[fH,eQ]
 | 2=>[jJ]
 | 3=>[eP]
 | 4=>[gN,FV]
 | 5=>[js]
 | _=>[]
def aCb(k:Nat)(hk:k<6)(v0 v1 v2 v3 v4 v5:Value)(w:World):(Instr.index 182 (.agg #[v0,v1,v2,v3,v4,v5]) (.int .i64 k)).run Tryz.prog w= .ok ([v0,v1,v2,v3,v4,v5].getD k (.bool false)) w:=by
 obtain rfl|rfl|rfl|rfl|rfl|rfl:k=0\/k=1\/k=2\/k=3\/k=4\/k=5:=by omega
 all_goals kernel_rfl
def aCd: ∀(k:Fin 6),∀s,s∈methods k.val->s.size<=maxLen:=by decide
def aFb(k:Nat)(hk:k<6)(w:World)(M:Addr->Prop)(hM: ∀p,M p->p.block<w.heap.size) :
  Calls Tryz.prog 125 #[.int .i64 k] w fun e w'=> ∃v,e= .returned v/\R w' M (ax (methods k)) v/\Below w.heap.size w w':=by
 have hi:=aCb k hk;go_enter Tryz.func125,Tryz.ntmps125;go_wp2;go_returns;refine ⟨_,rfl,?_,by go_grown⟩;have hz:=aCd ⟨k,hk⟩;have hm: ∀n,∀o,¬M ⟨w.heap.size+n,o,none⟩:=fun n o h=>by have:=hM _ h;simp at this;omega
 obtain rfl|rfl|rfl|rfl|rfl|rfl:k=0\/k=1\/k=2\/k=3\/k=4\/k=5:=by omega
 ·exact Ek _ (rN (rN (rN (rN (rN (Fv (by simp))))))) rfl rfl (hm 0) hz (by decide)
 ·exact Ek _ (rN (rN (rN (rN (Fv (by simp)))))) rfl rfl (hm 1) hz (by decide)
 ·exact Ek _ (rN (rN (rN (Fv (by simp))))) rfl rfl (hm 2) hz (by decide)
 ·exact Ek _ (rN (rN (Fv (by simp)))) rfl rfl (hm 3) hz (by decide)
 ·exact Ek _ (rN (Fv (by simp))) rfl rfl (hm 4) hz (by decide)
 ·exact Ek _ (Fv (by simp)) rfl rfl (hm 5) hz (by decide)
def avs(k:Nat)(hk:k<6):aH Tryz.prog 125 none [.int .i64 k] (ax (methods k)) []:=by refine asU (by kernel_rfl) fun w M vs hM hr=> ?_;obtain ⟨v,q,rfl,⟨rfl,_⟩,rfl⟩:=hr;exact aFb k hk w M hM
def avW(k:Nat)(hk:k<6):eA Tryz.prog 183 none [.int .i64 k] (ax (methods k)) [] [(0,1)]:=by
 refine iT aod aG1 ⟨rfl,trivial⟩ fun hfit=> ?_;unfold aod;obtain rfl|rfl|rfl|rfl|rfl|rfl:k=0\/k=1\/k=2\/k=3\/k=4\/k=5:=by omega
 all_goals
  simp [VC.den,E.den,ba];rfl
def Er(s:ByteArray)(k:Nat):Bool:=hasB (methods k) s
def j9(s:ByteArray):Int:=match dG (Er s) 6 with|some k=>k|none=> -1
def ave(s:ByteArray):aH Tryz.prog 72 none [.str s] (.int .i64 (j9 s)) []:=by
 refine cB amI aFD ⟨trivial,trivial⟩ fun hfit=> ?_;unfold amI;refine eZ 6 (fun k=>[.int .i64 k]) (fun k=> ∀i,i<k->Er s i=false) rfl (by omega) ?_;intro k hk hI _;simp only [cA];apply aq<;>intro h2<;>simp only [eS] at h2
 ·have h2:k<6:=by simp at h2;omega
  refine aF (avs k h2) ?_;refine aF (avr (methods k) s) ?_;apply aq<;>intro h3<;>simp only [eS] at h3
  ·refine az ?_;simp [E.den,j9,Am h3 hI h2]
  ·refine dK h2 ?_ fun i hi=> ?_
   ·simp only [eS];rw [bW];rfl
   ·rcases dY i k with h|h
    ·exact hI i h
    ·obtain rfl:i=k:=by omega
     exact h3
 ·obtain rfl:k=6:=by simp at h2;omega
  exact az (by simp [E.den,j9,Al hI])
def avw(s:ByteArray):aH Tryz.prog 130 none [.str s] (.int .i64 (j9 s)) []:=by
 refine cB anc aF6 ⟨trivial,trivial⟩ fun hfit=> ?_;unfold anc;refine eZ 6 (fun k=>[.int .i64 k]) (fun k=> ∀i,i<k->Er s i=false) rfl (by omega) ?_;intro k hk hI _;simp only [cA];apply aq<;>intro h2<;>simp only [eS] at h2
 ·have h2:k<6:=by simp at h2;omega
  refine fQ (avW k h2) ?_;refine aF (mH (methods k) s) ?_;apply aq<;>intro h3<;>simp only [eS] at h3
  ·refine az ?_;simp [E.den,j9,Am h3 hI h2]
  ·refine dK h2 ?_ fun i hi=> ?_
   ·simp only [eS];rw [bW];rfl
   ·rcases dY i k with h|h
    ·exact hI i h
    ·obtain rfl:i=k:=by omega
     exact h3
 ·obtain rfl:k=6:=by simp at h2;omega
  exact az (by simp [E.den,j9,Al hI])
def auG(s:ByteArray):j9 s<6:=by
 unfold j9;cases h:dG (Er s) 6 with
 | none=>simp
 | some k=>have:=(ux h).1;simp;omega
def cm(s:ByteArray):Int:=if j9 s<0 then 0 else ((2^(j9 s).toNat:Nat):Int)
def ast(s:ByteArray):(cm s=0)↔j9 s<0:=by
 unfold cm;split
 ·simp [*]
 ·have:=Nat.two_pow_pos (j9 s).toNat;constructor<;>intro h<;>omega
def EX(s:ByteArray):aH Tryz.prog 76 none [.str s] (.int .i64 (cm s)) []:=by
 refine cB anW aGL ⟨trivial,trivial⟩ fun hfit=> ?_;unfold anW;refine aF (avw s) ?_;apply aq<;>intro h<;>simp only [eS] at h
 ·have h:j9 s<0:=by simpa using h
  exact az (by simp [E.den,cm,h])
 have h: ¬j9 s<0:=by simpa using h
 have h6:=auG s;refine aX (fun _=> ?_) (az ?_)
 ·simp [E.den,ba];omega
 ·have e:=auK ⟨(j9 s).toNat,by omega⟩;have e2:(((j9 s).toNat:Nat):Int)=j9 s:=by omega
  rw [e2] at e;simp only [eS,e];simp [cm,h]
def bZ(c:Call):Bool:= !decide (j9 c.method<0)&&(decide (c.text=aV)||decide (c.method=gN)) &&
 ((decide (c.method=fH)||decide (c.method=eQ))&&jj c.key|| !(decide (c.method=fH)||decide (c.method=eQ))&&decide (c.key=aV)) &&
 (decide (c.val=0)||(decide (c.method=eQ)||decide (c.method=eP))&&decide (0<c.val)&&decide (c.val<=999))
def uK:fH≠eQ/\fH≠eP/\eQ≠eP:=by decide
def LA(c:Call):aH Tryz.prog 36 none [enc c] (.bool (bZ c)) []:=by
 refine cB ann aGh ⟨zz c,trivial⟩ fun hfit=> ?_;unfold ann;refine aF (EX c.method) ?_;refine aF (LB c.key) ?_;apply aq<;>intro h<;>simp only [eS,bL] at h
 ·have:=ast c.method;have:=uK;refine az ?_;simp only [E.den,D.bool.injEq];unfold bZ fH eQ eP gN aV at *;grind
 have:=ast c.method;have:=uK;refine az ?_;simp only [eS,bL];simp only [D.bool.injEq];unfold bZ fH eQ eP gN aV at *;grind
def EV(c:Call):aH Tryz.prog 32 none [enc c] (.bool (bZ c)) []:=by
 refine cB amN aFH ⟨zz c,trivial⟩ fun hfit=> ?_;have hn:=uK;unfold amN;refine aF (ave c.method) ?_;apply aq<;>intro h<;>simp only [eS,bL] at h
 ·refine az ?_;simp only [E.den,D.bool.injEq];unfold bZ fH eQ eP gN aV at *;grind
 apply aq<;>intro h1<;>simp only [eS,bL] at h1
 ·refine aF (Q4 c.key) ?_;refine az ?_;simp only [eS,bL];simp only [D.bool.injEq];unfold bZ fH eQ eP gN aV at *;grind
 apply aq<;>intro h2<;>simp only [eS,bL] at h2
 ·refine aF (Q4 c.key) ?_;refine aF (K9 c.val) ?_;refine az ?_;simp only [eS,bL];simp only [D.bool.injEq];unfold bZ fH eQ eP gN aV gH at *;grind
 apply aq<;>intro h3<;>simp only [eS,bL] at h3
 ·refine aF (K9 c.val) ?_;refine az ?_;simp only [eS,bL];simp only [D.bool.injEq];unfold bZ fH eQ eP gN aV gH at *;grind
 refine az ?_;simp only [eS,bL];simp only [D.bool.injEq];unfold bZ fH eQ eP gN aV at *;grind
def gB:Call:=⟨aV,aV,0,aV⟩
def agv(c:Call):lZ [.str c.method,.str c.key,.int .i64 c.val,.str c.text] [.str ⟨#[]⟩,.str ⟨#[]⟩,.int .i64 0,.str ⟨#[]⟩]=decide (c=gB):=axv c gB
def avt(c:Call):aH Tryz.prog 33 none [enc c] (.bool (decide (c=gB))) []:=by refine cB am9 aF2 ⟨zz c,trivial⟩ fun hfit=> ?_;unfold am9;refine az ?_;simp only [eS,bL,agv]
def gj(e:Event):Bool:=decide (1<=e.kind)&&decide (e.kind<=5)&&jj e.name&&(decide (e.kind=3)&&bZ e.call|| !decide (e.kind=3)&&decide (e.call=gB))&&(decide (e.kind=5)&&gO e.recipe|| !decide (e.kind=5)&&decide (e.recipe.length=0))
def Ya(e:Event):aH Tryz.prog 11 none [enc e] (.bool (gj e)) []:=by
 refine cB anr aGl ⟨zA e,trivial⟩ fun hfit=> ?_;unfold anr;refine aF (Cq e.recipe) ?_;refine aF (LA e.call) ?_;refine aF (LB e.name) ?_;apply aq<;>intro h<;>simp only [eS,fP] at h
 ·refine az ?_;simp only [E.den,D.bool.injEq];unfold gj;grind
 apply aq<;>intro h1<;>simp only [eS,fP,agv] at h1
 ·refine az ?_;simp only [E.den,D.bool.injEq];unfold gj;grind
 refine az ?_;simp only [eS,fP];simp only [D.bool.injEq];unfold gj;grind
def Ic(e:Event):aH Tryz.prog 10 none [enc e] (.bool (gj e)) []:=by
 refine cB amQ aFK ⟨zA e,trivial⟩ fun hfit=> ?_;unfold amQ;refine aF (Q4 e.name) ?_;apply aq<;>intro h<;>simp only [eS,fP] at h
 ·refine az ?_;simp only [E.den,D.bool.injEq];unfold gj;grind
 refine aF (EV e.call) ?_;refine aF (avt e.call) ?_;apply aq<;>intro h1<;>simp only [eS,fP] at h1
 ·refine az ?_;simp only [E.den,D.bool.injEq];unfold gj;grind
 apply aq<;>intro h2<;>simp only [eS,fP] at h2
 ·refine aF (avn e.recipe) ?_;refine az ?_;simp only [eS,fP];simp only [D.bool.injEq];unfold gj;grind
 refine az ?_;simp only [eS,fP];simp only [D.bool.injEq];unfold gj;grind
end Go.Proofs.YtekplmpbkgchfaaGreatDoor
namespace Go.Proofs.YtekplmpbkgchfaaGreatDoor
def fR(n:Nat):List UInt8 :=
 if n<10 then [UInt8.ofNat (48+n)] else if n<100 then [UInt8.ofNat (48+n/10),UInt8.ofNat (48+n%10)] else [UInt8.ofNat (48+n/100),UInt8.ofNat (48+n/10%10),UInt8.ofNat (48+n%10)]
def Yu{n:Nat}(h:n<1000):Lib.decDigits n=fR n:=by
 unfold fR;by_cases h1:n<10
 ·rw [aA h1,Lib.decDigits,dif_pos h1]
 ·rw [ak h1,Lib.decDigits,dif_neg h1];by_cases h2:n<100
  ·rw [aA h2,Lib.decDigits,dif_pos (by omega)];rfl
  ·rw [ak h2,Lib.decDigits,dif_neg (by omega),Lib.decDigits,dif_pos (by omega),show n/10/10=n/100 by omega];rfl
def aaq(b:UInt8):Bool:=decide (48<=b.toNat/\b.toNat<=57)
def uY(l:List UInt8):Int:=(l.take 4).foldl (fun n c=>10*n+(c.toNat:Int)-48) 0
def LM: ∀n∈List.range 1000,(Lib.atoi (fR n)=some (n:Int)/\uY (fR n)=(n:Int)/\0<(fR n).length/\(fR n).length<=3)/\(fR n).all aaq=true:=by decide +kernel
def Yx{n:Nat}(h:n<1000):Lib.atoi (fR n)=some (n:Int):=(LM n (pW.2 h)).1.1
def aw7{n:Nat}(h:n<1000):uY (fR n)=(n:Int):=(LM n (pW.2 h)).1.2.1
def af3{n:Nat}(h:n<1000):0<(fR n).length:=(LM n (pW.2 h)).1.2.2.1
def Il{n:Nat}(h:n<1000):(fR n).length<=3:=(LM n (pW.2 h)).1.2.2.2
def aw5{n:Nat}(h:n<1000):(fR n).all aaq=true:=(LM n (pW.2 h)).2
def aw6{n m:Nat}(hn:n<1000)(hm:m<1000)(h:fR n=fR m):n=m:=by have h1:=Yx hn;have h2:=Yx hm;rw [h,h2] at h1;simp at h1;omega
def kB(l:List UInt8):Option Nat:=(List.range 1000).find? fun n=>decide (fR n=l)
def Ba{l:List UInt8}{n:Nat}:kB l=some n↔n<1000/\fR n=l:=by
 unfold kB;constructor
 ·intro h;exact ⟨pW.1 (aeU h),by simpa using List.find?_some h⟩
 ·rintro ⟨h1,h2⟩;cases hf:(List.range 1000).find? fun n=>decide (fR n=l) with
  | none=>have:=List.find?_eq_none.1 hf n (pW.2 h1);simp [h2] at this
  | some m =>
   have hm:=pW.1 (aeU hf);have he:fR m=l:=by simpa using List.find?_some hf
   rw [aw6 hm h1 (he.trans h2.symm)]
def aj4{n:Nat}(h:n<1000):kB (fR n)=some n:=Ba.2 ⟨h,rfl⟩
def aku{c:UInt8}{t l:List UInt8}(h:l.head?≠some c):(c::t).isPrefixOf l=false:=by
 cases l with
 | nil=>rfl
 | cons b r => have:c≠b:=fun e=>h (by simp [e]);simp [List.isPrefixOf,this]
def index_none'{c:UInt8}{t:List UInt8}: ∀{x:List UInt8},c∉x->Lib.index x (c::t)= -1
 | [],_=>rfl
 | b::x,h=>by unfold Lib.index;rw [aku (by intro e;simp at e;exact h (by simp [e])),index_none' (x:=x) (fun e=>h (by simp [e]))];rfl
def Tb{c:UInt8}{t rest:List UInt8}: ∀{x:List UInt8},c∉x->Lib.index (x++((c::t)++rest)) (c::t)=x.length
 | [],_=>by
  simp only [iw,iH,zW];unfold Lib.index;have:(c::t).isPrefixOf (c::(t++rest))=true:=by rw [List.isPrefixOf_iff_prefix];exact ⟨rest,rfl⟩
  rw [this];rfl
 | b::x,h=>by have hx:c∉x:=fun e=>h (by simp [e]);have ih:=Tb (t:=t) (rest:=rest) hx;rw [iH];unfold Lib.index;rw [aku (by intro e;simp at e;exact h (by simp [e])),ih];simp
def NH{s sep:List UInt8}(h:Lib.index s sep= -1):Lib.split s sep=[s]:=by unfold Lib.split;rw [Lib.count_miss h];rfl
def Us{s sep:List UInt8}{i:Nat}(MT:sep≠[])(h:Lib.index s sep=i):Lib.split s sep=s.take i::Lib.split (s.drop (i+sep.length)) sep:=by unfold Lib.split;rw [Lib.count_hit MT h,Ck 1,Lib.splitK];rw [ak (by rw [h];simp),h];simp
def alK{c:UInt8}{t:List UInt8}: ∀{l:List (List UInt8)},l≠[]->(∀x∈l,c∉x)->Lib.split (Lib.join l (c::t)) (c::t)=l
 | [],h,_=>absurd rfl h
 | [x],_,h=>by rw [Lib.join_one];exact NH (index_none' (h x (by simp)))
 | x::y::r,_,h=>by
  have e:Lib.join (x::y::r) (c::t)=x++((c::t)++Lib.join (y::r) (c::t)):=by rw [Lib.join_cons,Lib.join_cons];simp [Lib.joinTail]
  rw [e,Us (by simp) (Tb (h x (by simp)))];have ih:=alK (c:=c) (t:=t) (l:=y::r) (by simp) (fun z hz=>h z (by simp [hz]));rw [Xw, <-iG,Xn (by simp)]
  ·rw [ih]
  ·rfl
def aaw{sep:List UInt8}(MT:sep≠[]): ∀(n:Nat) (s:List UInt8),s.length<=n->Lib.join (Lib.split s sep) sep=s/\Lib.split s sep≠[]
 | n,s,hn=>by
  rcases Lib.index_spec s sep with ⟨h,_⟩|⟨i,h,h1,h2,_⟩
  ·rw [NH h];exact ⟨Lib.join_one _ _,by simp⟩
  ·rw [Us MT h];have hroom:=Lib.index_room s sep (by rw [h];omega);have hpos:0<sep.length:=PR.2 MT;rw [h] at hroom;have hlt:(s.drop (i+sep.length)).length<s.length:=by simp;omega
   cases n with
   | zero=>omega
   | succ n =>
    obtain ⟨q1,q2⟩:=aaw MT n (s.drop (i+sep.length)) (by omega);refine ⟨?_,by simp⟩;cases hsp:Lib.split (s.drop (i+sep.length)) sep with
    | nil=>exact absurd hsp q2
    | cons y r =>
     rw [hsp] at q1;have e:Lib.join (s.take i::y::r) sep=s.take i++(sep++Lib.join (y::r) sep):=by rw [Lib.join_cons,Lib.join_cons];simp [Lib.joinTail]
     rw [e,q1];have aim:=Lib.occAt_iff_take s sep i (by omega);rw [h2] at aim;have hs:(s.drop i).take sep.length=sep:=by simpa using aim.symm
     have e2:s.drop (i+sep.length)=(s.drop i).drop sep.length:=by rw [Ch]
     rw [e2]
     conv=>lhs;rw [show sep++(s.drop i).drop sep.length=(s.drop i).take sep.length++(s.drop i).drop sep.length by rw [hs]]
     rw [Ez,Ez]
def afP{c:UInt8}{t rest x:List UInt8}(h:c∉x):Lib.cut (x++((c::t)++rest)) (c::t)=(x,rest,true):=by unfold Lib.cut;rw [Tb h,aA (by omega)];simp
def afR{c:UInt8}{t x:List UInt8}(h:c∉x):Lib.cut x (c::t)=(x,[],false):=by unfold Lib.cut;rw [index_none' h];rfl
end Go.Proofs.YtekplmpbkgchfaaGreatDoor
namespace Go.Proofs
open Go.Proofs.YtekplmpbkgchfaaGreatDoor
open Go.Shelf
def Tryz.ajh:Go.Shelf.Ren:=⟨fun|156=>71|165=>122|166=>123|169=>124|240=>177|241=>178|276=>212|277=>213|n=>n,fun|31=>26|9=>9|3=>3|4=>4|0=>0|20=>20|72=>151|76=>146|70=>149|37=>22|75=>145|127=>181|164=>212|5=>5|80=>152|n=>n,fun|n=>n⟩
def Tryz.ajg:Go.Proofs.Lays.n156 Tryz.prog Tryz.ajh:={
 mixed:=by kernel_rfl
 f156:=bi Tryz.func71
 f165:=bi Tryz.func122
 f166:=bi Tryz.func123
 f169:=bi Tryz.func124
 f240:=bi Tryz.func177
 f241:=bi Tryz.func178
 f276:=bi Tryz.func212
 f277:=bi Tryz.func213
 t0:=Hq
 a0:=Hg
 z0:=Hl
 v0:=Hv
 t3:=lL
 a3:=ED
 z3:=EI
 v3:=EN
 t4:=Cl
 a4:=EE
 z4:=EJ
 v4:=EO
 t9:=jq
 a9:=EG
 z9:=EL
 v9:=EQ
 t20:=KN
 a20:=KI
 z20:=KL
 v20:=KR
 t31:=fY
 a31:=Tryz.isAgg26
 z31:=Tryz.sizeOf26
 v31:=Tryz.zeroValue26
 t37:=KO
 a37:=KJ
 z37:=KM
 v37:=KS
 t70:=Tryz.underlying149
 a70:=Tryz.isAgg149
 z70:=Tryz.sizeOf149
 v70:=Tryz.zeroValue149
 t72:=Tryz.underlying151
 a72:=Tryz.isAgg151
 z72:=Tryz.sizeOf151
 v72:=Tryz.zeroValue151
 t75:=QB
 a75:=Tryz.isAgg145
 z75:=XD
 v75:=XM
 t76:=XG
 a76:=Tryz.isAgg146
 z76:=XE
 v76:=XN
 t127:=XH
 a127:=Tryz.isAgg181
 z127:=XF
 v127:=XO
 t164:=Tryz.underlying212
 a164:=Tryz.isAgg212
 z164:=Tryz.sizeOf212
 v164:=Tryz.zeroValue212}
def Tryz.aej:Builder.Extra Tryz.prog Tryz.ajh:={
 sizeBuilder:=by kernel_rfl
 liesBuilder:=by kernel_rfl
 t5:=EM
 a5:=EF
 z5:=EK
 v5:=EP
 infoByte:=by kernel_rfl
 cellsByte:=by kernel_rfl
 sizeByte:=by kernel_rfl
 neB5:=by decide}
open Go.RowKit in
def Tryz.strings_Join_none(a:Option Addr)(c:Nat)(sep:ByteArray)(w:World) :
  Calls Tryz.prog 71 #[.slice a 0 c,.string sep] w fun e w'=>e= .returned (.string ⟨#[]⟩)/\w'=w:=Any.strings_Join_none Tryz.ajg Tryz.aej a c sep w
open Go.RowKit in
def Tryz.strings_Join(bk o c:Nat)(xs:List ByteArray)(sep:ByteArray)(w:World)(hcells: ∀(j:Nat) x,xs[j]? =some x->w.cell? ⟨bk,o+j,none⟩=some (.string x))(hbk:bk<w.heap.size)(hN:xs.length<=140737488355328)(hcap:xs.length<=c)(hlen:(Lib.join (xs.map (·.data.toList)) sep.data.toList).length<=140737488355328) :
  Calls Tryz.prog 71 #[.slice (some ⟨bk,o,none⟩) xs.length c,.string sep] w fun e w'=>e= .returned (.string ⟨(Lib.join (xs.map (·.data.toList)) sep.data.toList).toArray⟩)/\Below w.heap.size w w':=Any.strings_Join Tryz.ajg Tryz.aej bk o c xs sep w hcells hbk hN hcap hlen
def Tryz.aBi:Go.Shelf.Ren:=⟨fun|172=>117|244=>171|245=>172|247=>205|279=>206|280=>207|281=>208|282=>209|287=>227|316=>228|171=>121|205=>229|321=>239|322=>240|243=>176|246=>211|283=>230|284=>231|285=>232|286=>233|129=>242|317=>241|318=>243|319=>244|320=>245|337=>251|338=>252|n=>n,fun|9=>9|3=>3|75=>145|76=>146|4=>4|5=>5|167=>205|37=>22|0=>0|85=>206|2=>2|168=>208|53=>227|175=>228|46=>159|210=>232|127=>181|145=>249|143=>247|21=>21|171=>238|173=>241|212=>251|51=>202|20=>20|213=>252|232=>256|233=>257|80=>152|n=>n,fun|15=>2|16=>3|17=>6|18=>7|19=>8|n=>n⟩
def Tryz.aBh:Go.Proofs.Lays.n172 Tryz.prog Tryz.aBi:={
 mixed:=by kernel_rfl
 f129:=bi Qe
 f171:=bi P6
 f172:=bi Tryz.func117
 f205:=bi Tryz.func229
 f243:=bi P7
 f244:=bi Tryz.func171
 f245:=bi Tryz.func172
 f246:=bi P8
 f247:=bi Tryz.func205
 f279:=bi Tryz.func206
 f280:=bi Tryz.func207
 f281:=bi Tryz.func208
 f282:=bi Tryz.func209
 f283:=bi P9
 f284:=bi Qa
 f285:=bi Qb
 f286:=bi Qc
 f287:=bi Tryz.func227
 f316:=bi Tryz.func228
 f317:=bi Qd
 f318:=bi Qf
 f319:=bi Qg
 f320:=bi Qh
 f321:=bi Tryz.func239
 f322:=bi Tryz.func240
 f337:=bi Qi
 f338:=bi Qj
 t0:=Hq
 a0:=Hg
 z0:=Hl
 v0:=Hv
 t2:=QC
 a2:=Qk
 z2:=Qt
 v2:=QI
 t3:=lL
 a3:=ED
 z3:=EI
 v3:=EN
 t4:=Cl
 a4:=EE
 z4:=EJ
 v4:=EO
 t5:=EM
 a5:=EF
 z5:=EK
 v5:=EP
 t9:=jq
 a9:=EG
 z9:=EL
 v9:=EQ
 t20:=KN
 a20:=KI
 z20:=KL
 v20:=KR
 t21:=XI
 a21:=Tryz.isAgg21
 z21:=Tryz.sizeOf21
 v21:=XP
 t37:=KO
 a37:=KJ
 z37:=KM
 v37:=KS
 t46:=Ht
 a46:=Hj
 z46:=Hm
 v46:=Hw
 t51:=Hu
 a51:=Hk
 z51:=Ho
 v51:=Hy
 t53:=KP
 a53:=Ql
 z53:=Qu
 v53:=QJ
 t75:=QB
 a75:=Tryz.isAgg145
 z75:=XD
 v75:=XM
 t76:=XG
 a76:=Tryz.isAgg146
 z76:=XE
 v76:=XN
 t85:=Tryz.underlying206
 a85:=Tryz.isAgg206
 z85:=Tryz.sizeOf206
 v85:=Tryz.zeroValue206
 t127:=XH
 a127:=Tryz.isAgg181
 z127:=XF
 v127:=XO
 t143:=XJ
 a143:=Tryz.isAgg247
 z143:=Tryz.sizeOf247
 v143:=Tryz.zeroValue247
 t145:=XK
 a145:=Tryz.isAgg249
 z145:=Tryz.sizeOf249
 v145:=Tryz.zeroValue249
 t167:=Tryz.underlying205
 a167:=Tryz.isAgg205
 z167:=Tryz.sizeOf205
 v167:=Tryz.zeroValue205
 t168:=Tryz.underlying208
 a168:=Tryz.isAgg208
 z168:=Tryz.sizeOf208
 v168:=Tryz.zeroValue208
 t171:=QD
 a171:=Qm
 z171:=Qv
 v171:=QK
 t173:=QE
 a173:=Qn
 z173:=Qw
 v173:=QL
 t175:=Tryz.underlying228
 a175:=Tryz.isAgg228
 z175:=Tryz.sizeOf228
 v175:=Tryz.zeroValue228
 t210:=Tryz.underlying232
 a210:=Tryz.isAgg232
 z210:=Tryz.sizeOf232
 v210:=Tryz.zeroValue232
 t212:=KQ
 a212:=Qo
 z212:=Qx
 v212:=QM
 t213:=QF
 a213:=Qq
 z213:=Qy
 t232:=QG
 a232:=Qr
 z232:=Qz
 v232:=QN
 t233:=QH
 a233:=Qs
 z233:=QA
 v233:=QP
 g15:=by kernel_rfl
 g16:=by kernel_rfl
 g17:=by kernel_rfl
 g18:=by kernel_rfl
 g19:=by kernel_rfl}
open Go.RowKit in
def Tryz.strconv_Atoi(s:ByteArray)(n:Int)(hl:s.size<=18)(h:Lib.atoi s.data.toList=some n)(w:World) :
  Calls Tryz.prog 117 #[.string s] w fun e w'=>e= .returned (.tuple #[.int .i64 n,.nilIface])/\ ∃t,w'=Lib.bytesWorld w 5 t:=Any.strconv_Atoi Tryz.aBh s n hl h w
def Tryz.aBm:Go.Shelf.Ren:=⟨fun|171=>121|243=>176|246=>211|283=>230|284=>231|285=>232|286=>233|129=>242|317=>241|318=>243|319=>244|320=>245|337=>251|338=>252|n=>n,fun|3=>3|9=>9|2=>2|4=>4|171=>238|0=>0|53=>227|37=>22|5=>5|173=>241|212=>251|51=>202|20=>20|213=>252|46=>159|232=>256|233=>257|n=>n,fun|17=>6|18=>7|19=>8|n=>n⟩
def Tryz.aBl:Go.Proofs.LaysM.n171 Tryz.prog Tryz.aBm:={
 mixed:=by kernel_rfl
 f129:=bi Qe
 f171:=bi P6
 f243:=bi P7
 f246:=bi P8
 f283:=bi P9
 f284:=bi Qa
 f285:=bi Qb
 f286:=bi Qc
 f317:=bi Qd
 f318:=bi Qf
 f319:=bi Qg
 f320:=bi Qh
 f337:=bi Qi
 f338:=bi Qj
 t0:=Hq
 a0:=Hg
 z0:=Hl
 v0:=Hv
 t2:=QC
 a2:=Qk
 z2:=Qt
 v2:=QI
 t3:=lL
 a3:=ED
 z3:=EI
 v3:=EN
 t4:=Cl
 a4:=EE
 z4:=EJ
 v4:=EO
 t5:=EM
 a5:=EF
 z5:=EK
 v5:=EP
 t9:=jq
 a9:=EG
 z9:=EL
 v9:=EQ
 t20:=KN
 a20:=KI
 z20:=KL
 v20:=KR
 t37:=KO
 a37:=KJ
 z37:=KM
 v37:=KS
 t46:=Ht
 a46:=Hj
 z46:=Hm
 v46:=Hw
 t51:=Hu
 a51:=Hk
 z51:=Ho
 v51:=Hy
 t53:=KP
 a53:=Ql
 z53:=Qu
 v53:=QJ
 t171:=QD
 a171:=Qm
 z171:=Qv
 v171:=QK
 t173:=QE
 a173:=Qn
 z173:=Qw
 v173:=QL
 t212:=KQ
 a212:=Qo
 z212:=Qx
 v212:=QM
 t213:=QF
 a213:=Qq
 z213:=Qy
 t232:=QG
 a232:=Qr
 z232:=Qz
 v232:=QN
 t233:=QH
 a233:=Qs
 z233:=QA
 v233:=QP
 g17:=by kernel_rfl
 g18:=by kernel_rfl
 g19:=by kernel_rfl
 i0:=by kernel_rfl
 i2:=by kernel_rfl
 i3:=by kernel_rfl
 i4:=by kernel_rfl
 i5:=by kernel_rfl
 i9:=by kernel_rfl
 i20:=by kernel_rfl
 i37:=by kernel_rfl
 i46:=by kernel_rfl
 i51:=by kernel_rfl
 i53:=by kernel_rfl
 i171:=by kernel_rfl
 i173:=by kernel_rfl
 i212:=by kernel_rfl
 i232:=by kernel_rfl
 i233:=by kernel_rfl
 m17:=by kernel_rfl
 m18:=by kernel_rfl
 m19:=by kernel_rfl}
def Tryz.aBg:Go.Shelf.Ren:=⟨fun|171=>121|243=>176|246=>211|283=>230|284=>231|285=>232|286=>233|129=>242|317=>241|318=>243|319=>244|320=>245|337=>251|338=>252|n=>n,fun|3=>3|9=>9|2=>2|4=>4|171=>238|0=>0|53=>227|37=>22|5=>5|173=>241|212=>251|51=>202|20=>20|213=>252|46=>159|232=>256|233=>257|n=>n,fun|17=>6|18=>7|19=>8|n=>n⟩
def Tryz.aBf:Go.Proofs.Lays.n171 Tryz.prog Tryz.aBg:={
 mixed:=by kernel_rfl
 f129:=bi Qe
 f171:=bi P6
 f243:=bi P7
 f246:=bi P8
 f283:=bi P9
 f284:=bi Qa
 f285:=bi Qb
 f286:=bi Qc
 f317:=bi Qd
 f318:=bi Qf
 f319:=bi Qg
 f320:=bi Qh
 f337:=bi Qi
 f338:=bi Qj
 t0:=Hq
 a0:=Hg
 z0:=Hl
 v0:=Hv
 t2:=QC
 a2:=Qk
 z2:=Qt
 v2:=QI
 t3:=lL
 a3:=ED
 z3:=EI
 v3:=EN
 t4:=Cl
 a4:=EE
 z4:=EJ
 v4:=EO
 t5:=EM
 a5:=EF
 z5:=EK
 v5:=EP
 t9:=jq
 a9:=EG
 z9:=EL
 v9:=EQ
 t20:=KN
 a20:=KI
 z20:=KL
 v20:=KR
 t37:=KO
 a37:=KJ
 z37:=KM
 v37:=KS
 t46:=Ht
 a46:=Hj
 z46:=Hm
 v46:=Hw
 t51:=Hu
 a51:=Hk
 z51:=Ho
 v51:=Hy
 t53:=KP
 a53:=Ql
 z53:=Qu
 v53:=QJ
 t171:=QD
 a171:=Qm
 z171:=Qv
 v171:=QK
 t173:=QE
 a173:=Qn
 z173:=Qw
 v173:=QL
 t212:=KQ
 a212:=Qo
 z212:=Qx
 v212:=QM
 t213:=QF
 a213:=Qq
 z213:=Qy
 t232:=QG
 a232:=Qr
 z232:=Qz
 v232:=QN
 t233:=QH
 a233:=Qs
 z233:=QA
 v233:=QP
 g17:=by kernel_rfl
 g18:=by kernel_rfl
 g19:=by kernel_rfl}
open Go.RowKit Go.Sort Go.Lib in
def Tryz.strconv_Itoa_small(i:Nat)(hi:i<100)(w:World) :
  Calls Tryz.prog 121 #[.int .i64 i] w fun e w'=>e= .returned (.string ⟨(Lib.decDigits i).toArray⟩)/\w'=w:=Any.strconv_Itoa_small Tryz.aBf i hi w
def Tryz.aBk:Go.Shelf.Ren:=⟨fun|172=>117|244=>171|245=>172|247=>205|279=>206|280=>207|281=>208|282=>209|287=>227|316=>228|171=>121|205=>229|321=>239|322=>240|243=>176|246=>211|283=>230|284=>231|285=>232|286=>233|129=>242|317=>241|318=>243|319=>244|320=>245|337=>251|338=>252|n=>n,fun|9=>9|3=>3|75=>145|76=>146|4=>4|5=>5|167=>205|37=>22|0=>0|85=>206|2=>2|168=>208|53=>227|175=>228|46=>159|210=>232|127=>181|145=>249|143=>247|21=>21|171=>238|173=>241|212=>251|51=>202|20=>20|213=>252|232=>256|233=>257|80=>152|n=>n,fun|15=>2|16=>3|17=>6|18=>7|19=>8|n=>n⟩
def Tryz.aBj:Go.Proofs.LaysC.n172 Tryz.prog Tryz.aBk:={
 mixed:=by kernel_rfl
 f129:=bi Qe
 f171:=bi P6
 f172:=bi Tryz.func117
 f205:=bi Tryz.func229
 f243:=bi P7
 f244:=bi Tryz.func171
 f245:=bi Tryz.func172
 f246:=bi P8
 f247:=bi Tryz.func205
 f279:=bi Tryz.func206
 f280:=bi Tryz.func207
 f281:=bi Tryz.func208
 f282:=bi Tryz.func209
 f283:=bi P9
 f284:=bi Qa
 f285:=bi Qb
 f286:=bi Qc
 f287:=bi Tryz.func227
 f316:=bi Tryz.func228
 f317:=bi Qd
 f318:=bi Qf
 f319:=bi Qg
 f320:=bi Qh
 f321:=bi Tryz.func239
 f322:=bi Tryz.func240
 f337:=bi Qi
 f338:=bi Qj
 t0:=Hq
 a0:=Hg
 z0:=Hl
 v0:=Hv
 t2:=QC
 a2:=Qk
 z2:=Qt
 v2:=QI
 t3:=lL
 a3:=ED
 z3:=EI
 v3:=EN
 t4:=Cl
 a4:=EE
 z4:=EJ
 v4:=EO
 t5:=EM
 a5:=EF
 z5:=EK
 v5:=EP
 t9:=jq
 a9:=EG
 z9:=EL
 v9:=EQ
 t20:=KN
 a20:=KI
 z20:=KL
 v20:=KR
 t21:=XI
 a21:=Tryz.isAgg21
 z21:=Tryz.sizeOf21
 v21:=XP
 t37:=KO
 a37:=KJ
 z37:=KM
 v37:=KS
 t46:=Ht
 a46:=Hj
 z46:=Hm
 v46:=Hw
 t51:=Hu
 a51:=Hk
 z51:=Ho
 v51:=Hy
 t53:=KP
 a53:=Ql
 z53:=Qu
 v53:=QJ
 t75:=QB
 a75:=Tryz.isAgg145
 z75:=XD
 v75:=XM
 t76:=XG
 a76:=Tryz.isAgg146
 z76:=XE
 v76:=XN
 t85:=Tryz.underlying206
 a85:=Tryz.isAgg206
 z85:=Tryz.sizeOf206
 v85:=Tryz.zeroValue206
 t127:=XH
 a127:=Tryz.isAgg181
 z127:=XF
 v127:=XO
 t143:=XJ
 a143:=Tryz.isAgg247
 z143:=Tryz.sizeOf247
 v143:=Tryz.zeroValue247
 t145:=XK
 a145:=Tryz.isAgg249
 z145:=Tryz.sizeOf249
 v145:=Tryz.zeroValue249
 t167:=Tryz.underlying205
 a167:=Tryz.isAgg205
 z167:=Tryz.sizeOf205
 v167:=Tryz.zeroValue205
 t168:=Tryz.underlying208
 a168:=Tryz.isAgg208
 z168:=Tryz.sizeOf208
 v168:=Tryz.zeroValue208
 t171:=QD
 a171:=Qm
 z171:=Qv
 v171:=QK
 t173:=QE
 a173:=Qn
 z173:=Qw
 v173:=QL
 t175:=Tryz.underlying228
 a175:=Tryz.isAgg228
 z175:=Tryz.sizeOf228
 v175:=Tryz.zeroValue228
 t210:=Tryz.underlying232
 a210:=Tryz.isAgg232
 z210:=Tryz.sizeOf232
 v210:=Tryz.zeroValue232
 t212:=KQ
 a212:=Qo
 z212:=Qx
 v212:=QM
 t213:=QF
 a213:=Qq
 z213:=Qy
 t232:=QG
 a232:=Qr
 z232:=Qz
 v232:=QN
 t233:=QH
 a233:=Qs
 z233:=QA
 v233:=QP
 g15:=by kernel_rfl
 g16:=by kernel_rfl
 g17:=by kernel_rfl
 g18:=by kernel_rfl
 g19:=by kernel_rfl
 t80:=Tryz.underlying152
 a80:=Tryz.isAgg152
 z80:=Tryz.sizeOf152
 v80:=Tryz.zeroValue152
 i0:=by kernel_rfl
 i2:=by kernel_rfl
 i3:=by kernel_rfl
 i4:=by kernel_rfl
 i5:=by kernel_rfl
 i9:=by kernel_rfl
 i20:=by kernel_rfl
 i21:=by kernel_rfl
 i37:=by kernel_rfl
 i46:=by kernel_rfl
 i51:=by kernel_rfl
 i53:=by kernel_rfl
 i75:=by kernel_rfl
 i76:=by kernel_rfl
 i80:=by kernel_rfl
 i85:=by kernel_rfl
 i127:=by kernel_rfl
 i143:=by kernel_rfl
 i145:=by kernel_rfl
 i167:=by kernel_rfl
 i168:=by kernel_rfl
 i171:=by kernel_rfl
 i173:=by kernel_rfl
 i175:=by kernel_rfl
 i210:=by kernel_rfl
 i212:=by kernel_rfl
 i232:=by kernel_rfl
 i233:=by kernel_rfl
 m15:=by kernel_rfl
 m16:=by kernel_rfl
 m17:=by kernel_rfl
 m18:=by kernel_rfl
 m19:=by kernel_rfl
 c0:=by kernel_rfl
 c2:=by kernel_rfl
 c3:=by kernel_rfl
 c4:=by kernel_rfl
 c5:=by kernel_rfl
 c9:=by kernel_rfl
 c20:=by kernel_rfl
 c21:=by kernel_rfl
 c37:=by kernel_rfl
 c46:=by kernel_rfl
 c51:=by kernel_rfl
 c53:=by kernel_rfl
 c75:=by kernel_rfl
 c76:=by kernel_rfl
 c80:=by kernel_rfl
 c85:=by kernel_rfl
 c127:=by kernel_rfl
 c143:=by kernel_rfl
 c145:=by kernel_rfl
 c167:=by kernel_rfl
 c168:=by kernel_rfl
 c171:=by kernel_rfl
 c173:=by kernel_rfl
 c175:=by kernel_rfl
 c210:=by kernel_rfl
 c212:=by kernel_rfl
 c213:=by kernel_rfl
 c232:=by kernel_rfl
 c233:=by kernel_rfl}
open Go.RowKit in
def Tryz.strconv_Atoi_err(s:ByteArray)(hl:s.size<=18)(h:Lib.atoi s.data.toList=none)(ev:Value)(w:World)(hv:w.cell? ⟨2,0,none⟩=some ev)(hev:ev= .nilIface\/ ∃te pe,ev= .iface te pe) :
  Calls Tryz.prog 117 #[.string s] w fun e w'=> ∃N,e= .returned (.tuple #[.int .i64 0,.iface 208 (.pointer (some ⟨N,0,none⟩))])/\w.heap.size<=N/\w'.heap[N]? =some (.cells #[.string ⟨#[65,116,111,105]⟩,.string s,ev] 232 (0,0))/\Below w.heap.size w w':=Any.strconv_Atoi_err Tryz.aBj s hl h ev w hv hev
def Tryz.aBc:Go.Shelf.Ren:=⟨fun|145=>26|220=>67|219=>116|217=>167|225=>168|224=>169|267=>170|266=>203|314=>204|n=>n,fun|9=>9|4=>4|59=>64|3=>3|5=>5|46=>159|146=>203|51=>202|n=>n,fun|1=>1|n=>n⟩
def Tryz.aBb:Go.Proofs.Lays.n145 Tryz.prog Tryz.aBc:={
 mixed:=by kernel_rfl
 f145:=bi Tryz.func26
 f217:=bi Tryz.func167
 f219:=bi Tryz.func116
 f220:=bi Tryz.func67
 f224:=bi Tryz.func169
 f225:=bi Tryz.func168
 f266:=bi Tryz.func203
 f267:=bi Tryz.func170
 f314:=bi Tryz.func204
 t3:=lL
 a3:=ED
 z3:=EI
 v3:=EN
 t4:=Cl
 a4:=EE
 z4:=EJ
 v4:=EO
 t5:=EM
 a5:=EF
 z5:=EK
 v5:=EP
 t9:=jq
 a9:=EG
 z9:=EL
 v9:=EQ
 t46:=Ht
 a46:=Hj
 z46:=Hm
 v46:=Hw
 t51:=Hu
 a51:=Hk
 z51:=Ho
 v51:=Hy
 t59:=Tryz.underlying64
 a59:=Tryz.isAgg64
 z59:=Tryz.sizeOf64
 v59:=Tryz.zeroValue64
 t146:=Tryz.underlying203
 a146:=Tryz.isAgg203
 z146:=Tryz.sizeOf203
 v146:=Tryz.zeroValue203
 g1:=by kernel_rfl}
open Go.RowKit Go.Lib in
def Tryz.strings_Cut(s sep:ByteArray)(m:Int)(w:World)(hs:s.size<4294967281)(hm:w.cell? ⟨1,0,none⟩=some (.int .i64 m)) :
  Calls Tryz.prog 26 #[.string s,.string sep] w fun e w'=>e= .returned (.tuple #[.string ⟨(Lib.cut s.data.toList sep.data.toList).1.toArray⟩,.string ⟨(Lib.cut s.data.toList sep.data.toList).2.1.toArray⟩,.bool (Lib.cut s.data.toList sep.data.toList).2.2])/\ ∃n,w'=w.drewN n:=Any.strings_Cut Tryz.aBb s sep m w hs hm
def Tryz.aBe:Go.Shelf.Ren:=⟨fun|146=>28|221=>69|268=>118|138=>119|143=>120|195=>173|197=>174|218=>175|219=>116|260=>210|217=>167|225=>168|224=>169|267=>170|266=>203|314=>204|n=>n,fun|9=>9|31=>26|3=>3|4=>4|0=>0|105=>179|21=>21|5=>5|46=>159|119=>234|139=>237|138=>236|146=>203|51=>202|n=>n,fun|1=>1|3=>4|4=>5|n=>n⟩
def Tryz.aBd:Go.Proofs.Lays.n146 Tryz.prog Tryz.aBe:={
 mixed:=by kernel_rfl
 f138:=bi Tryz.func119
 f143:=bi Tryz.func120
 f146:=bi Tryz.func28
 f195:=bi Tryz.func173
 f197:=bi Tryz.func174
 f217:=bi Tryz.func167
 f218:=bi Tryz.func175
 f219:=bi Tryz.func116
 f221:=bi Tryz.func69
 f224:=bi Tryz.func169
 f225:=bi Tryz.func168
 f260:=bi Tryz.func210
 f266:=bi Tryz.func203
 f267:=bi Tryz.func170
 f268:=bi Tryz.func118
 f314:=bi Tryz.func204
 t0:=Hq
 a0:=Hg
 z0:=Hl
 v0:=Hv
 t3:=lL
 a3:=ED
 z3:=EI
 v3:=EN
 t4:=Cl
 a4:=EE
 z4:=EJ
 v4:=EO
 t5:=EM
 a5:=EF
 z5:=EK
 v5:=EP
 t9:=jq
 a9:=EG
 z9:=EL
 v9:=EQ
 t21:=XI
 a21:=Tryz.isAgg21
 z21:=Tryz.sizeOf21
 v21:=XP
 t31:=fY
 a31:=Tryz.isAgg26
 z31:=Tryz.sizeOf26
 v31:=Tryz.zeroValue26
 t46:=Ht
 a46:=Hj
 z46:=Hm
 v46:=Hw
 t51:=Hu
 a51:=Hk
 z51:=Ho
 v51:=Hy
 t105:=Tryz.underlying179
 a105:=Tryz.isAgg179
 z105:=Tryz.sizeOf179
 v105:=Tryz.zeroValue179
 t119:=Tryz.underlying234
 a119:=Tryz.isAgg234
 z119:=Tryz.sizeOf234
 t138:=Tryz.underlying236
 a138:=Tryz.isAgg236
 z138:=Tryz.sizeOf236
 v138:=Tryz.zeroValue236
 t139:=Tryz.underlying237
 a139:=Tryz.isAgg237
 z139:=Tryz.sizeOf237
 v139:=Tryz.zeroValue237
 t146:=Tryz.underlying203
 a146:=Tryz.isAgg203
 z146:=Tryz.sizeOf203
 v146:=Tryz.zeroValue203
 g1:=by kernel_rfl
 g3:=by kernel_rfl
 g4:=by kernel_rfl}
open Go.RowKit Go.Lib in
def Tryz.strings_Split(s sep:ByteArray)(m:Int)(w:World)(hs:s.size<4294967281)(hm:w.cell? ⟨1,0,none⟩=some (.int .i64 m))(h1:1<=sep.size) :
  Calls Tryz.prog 28 #[.string s,.string sep] w fun e w' =>
   e= .returned (.slice (some ⟨w.heap.size,0,none⟩) (Lib.countB s sep+1) (Lib.countB s sep+1))/\w'=w.alloc (.cells ((Lib.splitB sep 0 (Lib.countB s sep) s).map Value.string).toArray 9):=Any.strings_Split Tryz.aBd (by kernel_rfl) s sep m w hs hm h1
end Go.Proofs
namespace Go.Proofs.YtekplmpbkgchfaaGreatDoor
open Go.RowKit Go
variable [GC]
def bs(l:List UInt8):ByteArray:=⟨l.toArray⟩
@[simp] def Cp (l:List UInt8):(bs l).data.toList=l:=by simp [bs]
def QY(s:ByteArray):bs s.data.toList=s:=by simp [bs]
@[simp] def rG (l:List UInt8):(bs l).size=l.length:=by simp [bs,ByteArray.size]
def au3{l m:List UInt8}(h:bs l=bs m):l=m:=by have:=congrArg (fun s:ByteArray=>s.data.toList) h;simpa using this
@[simp] def aIH (l m:List UInt8):bs l=bs m↔l=m:=⟨au3,fun h=>by rw [h]⟩
def au2(l m:List UInt8):bs l++bs m=bs (l++m):=by apply Kw;simp [bs]
class zQ:Prop where
 h: ∀w:World,mT w->lV w 6 fun cs=>cs=(Lib.pow10Tab.map fun z=>Value.int .u64 z).toArray
class BV:Prop where
 h: ∀w:World,mT w->lV w 1 fun cs=> ∃m,cs[0]? =some (Value.int .i64 m)
class Kh:Prop where
 h: ∀w:World,mT w->lV w 2 fun cs=> ∃tp p,cs= #[.iface tp p]
def lV.cell{w:World}{g:Nat}{p:Array Value->Prop}(h:lV w g p): ∃cs,p cs/\ ∀i:Nat,w.cell? ⟨g,i,none⟩=cs[i]? :=by obtain ⟨cs,t,f,h1,h2⟩:=h;exact ⟨cs,h2,fun i=>by simp [World.cell?,h1]⟩
def avc[zQ]{n:Nat}(h:n<1000):aH Tryz.prog 121 none [.int .i64 n] (.str (bs (fR n))) []:=by
 refine yt (by kernel_rfl) fun w M vs hG hr=> ?_;obtain ⟨v,q,rfl,⟨rfl,_⟩,rfl⟩:=hr;have c:=Any.strconv_Itoa Tryz.aBl n (by omega) (by omega) w (by obtain ⟨cs,t,f,h1,rfl⟩:=zQ.h w hG.2.1;unfold Lib.TabIs World.var?;rw [show Tryz.prog.globalNamed _=some 6 by kernel_rfl];simp [h1])
 refine c.mono ?_;rintro e w' ⟨rfl,k,os,rfl⟩;have hl:=Il h;refine ⟨_,rfl,⟨?_,by rw [rG];unfold maxLen;omega⟩,?_⟩
 ·unfold Lib.itoa;rw [ak (by omega),jv,Yu h];rfl
 ·exact ⟨rfl,rfl,rfl,by simp [Go.Sort.grow],fun j hj=>by simp [Go.Sort.grow,Array.getElem?_append,hj]⟩
def X6[zQ]{n:Nat}(h:n<1000):aH Tryz.prog 70 none [.int .i64 n] (.str (bs (fR n))) []:=by refine cB amM aml (by simp [aml,fM,bA,db,cD]) fun hfit=> ?_;unfold amM;refine aF (avc h) ?_;exact az rfl
def aw8{n:Nat}(h1: ¬n<10)(h2:n<1000):fR n=fR (n/10)++[UInt8.ofNat (48+n%10)]:=by rw [<-Yu h2, <-Yu (n:=n/10) (by omega),Lib.decDigits,dif_neg h1]
def aw9(n:Nat):strOfNums [IntKind.u8.wrap (IntKind.i64.wrap (48+(n:Int).tmod 10))]=bs [UInt8.ofNat (48+n%10)]:=by
 have h1:(n:Int).tmod 10=((n%10:Nat):Int):=by rw [Int.tmod_eq_emod_of_nonneg (by omega)];omega
 rw [h1,wrap_i64 (by omega) (by omega)];have h2:IntKind.u8.wrap (48+((n%10:Nat):Int))=((48+n%10:Nat):Int):=by simp only [IntKind.wrap,IntKind.bits,IntKind.signed];simp;omega
 rw [h2];unfold strOfNums bs;simp only [kU,vN,jv]
def aC4(n:Nat)(h:n<1000):dJ .quo .i64 n 10=((n/10:Nat):Int):=by
 simp only [dJ];have h1:(n:Int).tdiv 10=((n/10:Nat):Int):=by rw [Int.tdiv_eq_ediv_of_nonneg (by omega)];omega
 rw [h1,wrap_i64 (by omega) (by omega)]
def Q5: ∀{n:Nat},n<1000->aH Tryz.prog 131 none [.int .i64 n] (.str (bs (fR n))) []:=by
 intro n;induction n using Nat.strongRecOn with
 | ind n ih =>
  intro hn;have hb:K6 (.sl ([[D.int .u8 (IntKind.u8.wrap (dJ .add .i64 48 (dJ .rem .i64 (n:Int) 10)))]]))=bs [UInt8.ofNat (48+n%10)]:=by rw [<-aw9];rfl
  refine cB anm amq (by simp [amq,fM,bA,db,cD]) fun hfit=> ?_;unfold anm;refine aq (fun h=> ?_) (fun _=> ?_)
  ·simp [E.den,ba] at h
  refine aq (fun h=> ?_) (fun _=> ?_)
  ·simp [E.den,ba] at h;omega
  refine aX (fun _=>rfl) ?_;apply aq<;>intro h
  ·simp [E.den,ba] at h;refine aX (fun _=>rfl) ?_;refine Ik (xs:=[.int .i64 ((n/10:Nat):Int)]) ?_ (ih (n/10) (by omega) (by omega)) trivial ?_
   ·simp [E.den,aC4 n hn]
   refine aX (fun _=> ?_) (az ?_)
   ·simp only [eS];rw [hb,rG,rG];have:=Il (n:=n/10) (by omega);simp;unfold maxLen;omega
   ·simp only [eS];rw [hb,au2,aw8 (n:=n) (by omega) hn]
  ·simp [E.den,ba] at h;refine az ?_;simp only [eS];rw [hb];have:fR n=[UInt8.ofNat (48+n%10)]:=by unfold fR;rw [aA (by omega)];congr;omega
   rw [this]
def qU(s:ByteArray):Int:=match kB s.data.toList with|some n=>n|none=>0
def zk(s:ByteArray):Bool:=(kB s.data.toList).isSome
def iZ(s:ByteArray):D:= .aL [.int .i64 (qU s),.bool (zk s)]
def abY(s:ByteArray):bA aI.tab (.aL [.c (.int .i64),.c .bool]) (iZ s):=⟨rfl,trivial,trivial⟩
def TH{s:ByteArray}{n:Nat}(h:kB s.data.toList=some n):qU s=n:=by unfold qU;rw [h]
def aj3{s:ByteArray}{n:Nat}(h:kB s.data.toList=some n):zk s=true:=by unfold zk;rw [h];rfl
def aj1{s:ByteArray}(h:kB s.data.toList=none):qU s=0:=by unfold qU;rw [h]
def aj2{s:ByteArray}(h:kB s.data.toList=none):zk s=false:=by unfold zk;rw [h];rfl
def aj0{n:Nat}(h:n<1000):qU (bs (fR n))=n:=TH (by rw [Cp];exact aj4 h)
def aCz{s:ByteArray}(h:zk s=true): ∃n:Nat,n<1000/\s=bs (fR n)/\qU s=n:=by unfold zk at h;obtain ⟨n,hn⟩:=XA.1 h;obtain ⟨h1,h2⟩:=Ba.1 hn;exact ⟨n,h1,by rw [h2,QY],TH hn⟩
def XT{l:List UInt8}{n:Nat}(h:kB l=some n):Lib.atoi l=some (n:Int):=by obtain ⟨h1,rfl⟩:=Ba.1 h;exact Yx h1
def size_data(s:ByteArray):s.data.toList.length=s.size:=xj
def Q2{w w':World}{e:TypeId}{t:ByteArray}(h:w'=Lib.bytesWorld w e t):Below w.heap.size w w':=by subst h;exact Lib.bytesWorld_below _ _ _
def aeD{w:World}{M:Addr->Prop}{n:Int}{b:Bool}(h0: -9223372036854775808<=n)(h1:n<=9223372036854775807):R w M (.aL [.int .i64 n,.bool b]) (.tuple #[.int .i64 n,.bool b]) :=
 ⟨_,rfl,_,_,rfl,⟨rfl,h0,h1⟩,_,_,rfl,rfl,rfl⟩
def atL{w:World}{M:Addr->Prop}{s:ByteArray}(h:kB s.data.toList=none):R w M (iZ s) (.tuple #[.int .i64 0,.bool false]):=by unfold iZ;rw [aj1 h,aj2 h];exact aeD (by omega) (by omega)
def atM{w:World}{M:Addr->Prop}{s:ByteArray}{n:Nat}(h:kB s.data.toList=some n):R w M (iZ s) (.tuple #[.int .i64 n,.bool true]):=by have:=(Ba.1 h).1;unfold iZ;rw [TH h,aj3 h];exact aeD (by omega) (by omega)
def afl[zQ][Kh](s:ByteArray):aH Tryz.prog 68 none [.str s] (iZ s) []:=by
 refine yt (by kernel_rfl) fun w M vs hG hr=> ?_;obtain ⟨v,q,rfl,⟨rfl,hsm⟩,rfl⟩:=hr;have hM:=hG.1;have Jl:=fun W (h:kB s.data.toList=none)=>atL (w:=W) (M:=M) h;by_cases hl:1<=s.size/\s.size<=3
 ·have a1:((s.size:Int)<1)=False:=by simp;omega
  have a2:((s.size:Int)>3)=False:=by simp;omega
  cases ha:Lib.atoi s.data.toList with
  | none =>
   have hn:kB s.data.toList=none:=by
    cases h:kB s.data.toList with
    | none=>rfl
    | some n=>rw [XT h] at ha;cases ha
   obtain ⟨cs,⟨tp,p,rfl⟩,hc⟩:=(Kh.h w hG.2.1).cell;have hv:=hc 0;simp at hv;have HC:=mV (fun W (hW:W=w)=>Tryz.strconv_Atoi_err s (by omega) ha (.iface tp p) W (by rw [hW];exact hv) (Or.inr ⟨tp,p,rfl⟩));have HN:=mV hn;clear hv hc ha hn;go_enter EC,EH;go_wp2_with (go_at_call 117;refine (HC.out _ rfl).mono ?_;rintro e w1 ⟨N0,rfl,hb0,hb1,hb⟩);go_ret2;exact ⟨_,rfl,Jl _ HN.out,hb⟩
  | some z =>
   have HC:=mV (fun W=>Tryz.strconv_Atoi s z (by omega) ha W);by_cases hz:0<=z/\z<=999
   ·obtain ⟨n,rfl⟩:=Int.eq_ofNat_of_zero_le hz.1;have hn:n<1000:=by omega
    have b1:(0:Int)<=(n:Int):=by omega
    have b2:(n:Int)<=999:=by omega
    have HF:=mV (fun (w0:World) (hb:Below w.heap.size w w0)=>(X6 hn).2 w0 M 0 [.int .i64 n] (hG.below hb fun p hp=>dm (hM p hp) hb.size) (Rs.one ⟨rfl,by show (-9223372036854775808:Int)<=n;omega,by show (n:Int)<=9223372036854775807;omega⟩) (fun cs h=>by cases h));have hne:((bs (fR n)).toList==s.toList)=decide (kB s.data.toList=some n):=by
     rw [Gq];by_cases h:kB s.data.toList=some n
     ·have:=(Ba.1 h).2;simp [h,this,QY]
     ·have:bs (fR n)≠s:=fun e=>h (by rw [<-e,Cp];exact aj4 hn);simp [h,this]
    by_cases hq:kB s.data.toList=some n
    ·have HQ:=mV hq;have e1:((bs (fR n)).toList==s.toList)=true:=by rw [hne];simp [hq]
     clear hne hq ha;go_enter EC,EH;go_wp2_with (first|(go_at_call 117;refine (HC.out _).mono ?_;rintro e w1 ⟨rfl,t1,hb1⟩;replace hb1:=Q2 hb1)|(go_at_call 70;refine (HF.out _ (by go_grown)).mono ?_;rintro e w2 ⟨v2,rfl,⟨rfl, -⟩,hb2, -⟩;replace hb2:=hb2.Br)|go_in);go_ret2;exact ⟨_,rfl,atM HQ.out,bt hb1 hb2⟩
    ·have e1:((bs (fR n)).toList==s.toList)=false:=by rw [hne];simp [hq]
     have hno:kB s.data.toList=none:=by
      cases h:kB s.data.toList with
      | none=>rfl
      | some m =>
       have:=XT h;rw [ha] at this;have e:n=m:=by have:=gh this;omega
       subst e;exact absurd h hq
     have HN:=mV hno;clear hne hq ha hno;go_enter EC,EH;go_wp2_with (first|(go_at_call 117;refine (HC.out _).mono ?_;rintro e w1 ⟨rfl,t1,hb1⟩;replace hb1:=Q2 hb1)|(go_at_call 70;refine (HF.out _ (by go_grown)).mono ?_;rintro e w2 ⟨v2,rfl,⟨rfl, -⟩,hb2, -⟩;replace hb2:=hb2.Br)|go_in);go_ret2;exact ⟨_,rfl,Jl _ HN.out,bt hb1 hb2⟩
   ·have hno:kB s.data.toList=none:=by
     cases h:kB s.data.toList with
     | none=>rfl
     | some m => have h1:=(Ba.1 h).1;have:=XT h;rw [ha] at this;have e:z=(m:Int):=gh this;subst e;exact absurd ⟨by omega,by omega⟩ hz
    have HN:=mV hno;have e1:(decide (0<=z)&&decide (z<=999))=false:=by rw [Ce];simp;omega
    by_cases hz0:0<=z
    ·have b2:(z<=999)=False:=by simp;omega
     clear e1 hz hno ha;go_enter EC,EH;go_wp2_with (first|(go_at_call 117;refine (HC.out _).mono ?_;rintro e w1 ⟨rfl,t1,hb1⟩;replace hb1:=Q2 hb1)|go_in);go_ret2;exact ⟨_,rfl,Jl _ HN.out,hb1⟩
    ·have b2:(0<=z)=False:=by simp;omega
     clear e1 hz hno hz0 ha;go_enter EC,EH;go_wp2_with (first|(go_at_call 117;refine (HC.out _).mono ?_;rintro e w1 ⟨rfl,t1,hb1⟩;replace hb1:=Q2 hb1)|go_in);go_ret2;exact ⟨_,rfl,Jl _ HN.out,hb1⟩
 ·have hno:kB s.data.toList=none:=by
   cases h:kB s.data.toList with
   | none=>rfl
   | some m => obtain ⟨h1,h2⟩:=Ba.1 h;have h3:=af3 h1;have h4:=Il h1;rw [h2,size_data] at h3 h4;exact absurd ⟨h3,h4⟩ hl
  have HN:=mV hno;clear hno;by_cases h0:s.size=0
  ·have a1:((s.size:Int)<1)=True:=by simp;omega
   clear hl h0;go_enter EC,EH;go_wp2_with fail;go_ret2;exact ⟨_,rfl,Jl _ HN.out,dP _ _⟩
  ·have a1:((s.size:Int)<1)=False:=by simp;omega
   have a2:((s.size:Int)>3)=True:=by simp;omega
   clear hl h0;go_enter EC,EH;go_wp2_with fail;go_ret2;exact ⟨_,rfl,Jl _ HN.out,dP _ _⟩
def sj(l:List UInt8)(k:Nat):Int:=(l.take k).foldl (fun n c=>10*n+(c.toNat:Int)-48) 0
def Gb:Nat->Int
 | 0=>0
 | k+1=>10*Gb k+255
def akI{l:List UInt8}{k:Nat}(h:k<l.length):sj l (k+1)=10*sj l k+(l[k].toNat:Int)-48:=by unfold sj;rw [KF,cO h,Option.toList_some,List.foldl_append];rfl
def akH(l:List UInt8): ∀k, -Gb k<=sj l k/\sj l k<=Gb k
 | 0=>by simp [sj,Gb]
 | k+1=>by
  have ih:=akH l k;rcases dY k l.length with h|h
  ·rw [akI h];have:=l[k].toNat_lt;simp only [Gb];omega
  ·have:sj l (k+1)=sj l k:=by unfold sj;rw [Cj h,Cj (by omega)]
   rw [this];simp only [Gb];omega
def aDf: ∀k,k<=4->Gb k<=283305
 | 0,_=>by decide
 | 1,_=>by decide
 | 2,_=>by decide
 | 3,_=>by decide
 | 4,_=>by decide
 | k+5,h=>by omega
def aDg(l:List UInt8){k:Nat}(h:k=4\/l.length<=k/\k<=4):sj l k=uY l:=by
 unfold sj uY;rcases h with rfl|⟨h1,h2⟩
 ·rfl
 ·rw [Cj h1,Cj (by omega)]
def auS{s:ByteArray}{k:Nat}(h:k<s.data.toList.length):((s[k]?).map (fun (c:UInt8)=>(c.toNat:Int))).getD 0=((s.data.toList[k]).toNat:Int):=by
 have h2:k<s.size:=by rw [size_data] at h;exact h
 rw [getElem?_pos s k h2];simp [ByteArray.getElem_eq_getElem_data]
def avI(s:ByteArray):aH Tryz.prog 254 none [.str s] (iZ s) []:=by
 refine cB anN amt (by simp [amt,fM,bA,db,cD]) fun hfit=> ?_;have hsm:s.size<=maxLen:=by simp [dW,Fits] at hfit;exact hfit
 unfold anN;refine eZ 4 (fun k=>[.int .i64 (sj s.data.toList k),.int .i64 k]) (fun k=>k<=s.size) rfl (fX _) (fun k hk hI _=> ?_);have hb:=akH s.data.toList k;have hB:=aDf k hk;apply aq<;>intro h<;>simp only [eS] at h
 ·simp at h;obtain ⟨h1,h2⟩:=h;have hlt:k<s.data.toList.length:=by rw [size_data];omega
  refine aX (fun _=> ?_) ?_
  ·simp only [eS];simp;omega
  refine dK (by omega) ?_ (by omega);have hc:=(s.data.toList[k]).toNat_lt;simp only [eS];rw [akI hlt];have hz:yF s k=((s.data.toList[k]).toNat:Int):=auS hlt;simp only [dJ,hz];rw [wrap_i64 (n:=10*sj s.data.toList k) (by omega) (by omega),wrap_i64 (n:=(s.data.toList[k].toNat:Int)) (by omega) (by omega),wrap_i64 (n:=10*sj s.data.toList k+_) (by omega) (by omega),wrap_i64 (n:=_-48) (by omega) (by omega),wrap_i64 (by omega) (by omega)];rfl
 ·simp at h;have h4:sj s.data.toList k=uY s.data.toList:=aDg _ (by rw [size_data];omega);rw [h4] at hb ⊢;refine vX (xs:=[.int .i64 (uY s.data.toList)]) (r:= .str (bs (fR (uY s.data.toList).toNat))) rfl (fun hg=> ?_) trivial ?_
  ·simp only [cK,fJ,sV,vT,Cn] at hg;simp only [eS] at hg;simp at hg;have e:uY s.data.toList=((uY s.data.toList).toNat:Int):=by omega
   rw [e];exact Q5 (by omega)
  apply aq<;>intro h<;>simp only [eS] at h
  ·refine az ?_;simp only [eS];have hno:kB s.data.toList=none:=by
    cases hq:kB s.data.toList with
    | none=>rfl
    | some m =>
     exfalso;obtain ⟨q1,q2⟩:=Ba.1 hq;have q3:=aw7 q1;rw [q2] at q3;have q4:=af3 q1;rw [q2,size_data] at q4;have hs':bs (fR m)=s:=by rw [q2,QY]
     have hne:s≠ByteArray.empty:=by rintro rfl;simp at q4
     rw [q3] at h;simp [hs',hne] at h;omega
   rw [iZ,aj1 hno,aj2 hno]
  ·simp at h;obtain ⟨⟨⟨h1,h2⟩,h3⟩,h5⟩:=h;refine az ?_;simp only [eS];have e:uY s.data.toList=((uY s.data.toList).toNat:Int):=by omega
   have hs:fR (uY s.data.toList).toNat=s.data.toList:=by have h7:=congrArg (fun x:ByteArray=>x.data.toList) h5;simpa using h7
   have hn:=Ba.2 ⟨(by omega:(uY s.data.toList).toNat<1000),hs⟩;rw [iZ,TH hn,aj3 hn, <-e]
end Go.Proofs.YtekplmpbkgchfaaGreatDoor
namespace Go.Proofs.YtekplmpbkgchfaaGreatDoor
open Go.RowKit Go
variable [GC]
end Go.Proofs.YtekplmpbkgchfaaGreatDoor
namespace Go.Proofs.YtekplmpbkgchfaaGreatDoor
open Go.RowKit Go
variable [GC]
class Sm(α:Type) where
 sm:α->Prop
instance :Sm ByteArray:=⟨fun s=>s.size<=1048576⟩
instance {α:Type}[Inhabited α][Sm α]:Sm (List α):=⟨fun l=>l.length<=1048576/\ ∀k,k<l.length->Sm.sm (nth l k)⟩
instance :Sm vF:=⟨fun x=>Sm.sm x.name⟩
instance :Sm Cell:=⟨fun x=>Sm.sm x.key⟩
instance :Sm Core:=⟨fun x=>Sm.sm x.kind/\Sm.sm x.cells⟩
instance :Sm Call:=⟨fun x=>Sm.sm x.method/\Sm.sm x.key/\Sm.sm x.text⟩
instance :Sm gJ:=⟨fun x=>Sm.sm x.text⟩
instance :Sm Part:=⟨fun x=>Sm.sm x.core/\Sm.sm x.aw⟩
instance :Sm qB:=⟨fun x=>True⟩
instance :Sm nS:=⟨fun x=>Sm.sm x.jS⟩
instance :Sm Entry:=⟨fun x=>Sm.sm x.name/\Sm.sm x.recipe/\Sm.sm x.needs⟩
instance :Sm gY:=⟨fun x=>Sm.sm x.jS/\Sm.sm x.to⟩
instance :Sm Event:=⟨fun x=>Sm.sm x.name/\Sm.sm x.call/\Sm.sm x.recipe⟩
instance :Sm Host:=⟨fun x=>Sm.sm x.entries/\Sm.sm x.parts/\Sm.sm x.up/\Sm.sm x.shut/\Sm.sm x.log⟩
end Go.Proofs.YtekplmpbkgchfaaGreatDoor
namespace Go.Proofs.YtekplmpbkgchfaaGreatDoor
open Go.RowKit Go
variable [GC]
def kA(l:List ByteArray)(sep:ByteArray):ByteArray:=⟨(Lib.join (l.map (·.data.toList)) sep.data.toList).toArray⟩
def Nc(l:List ByteArray)(sep:ByteArray):(kA l sep).size=(Lib.join (l.map (·.data.toList)) sep.data.toList).length:=rG _
def Ac(s:ByteArray):bs s.data.toList=s:=by simp [bs]
def ai2{l:List ByteArray}{k:Nat}(h:k<l.length)(sep:ByteArray):kA (l.take (k+1)) sep=if k=0 then nth l k else kA (l.take k) sep++sep++nth l k:=by
 cases l with
 | nil=>simp at h
 | cons x r =>
  cases k with
  | zero => rw [aA rfl];show bs (Lib.join [x.data.toList] _)=_;rw [Lib.join_one,Ac];rfl
  | succ j =>
   rw [ak (by omega)];have hj:j<r.length:=by simpa using h
   have e:(r.map (·.data.toList))[j]? =some ((nth (x::r) (j+1)).data.toList):=by simp [nth,hj]
   simp only [kA,PY,kU,Ey,Lib.join_cons];rw [Lib.joinTail_take_succ _ _ _ _ e];apply Kw;simp [Cg]
def aAR(l:List ByteArray)(sep:ByteArray)(k:Nat):(kA (l.take k) sep).size<=(kA l sep).size:=by
 rw [Nc,Nc];cases l with
 | nil=>simp
 | cons x r =>
  cases k with
  | zero=>simp [Lib.join_nil]
  | succ j => simp only [PY,kU,Ey,Lib.join_cons,jw];have:=Lib.joinTail_take_le sep.data.toList (r.map (·.data.toList)) j;omega
def aav{l:List ByteArray}{sep:ByteArray}{n:Nat}(h: ∀k,k<l.length->(nth l k).size<=n):(kA l sep).size<=l.length*(n+sep.size):=by
 have: ∀k,k<=l.length->(kA (l.take k) sep).size<=k*(n+sep.size):=by
  intro k;induction k with
  | zero=>intro _;simp [Nc,Lib.join_nil]
  | succ k ih =>
   intro hk;have h1:=ih (by omega);have h2:=h k (by omega);rw [ai2 (by omega),jO];split
   ·omega
   ·simp only [gx];omega
 simpa using this l.length (bU _)
def avd(l:List ByteArray)(sep:ByteArray)(hN:l.length<=140737488355328)(hlen:(kA l sep).size<=140737488355328):aH Tryz.prog 71 none [ax l,.str sep] (.str (kA l sep)) []:=by
 refine yt (by kernel_rfl) fun w M vs hG hr=> ?_;obtain ⟨v,q,rfl,⟨a,len,cap,rfl,rfl,hc,hm,ha,hb⟩,v2,q2,rfl,⟨rfl,_⟩,rfl⟩:=hr;have hsz:(kA l sep).size<=maxLen:=by unfold maxLen;omega
 by_cases h0:l=[]
 ·subst h0;refine (Tryz.strings_Join_none a cap sep w).mono ?_;rintro e w' ⟨rfl,rfl⟩;exact ⟨_,rfl,⟨rfl,hsz⟩,dP _ _⟩
 ·have hpos:0<l.length:=PR.2 h0;simp only [cV] at hc hb ⊢;cases a with
  | none=>have:=ha rfl;omega
  | some ad =>
   obtain ⟨b,o,s⟩:=ad;obtain ⟨h1,h2⟩:=hb b o s rfl;obtain rfl:=h1 hpos;have hcell: ∀(j:Nat) x,l[j]? =some x->w.cell? ⟨b,o+j,none⟩=some (.string x):=fun j x hx=>by have h3:=iU.get (n:=1) h2 (fun r hr=>by obtain ⟨y,_,rfl⟩:=gD.1 hr;rfl) (i:=j) (r:=[.str x]) (by rw [iI,hx];rfl);obtain ⟨⟨v,h4,_,rfl,_⟩,_⟩:=h3;simpa using h4
   have hbk:b<w.heap.size:=by
    have:=hcell 0 _ (cO hpos);unfold World.cell? at this;rcases dY b w.heap.size with h|h
    ·exact h
    ·simp only [yC h] at this;cases this
   refine (Tryz.strings_Join b o cap l sep w hcell hbk hN hc (by rw [<-Nc];exact hlen)).mono ?_;rintro e w' ⟨rfl,hw⟩;exact ⟨_,rfl,⟨rfl,hsz⟩,hw⟩
def avi(l:List ByteArray)(sep:ByteArray)(hN:l.length<=140737488355328)(hlen:(kA l sep).size<=140737488355328):aH Tryz.prog 30 none [ax l,.str sep] (.str (kA l sep)) []:=by refine cB amU aFN ⟨lG l,trivial,trivial⟩ fun hfit=> ?_;unfold amU;refine aF (avd l sep hN hlen) ?_;exact az rfl
def afr(l:List ByteArray)(sep:ByteArray)(hN:l.length<=140737488355328)(hlen:(kA l sep).size<=140737488355328):aH Tryz.prog 79 none [ax l,.str sep] (.str (kA l sep)) []:=by
 refine cB anB aGr ⟨lG l,trivial,trivial⟩ fun hfit=> ?_;unfold anB;refine eZ l.length (fun k=>[.str (kA (l.take k) sep),.int .i64 k]) (fun _=>True) rfl trivial ?_;intro k hk hI _;simp only [cA];apply aq<;>intro h2<;>simp only [eS] at h2
 ·have h2:k<l.length:=by simp at h2;exact h2
  refine fZ ?_;have hle:=aAR l sep (k+1);have e:=ai2 h2 sep;apply aq<;>intro h3<;>simp only [eS] at h3
  ·have h3:k≠0:=by simp at h3;omega
   rw [ak h3] at e;rw [e,gx,gx] at hle;refine aX (fun _=> ?_) ?_
   ·simp only [eS];simp [maxLen];exact QQ (by omega)
   refine aX (fun _=> ?_) ?_
   ·simp only [eS,gW,eB];simp [maxLen,gx];omega
   refine dK h2 ?_ trivial;simp only [eS,gW,eB];rw [bW,e];rfl
  ·have h3:k=0:=by simp at h3;omega
   subst h3;rw [aA rfl] at e;rw [e] at hle;refine aX (fun _=> ?_) ?_
   ·simp only [eS,gW,eB];simp [maxLen,Nc,Lib.join_nil];omega
   refine dK h2 ?_ trivial;simp only [eS,gW,eB];rw [e];have:kA [] sep++nth l 0=nth l 0:=by apply Kw;simp [kA,Lib.join_nil,Cg]
   rw [this];rfl
 ·obtain rfl:k=l.length:=by simp at h2;omega
  refine az ?_;simp only [eS];rw [vO]
def ag7{g:Nat}{l:List ByteArray}(hl: ∀s∈l,s.size<=maxLen)(h: ∀w,mT w->lV w g fun cs=>cs=(l.map Value.string).toArray):Kg g (.agg (l.map .str)):=by
 intro w hw;obtain ⟨cs,t,f,h1,rfl⟩:=h w hw;refine ⟨_,t,f,h1,fun w' M=> ?_⟩;simp only [pQ,List.toList_toArray];clear h h1;induction l with
 | nil=>rfl
 | cons s r ih=>exact ⟨.string s,r.map .string,rfl,⟨rfl,hl s (by simp)⟩,ih fun x hx=>hl x (by simp [hx])⟩
def zq(l:List ByteArray)(k:Nat):(((l.map D.str)[k]?).getD (fW CT.str))= .str (nth l k):=by unfold nth;rw [kK,iI];cases l[k]? <;>rfl
end Go.Proofs.YtekplmpbkgchfaaGreatDoor
namespace Go.Proofs.YtekplmpbkgchfaaGreatDoor
open Go.RowKit Go
variable [GC]
def jR{p:Prop}[Decidable p](h:p):D.bool (decide p)= .bool true:=by simp [h]
def jX:ByteArray:=⟨#[32]⟩
def jY:(⟨#[32]⟩:ByteArray)=jX:=rfl
def kO:jX.size=1:=rfl
def Tz{s:ByteArray}(h:jj s=true):s.size<=8:=by unfold jj at h;simp at h;omega
def ajC{α β:Type}[Inhabited α](f:α->β){l:List α}{k:Nat}(h:k<l.length):(l.take (k+1)).map f=(l.take k).map f++[f (nth l k)]:=by rw [Xx h,uj];simp [nth,h]
def aAV{s:ByteArray}(h:kindOk s=true):s.size<=8:=by
 unfold kindOk zf at h;repeat' split at h
 all_goals first
  | (rename_i e;rw [e];decide)
  | simp at h
def aA6{s:ByteArray}(h:nK s=true):s.size<=8:=by
 unfold nK xN at h;repeat' split at h
 all_goals first
  | (rename_i e;rw [e];decide)
  | simp at h
def RE{p:Nat->Bool}: ∀{n:Nat},dG p n=none-> ∀i,i<n->p i=false
 | 0,_,i,h=>by omega
 | n+1,h,i,hi=>by
  simp only [dG] at h;split at h
  ·cases h
  ·rename_i hn;split at h
   ·cases h
   ·rename_i hp;by_cases e:i=n
    ·subst e;simpa using hp
    ·exact RE hn i (by omega)
def aec{p:Part}{s:ByteArray}(h:(j0 p s).2.code=0):nK s=true/\p.aw.length<3/\(j0 p s).1.aw.length=p.aw.length+1:=by
 unfold j0 at h ⊢;split at h
 ·simp [rep] at h
 rename_i h1;split at h
 ·simp [rep] at h
 rename_i h2;split at h
 ·simp [rep] at h
 rename_i h3;rw [ak h1,ak h2,ak h3];exact ⟨by grind,by omega,by simp⟩
def Nz{l:List ByteArray}(h:gO l=true):l.length<=4/\ ∀k,k<l.length->(nth l k).size<=8:=by
 unfold gO du at h;split at h
 ·simp [rep] at h
 rename_i h0;have hk0:kindOk (nth l 0)=true:=by grind
 split at h
 ·rename_i k hk;have h1: ∀{n:Nat} {p:Nat->Bool},dG p n=some k->p k=true:=by
   intro n;induction n with
   | zero=>intro p h;simp [dG] at h
   | succ n ih =>
    intro p h;simp only [dG] at h;split at h
    ·rename_i j hj;cases h;exact ih hj
    ·split at h
     ·cases h;assumption
     ·cases h
  have:=h1 hk;grind
 rename_i hn;have hw: ∀k,k<l.length-1->(rB l k).code=0:=fun k hk=>by simpa using RE hn k hk
 have hs: ∀k,k<=l.length-1->(gI l k).aw.length=k:=by
  intro k;induction k with
  | zero=>intro _;simp [gI,qe]
  | succ k ih => intro hk;have:=aec (hw k (by omega));simp only [gI];rw [this.2.2,ih (by omega)]
 refine ⟨?_,fun k hk=> ?_⟩
 ·have h3:=(D2 l (l.length-1)).2;rw [hs _ (bU _)] at h3;omega
 ·cases k with
  | zero=>exact aAV hk0
  | succ k=>exact aA6 (aec (hw k (by omega))).1
def akP{l:List ByteArray}(h:gO l=true):l.length<=1048576/\(kA l jX).size<=36:=by obtain ⟨h1,h2⟩:=Nz h;refine ⟨by omega,dq (aav (n:=8) h2) ?_⟩;rw [kO];omega
end Go.Proofs.YtekplmpbkgchfaaGreatDoor
namespace Go.Proofs.YtekplmpbkgchfaaGreatDoor
open Go.RowKit Go
variable [GC]
def Yn(s sep:List UInt8):(Lib.cut s sep).1.length<=s.length/\(Lib.cut s sep).2.1.length<=s.length:=by
 unfold Lib.cut;split
 ·simp;omega
 ·simp
def awG(s:ByteArray)(sep:List UInt8):D:= .aL [.str (bs (Lib.cut s.data.toList sep).1),.str (bs (Lib.cut s.data.toList sep).2.1),.bool (Lib.cut s.data.toList sep).2.2]
def avb[BV](s:ByteArray)(sep:List UInt8)(hs:s.size<4294967281):aH Tryz.prog 26 none [.str s,.str (bs sep)] (awG s sep) []:=by
 refine yt (by kernel_rfl) fun w M vs hG hr=> ?_;obtain ⟨v,q,rfl,⟨rfl,_⟩,v2,q2,rfl,⟨rfl,_⟩,rfl⟩:=hr;obtain ⟨cs,⟨m,hcs⟩,hc⟩:=(BV.h w hG.2.1).cell;have hm:=hc 0;rw [hcs] at hm;have h:=Yn s.data.toList sep;rw [size_data] at h;refine (Tryz.strings_Cut s (bs sep) m w hs hm).mono ?_;rintro e w' ⟨rfl,k,rfl⟩;rw [Cp];refine ⟨_,rfl,⟨_,rfl,_,_,rfl,⟨rfl,?_⟩,_,_,rfl,⟨rfl,?_⟩,_,_,rfl,rfl,rfl⟩,⟨rfl,rfl,rfl,bU _,fun _ _=>rfl⟩⟩
 ·rw [rG];unfold maxLen;omega
 ·rw [rG];unfold maxLen;omega
def pieces(s sep:ByteArray):List ByteArray:=(Lib.split s.data.toList sep.data.toList).map bs
def ajB(l:List ByteArray):(l.map (·.data.toList)).map bs=l:=by
 rw [KC]
 conv=>rhs;rw [<-List.map_id l]
 exact Ex fun x _=>QY x
def ajE{x:List UInt8}: ∀{l:List (List UInt8)},x∈l->x.length<=Lib.lens l
 | y::r,h=>by
  have e:Lib.lens (y::r)=y.length+Lib.lens r:=by simp [Lib.lens]
  rw [e];rcases fJ.1 h with rfl|h
  ·omega
  ·have:=ajE h;omega
def aEQ{s sep:List UInt8}(h:sep≠[]):(Lib.split s sep).length<=s.length+1/\ ∀x∈Lib.split s sep,x.length<=s.length:=by
 obtain ⟨h1,h2⟩:=aaw h s.length s (bU _);have hpos:0<sep.length:=PR.2 h;cases hl:Lib.split s sep with
 | nil=>exact absurd hl h2
 | cons y r =>
  rw [hl,Lib.join_cons] at h1;have e:=congrArg List.length h1;rw [jw,Lib.joinTail_length] at e;have:r.length<=sep.length*r.length:=Nat.le_mul_of_pos_left _ hpos;refine ⟨by simp;omega,fun x hx=> ?_⟩;rcases fJ.1 hx with rfl|hx
  ·omega
  ·have:=ajE hx;omega
def aba{s sep:ByteArray}(h:1<=sep.size):(pieces s sep).length<=s.size+1/\ ∀x∈pieces s sep,x.size<=s.size:=by
 have hne:sep.data.toList≠[]:=fun e=>by
  have:sep.size=0:=by rw [<-size_data,e];rfl
  omega
 obtain ⟨h1,h2⟩:=aEQ (s:=s.data.toList) hne;rw [size_data] at h1;refine ⟨by unfold pieces;rw [cV];exact h1,fun x hx=> ?_⟩;obtain ⟨y,hy,rfl⟩:=gD.1 hx;have:=h2 y hy;rw [size_data] at this;rw [rG];exact this
def aCX{s sep:ByteArray}(h:1<=sep.size){k:Nat}(hk:k<(pieces s sep).length):(nth (pieces s sep) k).size<=s.size:=(aba h).2 _ (iC hk)
def pieces_eq(s sep:ByteArray):Lib.splitB sep 0 (Lib.countB s sep) s=pieces s sep:=by unfold pieces;rw [<-ajB (Lib.splitB sep 0 (Lib.countB s sep) s),Lib.splitB_data];rfl
def ava[BV](s sep:ByteArray)(hs:s.size<4294967281)(h1:1<=sep.size):eA Tryz.prog 28 none [.str s,.str sep] (ax (pieces s sep)) [] [(0,1)]:=by
 refine ⟨by kernel_rfl,fun w M g vs hG hr _=> ?_⟩;obtain ⟨v,q,rfl,⟨rfl,_⟩,v2,q2,rfl,⟨rfl,_⟩,rfl⟩:=hr;obtain ⟨cs,⟨m,hcs⟩,hc⟩:=(BV.h w hG.2.1).cell;have hm:=hc 0;rw [hcs] at hm;obtain ⟨z1,z2⟩:=aba (s:=s) h1;have hlen:Lib.countB s sep+1=(pieces s sep).length:=by rw [<-pieces_eq,Lib.splitB_all sep h1 0 _ s rfl]
 refine (Tryz.strings_Split s sep m w hs hm h1).mono ?_;rintro e w' ⟨rfl,rfl⟩;rw [pieces_eq,hlen];have Z2: ∀p,¬pT (.slice (some ⟨w.heap.size,0,none⟩) (pieces s sep).length (pieces s sep).length) [(0,1)] p:=by rintro p ⟨x,hx,hsp⟩;simp at hx;subst hx;obtain ⟨b,o,s',len,cap,e,q1,q2,q3⟩:=hsp;have e:Value.slice (some ⟨w.heap.size,0,none⟩) (pieces s sep).length (pieces s sep).length= .slice (some ⟨b,o,s'⟩) len cap:=e;cases e;omega
 have hnew:(w.alloc (.cells ((pieces s sep).map Value.string).toArray 9)).heap[w.heap.size]? =some (.cells ((pieces s sep).map Value.string).toArray 9 (0,0)):=Fv (by simp);refine ⟨_,rfl,Ek (pieces s sep) hnew rfl rfl (fun o h=> ?_) (fun x hx=> ?_) ?_,yq ((dP _ _).alloc (bU _) _) (bU _),⟨fun x hx=> ?_,fun i j x y hi hj hij=> ?_⟩,fun h=>by cases h⟩
 ·rcases h with h|h
  ·have:=hG.1 _ h;simp at this
  ·exact Z2 _ h
 ·have:=z2 x hx;unfold maxLen;omega
 ·unfold maxLen;omega
 ·simp at hx;subst hx;intro b o s' len cap e hc;have e:Value.slice (some ⟨w.heap.size,0,none⟩) (pieces s sep).length (pieces s sep).length= .slice (some ⟨b,o,s'⟩) len cap:=e;cases e;exact ⟨rfl,bU _,_,_,hnew,by simp⟩
 ·have h1:=(dQ.1 hi).1;have h2:=(dQ.1 hj).1;simp at h1 h2;omega
end Go.Proofs.YtekplmpbkgchfaaGreatDoor
namespace Go.Proofs.YtekplmpbkgchfaaGreatDoor
open Go.RowKit Go
variable [GC]
def xZ:ByteArray:=⟨#[61]⟩
def NK:ByteArray:=⟨#[45]⟩
def jk:ByteArray:=⟨#[44]⟩
def Ut:(⟨#[61]⟩:ByteArray)=xZ:=rfl
def alS:(⟨#[45]⟩:ByteArray)=NK:=rfl
def alR:(⟨#[44]⟩:ByteArray)=jk:=rfl
def abQ:xZ.size=1:=rfl
def aFa:jk.size=1:=rfl
def yH(c:Cell):ByteArray:=c.key++xZ++bs (fR c.val.toNat)
def fmtC(l:List Cell):ByteArray:=if iJ l=true then (if l.length=0 then NK else kA (l.map yH) jk) else aV
def Re{l:List Cell}(h:iJ l=true){k:Nat}(hk:k<l.length):jj (nth l k).key=true/\gH (nth l k).val=true:=by unfold iJ at h;simp only [aP] at h;have:=mD.1 h.2 k hk;unfold mJ at this;simp only [aP] at this;exact this.1
def xy{l:List Cell}(h:iJ l=true):l.length<=4:=by unfold iJ at h;simp only [aP,cC] at h;exact h.1
def ajZ{n:Int}(h:gH n=true): ∃m:Nat,n=m/\m<1000:=by unfold gH at h;simp only [aP,cC] at h;exact ⟨n.toNat,by omega,by omega⟩
def aws{c:Cell}(h1:jj c.key=true)(h2:gH c.val=true):(yH c).size<=12:=by obtain ⟨m,e,hm⟩:=ajZ h2;have:=Tz h1;have hl:=Il hm;unfold yH;rw [e,jv];simp only [gx,abQ,rG];omega
def afK{l:List Cell}(h:iJ l=true):(kA (l.map yH) jk).size<=52:=by
 have h1:=xy h;refine dq (aav (n:=12) fun k hk=> ?_) ?_
 ·have hk:k<l.length:=by simpa using hk
  have:nth (l.map yH) k=yH (nth l k):=by simp [nth,hk]
  rw [this];exact aws (Re h hk).1 (Re h hk).2
 ·rw [cV,aFa];omega
def agV(l:List Cell):(fmtC l).size<=52:=by
 unfold fmtC;split
 ·rename_i h;split
  ·decide
  ·exact afK h
 ·decide
def afn(l:List Cell):aH Tryz.prog 184 none [ax l] (.str (fmtC l)) []:=by
 refine cB ank aGf ⟨yd l,trivial⟩ fun hfit=> ?_;unfold ank;refine aF (X9 l) ?_;refine aq (fun h=>az ?_) (fun h=> ?_)
 ·simp only [eS] at h ⊢;rw [fmtC,ak (by grind)];rfl
 simp only [eS] at h;have h:iJ l=true:=by grind
 have h4:=xy h;have hj:=afK h;have ma:(l.map yH).length<=140737488355328:=by rw [cV];omega
 refine eZ l.length (fun k=>[ax ((l.take k).map yH),.int .i64 k]) (fun _=>True) rfl trivial ?_;intro k hk hI _;simp only [cA];apply aq<;>intro g2<;>simp only [eS] at g2
 ·have g2:k<l.length:=by simp at g2;exact g2
  obtain ⟨q1,q2⟩:=Re h g2;obtain ⟨m,e,hm⟩:=ajZ q2;have q3:=Tz q1;have hl:=Il hm;refine fZ ?_
  (try (refine aX (fun _=> ?_) ?_;(focus (simp only [eS,rf,lY,Ut];refine jR ?_;simp only [gx,abQ];unfold maxLen;omega))))
  refine aF (Q5 hm) ?_ (ha:=by (simp only [gS,rf,lY,jv,e];try exact rfl))
  (try (refine aX (fun _=> ?_) ?_;(focus (simp only [eS,rf,lY,Ut];refine jR ?_;simp only [gx,abQ,rG];unfold maxLen;omega))))
  refine aX (fun _=> ?_) ?_
  ·simp only [eS];simp [maxLen];omega
  refine dK g2 ?_ trivial;simp only [eS,rf,lY,Ut];rw [bW,ajC _ g2];simp [ax,eB,yH,e]
 ·obtain rfl:k=l.length:=by simp at g2;omega
  refine aq (fun g3=>az ?_) (fun g3=> ?_)
  ·simp only [eS] at g3 ⊢;have g3:l.length=0:=by simpa using g3
   rw [fmtC,aA h,aA g3];rfl
  ·simp only [eS] at g3;have g3:l.length≠0:=by simpa using g3
   refine aF (afr (l.map yH) jk ma (by omega)) ?_ (ha:=by (simp only [gS,alR,vO];try exact rfl));refine az ?_;simp only [eS];rw [fmtC,aA h,ak g3]
def pcA(x:ByteArray):ByteArray:=bs (Lib.cut x.data.toList [61]).1
def F6(x:ByteArray):ByteArray:=bs (Lib.cut x.data.toList [61]).2.1
def pcC(x:ByteArray):Cell:=⟨pcA x,qU (F6 x)⟩
def Bj(x:ByteArray):Bool:=(Lib.cut x.data.toList [61]).2.2&&zk (F6 x)
def Bg(s:ByteArray):List Cell:=(pieces s jk).map pcC
def F5(s:ByteArray):Bool:=(pieces s jk).all Bj&&decide ((pieces s jk).length<=4)&&iJ (Bg s)
def oD(s:ByteArray):List Cell×Bool:=if s=NK then ([],true) else if F5 s=true then (Bg s,true) else ([],false)
def aCT{s:ByteArray}(h:(oD s).2=true):iJ (oD s).1=true:=by
 unfold oD at h ⊢;split
 ·decide
 ·rename_i h1;rw [ak h1] at h;split
  ·rename_i h2;unfold F5 at h2;simp only [aP] at h2;exact h2.2
  ·rename_i h2;rw [ak h2] at h;cases h
end Go.Proofs.YtekplmpbkgchfaaGreatDoor
