/- Plain functions on versions. No program in sight. -/
import Derived.PlainAid
import Derived.Test.YtimickglpboilaaGreatDoorG11
import Derived.Test.YtimickglpboilaaGreatDoorG0
import Derived.Test.YtimickglpboilaaGreatDoorG10
import Derived.Lib.Split
import Derived.Lib.Join
import Derived.Lib.Atoi
import Derived.Lib.ItoaNum
set_option linter.unusedVariables false
set_option linter.unusedSimpArgs false
set_option maxRecDepth 100000
set_option linter.unusedSectionVars false
namespace Go.Proofs.YtimickglpboilaaGreatDoor
section
def qn(f:Int):Bool:=decide (0<=f)&&decide (f<=63)
theorem NF{f:Int}(h:qn f=true): ∃n:Nat,f=n/\n<64:=by
 unfold qn at h;simp at h;exact ⟨f.toNat,by omega,by omega⟩
def Wr(a b c d:Int):Int:=if a<c\/(a=c/\b<d) then -1 else if a=c/\b=d then 0 else 1
def adA:Nat->Int|0=>1|1=>1|2=>1|3=>1|4=>2|5=>2|_=>0
def adB:Nat->Int|0=>0|1=>0|2=>1|3=>2|4=>0|5=>1|_=>0
def ajw(a b:Int)(k:Nat):Bool:=decide (Wr (adA k) (adB k) a b<=0)
end
section
end
section
open Go.RowKit Go
variable [GC]
theorem Ke(f:Int):aD Tryz.prog 71 none [.int .i64 f] (.bool (qn f)) []:=by
 refine aD.bK ahf aen rfl ?_ (fun hfit=> ?_)
 ·simp [QK,fz,bU,cz,bM]
 simp only [Ra,VC.den,E.den,aa,aK,and_true]
 simp [aS,qn]
theorem JR: ∀k:Fin 6,cv .shl .i64 1 ((k:Nat):Int)=((2^(k:Nat):Nat):Int):=by decide +kernel
theorem UT: ∀n:Fin 64,∀k:Fin 6,aS .eql (cv .rem .i64 (cv .shr .i64 ((n:Nat):Int) ((k:Nat):Int)) 2) 1=n.val.testBit k.val:=by decide +kernel
end
section
open Go.RowKit
end
section
open Go.RowKit Go
variable [GC]
theorem zR(m k:Nat)(hm:m<64)(hk:k<6):aD Tryz.prog 58 none [.int .i64 m,.int .i64 k] (.bool (m.testBit k)) []:=by
 refine aD.bK aio agz rfl ?_ (fun hfit=> ?_)
 ·simp [QV,fz,bU,cz,bM]
 unfold SA
 refine bh (fun _=> ?_) (bh (fun _=>rfl) (aF ?_))
 ·simp [E.den,aS]
 have hb:=UT ⟨m,hm⟩ ⟨k,hk⟩
 simp only at hb
 simp only [E.den,List.getD_cons_zero,List.getD_cons_succ,D.cQ,hb]
theorem Kn(f:Int):aD Tryz.prog 57 none [.int .i64 f] (.bool (qn f)) []:=by
 refine aD.bK ah8 af7 rfl ?_ (fun hfit=> ?_)
 ·simp [QS,fz,bU,cz,bM]
 simp only [Sk,VC.den,E.den,aa,aK,and_true]
 simp [aS,qn]
def cK(a b:Int):Bool:=qn a&&qn b&&aS .eql (cv .andNot .i64 b a) 0
theorem Kf(a b:Int):aD Tryz.prog 40 none [.int .i64 a,.int .i64 b] (.bool (cK a b)) []:=by
 refine aD.bK ahk aew rfl ?_ (fun hfit=> ?_)
 ·simp [QL,fz,bU,cz,bM]
 unfold Rg
 (apply bu;(focus (simp only [VC.den,E.den,aa,aK,and_true];try exact rfl));(focus (exact Ke a));(focus (simp [fz,bU,cz,bM,bf,gT,enc]));(simp only [cA]))
 (apply bu;(focus (simp only [VC.den,E.den,aa,aK,and_true];try exact rfl));(focus (exact Ke b));(focus (simp [fz,bU,cz,bM,bf,gT,enc]));(simp only [cA]))
 exact aF rfl
end
section
open Go.RowKit Go
variable [GC]
def jT(s:ByteArray)(k:Nat):Bool:=(decide (97<=tu s k)&&decide (tu s k<=122))||(!(k==0)&&(decide (48<=tu s k)&&decide (tu s k<=57)))
def kS(s:ByteArray):Bool:=decide (1<=s.size)&&decide (s.size<=8)&&iT (jT s) s.size
theorem VX(b:Int)(f:Bool):aD Tryz.prog 83 none [.int .u8 b,.bool f] (.bool ((decide (97<=b)&&decide (b<=122))||(!f&&(decide (48<=b)&&decide (b<=57))))) []:=by
 refine aD.bK aim agw rfl ?_ (fun hfit=> ?_)
 ·exact ⟨rfl,trivial,trivial⟩
 unfold Sy
 refine aF ?_
 simp [E.den,aS,Bool.and_assoc]
theorem Ko(s:ByteArray):aD Tryz.prog 56 none [.str s] (.bool (kS s)) []:=by
 refine aD.bK ah9 af9 rfl ?_ (fun hfit=> ?_)
 ·exact ⟨trivial,trivial⟩
 have hl:=tH hfit.1
 unfold Sl
 refine fp s.size (fun k=>[.int .i64 k]) (fun k=>iT (jT s) k=true) rfl rfl ?_
 intro k hk hI _
 simp only [cA]
 refine aG (fun h2=> ?_) (fun h2=> ?_)
 ·simp only [E.den,aa,ai,aj] at h2
  have h2:k<s.size:=by simp at h2;exact h2
  (refine bh (fun hg=> ?_) ?_;(focus (simp only [bB,gE,E.den,aa,ai,aj] at hg ⊢;(try simp only [D.bool.injEq] at hg);(try simp only [D.bool.injEq]);grind)))
  (refine bu ?_ (VX (tu s k) ((k:Int)==0)) (trivial) ?_;(focus (simp only [VC.den,E.den,aa,aK,and_true,JW,Fb,Int.toNat_natCast];try exact rfl));(simp only [cA]))
  refine aG (fun h3=> ?_) (fun h3=> ?_)
  ·simp only [E.den,aa,ai,aj] at h3
   have hb:jT s k=false:=by
    simp at h3
    simp [jT];omega
   refine aF ?_
   simp [E.den,kS,uP h2 hb]
  ·simp only [E.den,aa,ai,aj] at h3
   have hb:jT s k=true:=by
    simp at h3
    simp [jT];omega
   refine eH h2 ?_ (show (iT (jT s) k&&jT s k)=true by rw [hI,hb];rfl)
   simp only [E.den,aa,ai,aj]
   rw [db (by omega) (by omega)];rfl
 ·simp only [E.den,aa,ai,aj] at h2
  obtain rfl:k=s.size:=by simp at h2;omega
  refine aF ?_
  simp only [kS,hI,Bool.and_true]
  simp only [E.den,aa,ai,aj]
  congr 1
  grind
theorem E3(s:ByteArray):aD Tryz.prog 70 none [.str s] (.bool (kS s)) []:=by
 refine aD.bK ahg aep rfl ?_ (fun hfit=> ?_)
 ·exact ⟨trivial,trivial⟩
 have hl:=tH hfit.1
 unfold Rb
 (refine bh (fun hg=> ?_) ?_;(focus (simp only [bB,gE,E.den,aa,ai,aj] at hg ⊢;(try simp only [D.bool.injEq] at hg);(try simp only [D.bool.injEq]);grind)))
 (refine bh (fun hg=> ?_) ?_;(focus (simp only [bB,gE,E.den,aa,ai,aj] at hg ⊢;(try simp only [D.bool.injEq] at hg);(try simp only [D.bool.injEq]);grind)))
 refine aG (fun h=> ?_) (fun h=> ?_)
 ·simp only [E.den,aa,ai,aj] at h
  refine aF ?_
  simp only [E.den,D.bool.injEq]
  by_cases h0:1<=s.size/\s.size<=8
  ·have hb:jT s 0=false:=by
    simp at h
    simp [jT];omega
   simp [kS,uP (show 0<s.size by omega) hb]
  ·have:(decide (1<=s.size)&&decide (s.size<=8))=false:=by simp;omega
   simp [kS,this]
 simp only [E.den,aa,ai,aj] at h
 have h0:1<=s.size/\s.size<=8:=by grind
 refine fp s.size (fun k=>[.int .i64 k]) (fun k=>iT (jT s) k=true) rfl rfl ?_
 intro k hk hI _
 simp only [cA]
 refine aG (fun h2=> ?_) (fun h2=> ?_)
 ·simp only [E.den,aa,ai,aj] at h2
  have h2:k<s.size:=by simp at h2;exact h2
  (refine bh (fun hg=> ?_) ?_;(focus (simp only [bB,gE,E.den,aa,ai,aj] at hg ⊢;(try simp only [D.bool.injEq] at hg);(try simp only [D.bool.injEq]);grind)))
  (refine bh (fun hg=> ?_) ?_;(focus (simp only [bB,gE,E.den,aa,ai,aj] at hg ⊢;(try simp only [D.bool.injEq] at hg);(try simp only [D.bool.injEq]);grind)))
  (refine bh (fun hg=> ?_) ?_;(focus (simp only [bB,gE,E.den,aa,ai,aj] at hg ⊢;(try simp only [D.bool.injEq] at hg);(try simp only [D.bool.injEq]);grind)))
  (refine bh (fun hg=> ?_) ?_;(focus (simp only [bB,gE,E.den,aa,ai,aj] at hg ⊢;(try simp only [D.bool.injEq] at hg);(try simp only [D.bool.injEq]);grind)))
  refine aG (fun h3=> ?_) (fun h3=> ?_)
  ·simp only [E.den,aa,ai,aj] at h3
   have hb:jT s k=false:=by
    simp at h3
    simp [jT];omega
   refine aF ?_
   simp [E.den,kS,uP h2 hb]
  ·simp only [E.den,aa,ai,aj] at h3
   have hb:jT s k=true:=by
    simp at h h3
    by_cases e:k=0
    ·subst e;simp [jT];omega
    ·simp [jT];omega
   refine eH h2 ?_ (show (iT (jT s) k&&jT s k)=true by rw [hI,hb];rfl)
   simp only [E.den,aa,ai,aj]
   rw [db (by omega) (by omega)];rfl
 ·simp only [E.den,aa,ai,aj] at h2
  obtain rfl:k=s.size:=by simp at h2;omega
  refine aF ?_
  simp [E.den,kS,hI,h0]
def eU(n:Int):Bool:=decide (0<=n)&&decide (n<=999)
theorem zQ(n:Int):aD Tryz.prog 68 none [.int .i64 n] (.bool (eU n)) []:=by
 refine aD.bK ahs aeK rfl ?_ (fun hfit=> ?_)
 ·exact ⟨rfl,trivial⟩
 exact aF (by simp [E.den,aS,eU])
def kinds:List ByteArray:=[⟨#[115,116,111,110,101]⟩,⟨#[108,97,109,112]⟩,⟨#[115,104,101,108,102]⟩,⟨#[109,101,116,101,114]⟩,⟨#[100,114,97,119,101,114]⟩,⟨#[104,111,114,110]⟩,⟨#[118,97,117,108,116]⟩,⟨#[114,111,98,111,116]⟩]
def uf:List Nat:=[0,1,2,5,3,9,19,63]
def ue(s:ByteArray):Option Nat:=if s=nth kinds 0 then some 0 else if s=nth kinds 1 then some 1 else if s=nth kinds 2 then some 2 else if s=nth kinds 3 then some 3 else if s=nth kinds 4 then some 4 else if s=nth kinds 5 then some 5 else if s=nth kinds 6 then some 6 else if s=nth kinds 7 then some 7 else none
def dO(s:ByteArray):Nat:=match ue s with|some k=>uf.getD k 0|none=>0
def kindOk(s:ByteArray):Bool:=(ue s).isSome
theorem vV(s:ByteArray):dO s<64:=by
 unfold dO
 split
 ·rename_i k _
  by_cases h:k<8
  ·obtain rfl|rfl|rfl|rfl|rfl|rfl|rfl|rfl:k=0\/k=1\/k=2\/k=3\/k=4\/k=5\/k=6\/k=7:=by omega
   all_goals decide
  ·rw [List.getD,List.getElem?_eq_none (by simp [uf];omega)];decide
 ·decide
theorem NL{s:ByteArray}(h: ∀j,j<8->nth kinds j≠s):ue s=none:=by
 unfold ue
 rw [if_neg (fun e=>h 0 (by omega) e.symm),if_neg (fun e=>h 1 (by omega) e.symm),if_neg (fun e=>h 2 (by omega) e.symm),if_neg (fun e=>h 3 (by omega) e.symm),if_neg (fun e=>h 4 (by omega) e.symm),if_neg (fun e=>h 5 (by omega) e.symm),if_neg (fun e=>h 6 (by omega) e.symm),if_neg (fun e=>h 7 (by omega) e.symm)]
theorem eight{k:Nat}(h:k<8):k=0\/k=1\/k=2\/k=3\/k=4\/k=5\/k=6\/k=7:=by omega
theorem E4(s:ByteArray):aD Tryz.prog 90 none [.str s] (.aC [.int .i64 (dO s),.bool (kindOk s)]) []:=by
 refine aD.bK ahj aev rfl ?_ (fun hfit=> ?_)
 ·exact ⟨trivial,trivial⟩
 clear hfit
 unfold Rf
 refine aG (fun h=> ?_) (fun h0=> ?_)
 ·simp only [E.den,aa,ai,aj] at h;simp at h;subst h;exact aF rfl
 refine aG (fun h=> ?_) (fun h1=> ?_)
 ·simp only [E.den,aa,ai,aj] at h;simp at h;subst h;exact aF rfl
 refine aG (fun h=> ?_) (fun h2=> ?_)
 ·simp only [E.den,aa,ai,aj] at h;simp at h;subst h;exact aF rfl
 refine aG (fun h=> ?_) (fun h3=> ?_)
 ·simp only [E.den,aa,ai,aj] at h;simp at h;subst h;exact aF rfl
 refine aG (fun h=> ?_) (fun h4=> ?_)
 ·simp only [E.den,aa,ai,aj] at h;simp at h;subst h;exact aF rfl
 refine aG (fun h=> ?_) (fun h5=> ?_)
 ·simp only [E.den,aa,ai,aj] at h;simp at h;subst h;exact aF rfl
 refine aG (fun h=> ?_) (fun h6=> ?_)
 ·simp only [E.den,aa,ai,aj] at h;simp at h;subst h;exact aF rfl
 refine aG (fun h=> ?_) (fun h7=> ?_)
 ·simp only [E.den,aa,ai,aj] at h;simp at h;subst h;exact aF rfl
 simp only [E.den,aa,ai,aj] at h0 h1 h2 h3 h4 h5 h6 h7
 simp at h0 h1 h2 h3 h4 h5 h6 h7
 have hn:ue s=none:=NL fun j hj=>by
  obtain rfl|rfl|rfl|rfl|rfl|rfl|rfl|rfl:=eight hj
  all_goals (intro e;first|exact h0 e.symm|exact h1 e.symm|exact h2 e.symm|exact h3 e.symm|exact h4 e.symm|exact h5 e.symm|exact h6 e.symm|exact h7 e.symm)
 exact aF (by simp [E.den,dO,kindOk,hn])
theorem NM: ∀k:Fin 8,ue (nth kinds k.val)=some k.val:=by decide +kernel
def DE:E:= .put (.put (.put (.put (.put (.put (.put (.put (.bw 9) (.ah (.ls ⟨#[115,116,111,110,101]⟩))) (.ah (.ls ⟨#[108,97,109,112]⟩))) (.ah (.ls ⟨#[115,104,101,108,102]⟩))) (.ah (.ls ⟨#[109,101,116,101,114]⟩))) (.ah (.ls ⟨#[100,114,97,119,101,114]⟩))) (.ah (.ls ⟨#[104,111,114,110]⟩))) (.ah (.ls ⟨#[118,97,117,108,116]⟩))) (.ah (.ls ⟨#[114,111,98,111,116]⟩))
def Ha:E:= .put (.put (.put (.put (.put (.put (.put (.put (.bw 3) (.ah (.li .i64 0))) (.ah (.li .i64 1))) (.ah (.li .i64 2))) (.ah (.li .i64 5))) (.ah (.li .i64 3))) (.ah (.li .i64 9))) (.ah (.li .i64 19))) (.ah (.li .i64 63))
theorem Bk(env:List D):DE.den env=aN kinds:=rfl
theorem NN(env:List D):Ha.den env=aN (uf.map fun (n:Nat)=>(n:Int)):=rfl
theorem E6(s:ByteArray):aD Tryz.prog 80 none [.str s] (.aC [.int .i64 (dO s),.bool (kindOk s)]) []:=by
 refine aD.bK aid agf rfl ?_ (fun hfit=> ?_)
 ·exact ⟨trivial,trivial⟩
 clear hfit
 show VC.den _ _ (.loop [.one (.c (.int .i64))] [.li .i64 0] (.ite (.ic .lss (.var 1) (.len DE)) (.rq (.cond [] (.bP DE (.var 1))) (.ite (.sc .eql (.cell (.row [.str] DE (.var 1)) 0) (.var 0)) (.rq (.cond [] (.bP Ha (.var 1))) (.ret (.aI (.aI .bH (.cell (.row [.int .i64] Ha (.var 1)) 0)) (.lb true)) [])) (.again 0 [.ar .add .i64 (.var 1) (.li .i64 1)]))) (.ret (.aI (.aI .bH (.li .i64 0)) (.lb false)) []))) _ _ _
 have e8:kinds.length=8:=rfl
 refine fp 8 (fun k=>[.int .i64 k]) (fun k=> ∀j,j<k->nth kinds j≠s) rfl (by omega) ?_
 intro k hk hI _
 simp only [cA]
 refine aG (fun h2=> ?_) (fun h2=> ?_)
 ·simp only [E.den,aa,ai,aj,Bk,e8] at h2
  have h2:k<8:=by simp at h2;omega
  refine bh (fun _=> ?_) ?_
  ·simp only [E.den,aa,ai,aj,Bk,e8]
   simp;omega
  refine aG (fun h3=> ?_) (fun h3=> ?_)
  ·simp only [E.den,aa,ai,aj,Bk,kV,ja] at h3
   simp at h3
   refine bh (fun _=> ?_) ?_
   ·simp only [E.den,aa,ai,aj,NN,List.length_map]
    simp [uf];omega
   refine aF ?_
   simp only [E.den,aa,ai,aj,NN,PF,KC]
   have hn:ue s=some k:=by rw [<-h3];exact NM ⟨k,h2⟩
   simp only [dO,kindOk,hn]
   obtain rfl|rfl|rfl|rfl|rfl|rfl|rfl|rfl:k=0\/k=1\/k=2\/k=3\/k=4\/k=5\/k=6\/k=7:=by omega
   all_goals rfl
  ·simp only [E.den,aa,ai,aj,Bk,kV,ja] at h3
   simp at h3
   refine eH h2 ?_ fun j hj=> ?_
   ·simp only [E.den,aa,ai,aj]
    rw [db (by omega) (by omega)];rfl
   ·rcases Nat.lt_or_ge j k with h|h
    ·exact hI j h
    ·obtain rfl:j=k:=by omega
     exact h3
 ·simp only [E.den,aa,ai,aj,Bk,e8] at h2
  obtain rfl:k=8:=by simp at h2;omega
  refine aF ?_
  have hn:=NL hI
  simp [E.den,dO,kindOk,hn]
def af:List ByteArray:=[⟨#[112,108,97,105,110]⟩,⟨#[114,117,110,115]⟩,⟨#[107,101,101,112,115]⟩,⟨#[99,111,117,110,116,115]⟩,⟨#[108,97,122,121]⟩,⟨#[114,101,97,100,115]⟩,⟨#[104,101,97,114,115]⟩,⟨#[104,101,97,108,115]⟩,⟨#[116,119,105,99,101]⟩]
def vW:List Nat:=[0,1,2,2,3,2,1,1,4]
def yV:List Nat:=[0,1,2,6,3,2,9,33,4]
def rP(s:ByteArray):Option Nat:=if s=nth af 0 then some 0 else if s=nth af 1 then some 1 else if s=nth af 2 then some 2 else if s=nth af 3 then some 3 else if s=nth af 4 then some 4 else if s=nth af 5 then some 5 else if s=nth af 6 then some 6 else if s=nth af 7 then some 7 else if s=nth af 8 then some 8 else none
def lW(s:ByteArray):Nat:=match rP s with|some k=>vW.getD k 0|none=>0
def mB(s:ByteArray):Nat:=match rP s with|some k=>yV.getD k 0|none=>0
def qp(s:ByteArray):Bool:=(rP s).isSome
theorem nine{k:Nat}(h:k<9):k=0\/k=1\/k=2\/k=3\/k=4\/k=5\/k=6\/k=7\/k=8:=by omega
theorem Xz(s:ByteArray):mB s<64:=by
 unfold mB
 split
 ·rename_i k _
  by_cases h:k<9
  ·obtain rfl|rfl|rfl|rfl|rfl|rfl|rfl|rfl|rfl:=nine h
   all_goals decide
  ·rw [List.getD,List.getElem?_eq_none (by simp [yV];omega)];decide
 ·decide
theorem NR{s:ByteArray}(h: ∀j,j<9->nth af j≠s):rP s=none:=by
 unfold rP
 rw [if_neg (fun e=>h 0 (by omega) e.symm),if_neg (fun e=>h 1 (by omega) e.symm),if_neg (fun e=>h 2 (by omega) e.symm),if_neg (fun e=>h 3 (by omega) e.symm),if_neg (fun e=>h 4 (by omega) e.symm),if_neg (fun e=>h 5 (by omega) e.symm),if_neg (fun e=>h 6 (by omega) e.symm),if_neg (fun e=>h 7 (by omega) e.symm),if_neg (fun e=>h 8 (by omega) e.symm)]
theorem DH: ∀k:Fin 9,rP (nth af k.val)=some k.val:=by decide +kernel
def qo(s:ByteArray):D:= .aC [.int .i64 (lW s),.int .i64 (mB s),.bool (qp s)]
theorem Ki(s:ByteArray):aD Tryz.prog 66 none [.str s] (qo s) []:=by
 refine aD.bK aht aeM rfl ?_ (fun hfit=> ?_)
 ·exact ⟨trivial,trivial⟩
 clear hfit
 unfold Rp
 refine aG (fun h=> ?_) (fun h0=> ?_)
 ·simp only [E.den,aa,ai,aj] at h;simp at h;subst h;exact aF rfl
 refine aG (fun h=> ?_) (fun h1=> ?_)
 ·simp only [E.den,aa,ai,aj] at h;simp at h;subst h;exact aF rfl
 refine aG (fun h=> ?_) (fun h2=> ?_)
 ·refine aG (fun _=> ?_) (fun h'=> ?_)
  ·simp only [E.den,aa,ai,aj] at h;simp at h;subst h;exact aF rfl
  ·rw [h] at h';cases h'
 refine aG (fun h=> ?_) (fun h3=> ?_)
 ·simp only [E.den,aa,ai,aj] at h;simp at h;subst h;exact aF rfl
 refine aG (fun h=> ?_) (fun h4=> ?_)
 ·simp only [E.den,aa,ai,aj] at h;simp at h;subst h;exact aF rfl
 refine aG (fun h=> ?_) (fun h5=> ?_)
 ·simp only [E.den,aa,ai,aj] at h;simp at h;subst h;exact aF rfl
 refine aG (fun h=> ?_) (fun h6=> ?_)
 ·simp only [E.den,aa,ai,aj] at h;simp at h;subst h;exact aF rfl
 refine aG (fun h=> ?_) (fun h7=> ?_)
 ·simp only [E.den,aa,ai,aj] at h;simp at h;subst h;exact aF rfl
 refine aG (fun h=> ?_) (fun h8=> ?_)
 ·simp only [E.den,aa,ai,aj] at h;simp at h;subst h;exact aF rfl
 simp only [E.den,aa,ai,aj] at h0 h1 h2 h3 h4 h5 h6 h7 h8
 simp at h0 h1 h2 h3 h4 h5 h6 h7 h8
 have hn:rP s=none:=NR fun j hj=>by
  obtain rfl|rfl|rfl|rfl|rfl|rfl|rfl|rfl|rfl:=nine hj
  all_goals (intro e;first|exact h0 e.symm|exact h1 e.symm|exact h2 e.symm|exact h3 e.symm|exact h4 e.symm|exact h5 e.symm|exact h6 e.symm|exact h7 e.symm|exact h8 e.symm)
 exact aF (by simp [E.den,qo,lW,mB,qp,hn])
def DI:E:= .put (.put (.put (.put (.put (.put (.put (.put (.put (.bw 9) (.ah (.ls ⟨#[112,108,97,105,110]⟩))) (.ah (.ls ⟨#[114,117,110,115]⟩))) (.ah (.ls ⟨#[107,101,101,112,115]⟩))) (.ah (.ls ⟨#[99,111,117,110,116,115]⟩))) (.ah (.ls ⟨#[108,97,122,121]⟩))) (.ah (.ls ⟨#[114,101,97,100,115]⟩))) (.ah (.ls ⟨#[104,101,97,114,115]⟩))) (.ah (.ls ⟨#[104,101,97,108,115]⟩))) (.ah (.ls ⟨#[116,119,105,99,101]⟩))
def He:E:= .put (.put (.put (.put (.put (.put (.put (.put (.put (.bw 3) (.ah (.li .i64 0))) (.ah (.li .i64 1))) (.ah (.li .i64 2))) (.ah (.li .i64 2))) (.ah (.li .i64 3))) (.ah (.li .i64 2))) (.ah (.li .i64 1))) (.ah (.li .i64 1))) (.ah (.li .i64 4))
def Hd:E:= .put (.put (.put (.put (.put (.put (.put (.put (.put (.bw 3) (.ah (.li .i64 0))) (.ah (.li .i64 1))) (.ah (.li .i64 2))) (.ah (.li .i64 6))) (.ah (.li .i64 3))) (.ah (.li .i64 2))) (.ah (.li .i64 9))) (.ah (.li .i64 33))) (.ah (.li .i64 4))
theorem Bl(env:List D):DI.den env=aN af:=rfl
theorem NT(env:List D):He.den env=aN (vW.map fun (n:Nat)=>(n:Int)):=rfl
theorem NS(env:List D):Hd.den env=aN (yV.map fun (n:Nat)=>(n:Int)):=rfl
theorem Ks(s:ByteArray):aD Tryz.prog 82 none [.str s] (qo s) []:=by
 refine aD.bK aiA agV rfl ?_ (fun hfit=> ?_)
 ·exact ⟨trivial,trivial⟩
 clear hfit
 show VC.den _ _ (.loop [.one (.c (.int .i64))] [.li .i64 0] (.ite (.ic .lss (.var 1) (.len DI)) (.rq (.cond [] (.bP DI (.var 1))) (.ite (.sc .eql (.cell (.row [.str] DI (.var 1)) 0) (.var 0)) (.rq (.cond [] (.bP He (.var 1))) (.rq (.cond [] (.bP Hd (.var 1))) (.ret (.aI (.aI (.aI .bH (.cell (.row [.int .i64] He (.var 1)) 0)) (.cell (.row [.int .i64] Hd (.var 1)) 0)) (.lb true)) []))) (.again 0 [.ar .add .i64 (.var 1) (.li .i64 1)]))) (.ret (.aI (.aI (.aI .bH (.li .i64 0)) (.li .i64 0)) (.lb false)) []))) _ _ _
 have e9:af.length=9:=rfl
 refine fp 9 (fun k=>[.int .i64 k]) (fun k=> ∀j,j<k->nth af j≠s) rfl (by omega) ?_
 intro k hk hI _
 simp only [cA]
 refine aG (fun h2=> ?_) (fun h2=> ?_)
 ·simp only [E.den,aa,ai,aj,Bl,e9] at h2
  have h2:k<9:=by simp at h2;omega
  refine bh (fun _=> ?_) ?_
  ·simp only [E.den,aa,ai,aj,Bl,e9]
   simp;omega
  refine aG (fun h3=> ?_) (fun h3=> ?_)
  ·simp only [E.den,aa,ai,aj,Bl,kV,ja] at h3
   simp at h3
   refine bh (fun _=> ?_) (bh (fun _=> ?_) ?_)
   ·simp only [E.den,aa,ai,aj,NT,List.length_map]
    simp [vW];omega
   ·simp only [E.den,aa,ai,aj,NS,List.length_map]
    simp [yV];omega
   refine aF ?_
   simp only [E.den,aa,ai,aj,NT,NS,PF,KC]
   have hn:rP s=some k:=by rw [<-h3];exact DH ⟨k,h2⟩
   simp only [qo,lW,mB,qp,hn]
   obtain rfl|rfl|rfl|rfl|rfl|rfl|rfl|rfl|rfl:=nine h2
   all_goals rfl
  ·simp only [E.den,aa,ai,aj,Bl,kV,ja] at h3
   simp at h3
   refine eH h2 ?_ fun j hj=> ?_
   ·simp only [E.den,aa,ai,aj]
    rw [db (by omega) (by omega)];rfl
   ·rcases Nat.lt_or_ge j k with h|h
    ·exact hI j h
    ·obtain rfl:j=k:=by omega
     exact h3
 ·simp only [E.den,aa,ai,aj,Bl,e9] at h2
  obtain rfl:k=9:=by simp at h2;omega
  refine aF ?_
  have hn:=NR hI
  simp [E.den,qo,lW,mB,qp,hn]
theorem VR(s:ByteArray):aD Tryz.prog 54 none [.str s] (.aC [.int .i64 (lW s),.bool (qp s)]) []:=by
 refine aD.bK aie agi rfl ?_ (fun hfit=> ?_)
 ·exact ⟨trivial,trivial⟩
 unfold Sq
 (refine bu ?_ (Ks s) (⟨rfl,rfl,trivial,trivial⟩) ?_;(focus (simp only [VC.den,E.den,aa,aK,and_true];try exact rfl));(simp only [cA]))
 exact aF rfl
theorem abC: ∀n m:Fin 64,((List.range 6).all fun k=> !(m.val.testBit k&& !n.val.testBit k))=decide (m.val &&& n.val=m.val):=by decide +kernel
theorem abD: ∀n m:Fin 64,aS .eql (cv .andNot .i64 ((m.val:Nat):Int) ((n.val:Nat):Int)) 0=decide (m.val &&& n.val=m.val):=by decide +kernel
theorem E7(a b:Int):aD Tryz.prog 29 none [.int .i64 a,.int .i64 b] (.bool (cK a b)) []:=by
 refine aD.bK aif agk rfl ?_ (fun hfit=> ?_)
 ·exact ⟨rfl,rfl,trivial⟩
 unfold Sr
 (refine bu ?_ (Kn a) (trivial) ?_;(focus (simp only [VC.den,E.den,aa,aK,and_true];try exact rfl));(simp only [cA]))
 (refine bu ?_ (Kn b) (trivial) ?_;(focus (simp only [VC.den,E.den,aa,aK,and_true];try exact rfl));(simp only [cA]))
 refine aG (fun h=> ?_) (fun h=> ?_)
 ·simp only [E.den,aa,ai,aj] at h
  refine aF ?_
  simp only [E.den,D.bool.injEq]
  unfold cK
  grind
 simp only [E.den,aa,ai,aj] at h
 have ha:qn a=true:=by grind
 have hb:qn b=true:=by grind
 obtain ⟨n,rfl,hn⟩:=NF ha
 obtain ⟨m,rfl,hm⟩:=NF hb
 have ho:cK (n:Int) (m:Int)=((List.range 6).all fun k=> !(m.testBit k&& !n.testBit k)):=by
  unfold cK
  rw [ha,hb,Bool.true_and,Bool.true_and,abD ⟨n,hn⟩ ⟨m,hm⟩,abC ⟨n,hn⟩ ⟨m,hm⟩]
 rw [ho]
 refine fp 6 (fun k=>[.int .i64 k]) (fun k=> ∀j,j<k->(!(m.testBit j&& !n.testBit j))=true) rfl (by omega) ?_
 intro k hk hI _
 simp only [cA]
 refine aG (fun h2=> ?_) (fun h2=> ?_)
 ·simp only [E.den,aa,ai,aj] at h2
  have h2:k<6:=by simp at h2;omega
  (refine bu ?_ (zR m k hm h2) (trivial) ?_;(focus (simp only [VC.den,E.den,aa,aK,and_true];try exact rfl));(simp only [cA]))
  (refine bu ?_ (zR n k hn h2) (trivial) ?_;(focus (simp only [VC.den,E.den,aa,aK,and_true];try exact rfl));(simp only [cA]))
  refine aG (fun h3=> ?_) (fun h3=> ?_)
  ·simp only [E.den,aa,ai,aj] at h3
   refine aF ?_
   simp only [E.den,D.bool.injEq]
   symm
   rw [List.all_eq_false]
   exact ⟨k,by simpa using h2,by rw [h3];simp⟩
  ·simp only [E.den,aa,ai,aj] at h3
   refine eH h2 ?_ fun j hj=> ?_
   ·simp only [E.den,aa,ai,aj]
    rw [db (by omega) (by omega)];rfl
   ·rcases Nat.lt_or_ge j k with h|h
    ·exact hI j h
    ·obtain rfl:j=k:=by omega
     rw [h3];rfl
 ·simp only [E.den,aa,ai,aj] at h2
  obtain rfl:k=6:=by simp at h2;omega
  refine aF ?_
  simp only [E.den,D.bool.injEq]
  symm
  rw [List.all_eq_true]
  intro j hj
  exact hI j (by simpa using hj)
end
section
open Go.RowKit Go
variable [GC]
def iU(l:List Cell)(k:Nat):Bool:=kS (nth l k).key&&eU (nth l k).val&&(k==0||gj (nth l (k-1)).key (nth l k).key)
def fA(l:List Cell):Bool:=decide (l.length<=4)&&iT (iU l) l.length
theorem sub_one{k:Nat}(h:0<k)(hk:k<=9223372036854775807):(cv .sub .i64 (k:Int) 1).toNat=k-1:=by
 rw [jO (by omega) (by omega)];omega
theorem E0(l:List Cell):aD Tryz.prog 91 none [aN l] (.bool (fA l)) []:=by
 refine aD.bK ahd aek rfl ?_ (fun hfit=> ?_)
 ·exact ⟨nX l,trivial⟩
 have hl:l.length<=9223372036854775807:=ow hfit.1
 unfold Q8
 refine aG (fun h=> ?_) (fun h=> ?_)
 ·simp only [E.den,aa,ai,aj] at h
  refine aF ?_
  simp only [E.den,D.bool.injEq]
  unfold fA;grind
 simp only [E.den,aa,ai,aj] at h
 have h4:l.length<=4:=by grind
 refine fp l.length (fun k=>[.int .i64 k]) (fun k=>iT (iU l) k=true) rfl rfl ?_
 intro k hk hI _
 simp only [cA]
 refine aG (fun h2=> ?_) (fun h2=> ?_)
 ·simp only [E.den,aa,ai,aj] at h2
  have h2:k<l.length:=by simp at h2;exact h2
  (refine bh (fun hg=> ?_) ?_;(focus (simp only [bB,gE,E.den,aa,ai,aj] at hg ⊢;(try simp only [D.bool.injEq] at hg);(try simp only [D.bool.injEq]);grind)))
  (refine bu ?_ (E3 (nth l k).key) (trivial) ?_;(focus (simp only [VC.den,E.den,aa,aK,and_true,gu,dH,Int.toNat_natCast];try exact rfl));(simp only [cA]))
  (refine bu ?_ (zQ (nth l k).val) (trivial) ?_;(focus (simp only [VC.den,E.den,aa,aK,and_true,gu,dH,Int.toNat_natCast];try exact rfl));(simp only [cA]))
  refine bh (fun hg=> ?_) ?_
  ·simp [bB,E.den,aS] at hg ⊢
   rw [jO (by omega) (by omega)];omega
  refine aG (fun h3=> ?_) (fun h3=> ?_)
  ·simp only [E.den,aa,ai,aj,gu,dH] at h3
   have hb:iU l k=false:=by
    unfold iU
    by_cases e:0<k
    ·rw [sub_one e (by omega)] at h3;grind
    ·grind
   refine aF ?_
   simp [E.den,fA,uP h2 hb]
  ·simp only [E.den,aa,ai,aj,gu,dH] at h3
   have hb:iU l k=true:=by
    unfold iU
    by_cases e:0<k
    ·rw [sub_one e (by omega)] at h3;grind
    ·grind
   refine eH h2 ?_ (show (iT (iU l) k&&iU l k)=true by rw [hI,hb];rfl)
   simp only [E.den,aa,ai,aj]
   rw [db (by omega) (by omega)];rfl
 ·simp only [E.den,aa,ai,aj] at h2
  obtain rfl:k=l.length:=by simp at h2;omega
  exact aF (by simp [E.den,fA,hI,h4])
theorem E5(l:List Cell):aD Tryz.prog 81 none [aN l] (.bool (fA l)) []:=by
 refine aD.bK ah6 af4 rfl ?_ (fun hfit=> ?_)
 ·exact ⟨nX l,trivial⟩
 have hl:l.length<=9223372036854775807:=ow hfit.1
 unfold Si
 refine fp l.length (fun k=>[.int .i64 k]) (fun k=>iT (iU l) k=true) rfl rfl ?_
 intro k hk hI _
 simp only [cA]
 refine aG (fun h2=> ?_) (fun h2=> ?_)
 ·simp only [E.den,aa,ai,aj] at h2
  have h2:k<l.length:=by simp at h2;exact h2
  (refine bh (fun hg=> ?_) ?_;(focus (simp only [bB,gE,E.den,aa,ai,aj] at hg ⊢;(try simp only [D.bool.injEq] at hg);(try simp only [D.bool.injEq]);grind)))
  (refine bu ?_ (Ko (nth l k).key) (trivial) ?_;(focus (simp only [VC.den,E.den,aa,aK,and_true,gu,dH,Int.toNat_natCast];try exact rfl));(simp only [cA]))
  refine bh (fun hg=> ?_) ?_
  ·simp [bB,E.den,aS] at hg ⊢
   rw [jO (by omega) (by omega)];omega
  refine aG (fun h3=> ?_) (fun h3=> ?_)
  ·simp only [E.den,aa,ai,aj,gu,dH] at h3
   have hb:iU l k=false:=by
    unfold iU eU
    by_cases e:0<k
    ·rw [sub_one e (by omega)] at h3;grind
    ·grind
   refine aF ?_
   simp [E.den,fA,uP h2 hb]
  ·simp only [E.den,aa,ai,aj,gu,dH] at h3
   have hb:iU l k=true:=by
    unfold iU eU
    by_cases e:0<k
    ·rw [sub_one e (by omega)] at h3;grind
    ·grind
   refine eH h2 ?_ (show (iT (iU l) k&&iU l k)=true by rw [hI,hb];rfl)
   simp only [E.den,aa,ai,aj]
   rw [db (by omega) (by omega)];rfl
 ·simp only [E.den,aa,ai,aj] at h2
  obtain rfl:k=l.length:=by simp at h2;omega
  refine aF ?_
  simp only [E.den,aa,ai,aj]
  simp only [fA,hI,Bool.and_true,D.bool.injEq]
  grind
def jc(p:Core):Bool:=kindOk p.kind&&fA p.cells&&(p.cells.length==0||(dO p.kind).testBit 1)&&eU p.count&& !(p.on&&p.broken)&&((dO p.kind).testBit 0||(!p.on&& !p.broken))
theorem US: ∀n:Fin 64,aS .eql (cv .and .i64 ((n.val:Nat):Int) 2) 0= !n.val.testBit 1:=by decide +kernel
theorem UR: ∀n:Fin 64,aS .eql (cv .and .i64 ((n.val:Nat):Int) 1) 1=n.val.testBit 0:=by decide +kernel
theorem Vj(p:Core):aD Tryz.prog 65 none [enc p] (.bool (jc p)) []:=by
 refine aD.bK ahe aem rfl ?_ (fun hfit=> ?_)
 ·exact ⟨jY p,trivial⟩
 have b1:=US ⟨dO p.kind,vV _⟩
 have b0:=UR ⟨dO p.kind,vV _⟩
 simp only [Fb] at b1 b0
 unfold Q9
 (refine bu ?_ (E4 p.kind) (⟨rfl,trivial,trivial⟩) ?_;(focus (simp only [VC.den,E.den,aa,aK,and_true,bN];try exact rfl));(simp only [cA]))
 (refine bu ?_ (E0 p.cells) (trivial) ?_;(focus (simp only [VC.den,E.den,aa,aK,and_true,bN];try exact rfl));(simp only [cA]))
 (refine bu ?_ (zQ p.count) (trivial) ?_;(focus (simp only [VC.den,E.den,aa,aK,and_true,bN];try exact rfl));(simp only [cA]))
 refine aG (fun h=> ?_) (fun h=> ?_)
 ·simp only [E.den,aa,ai,aj,bN,b1] at h
  refine aF ?_
  simp only [E.den,D.bool.injEq]
  unfold jc;grind
 ·simp only [E.den,aa,ai,aj,bN,b1] at h
  refine aF ?_
  simp only [E.den,aa,ai,aj,bN,b0]
  simp only [D.bool.injEq]
  unfold jc;grind
theorem Km(p:Core):aD Tryz.prog 53 none [enc p] (.bool (jc p)) []:=by
 refine aD.bK ah7 af6 rfl ?_ (fun hfit=> ?_)
 ·exact ⟨jY p,trivial⟩
 unfold Sj
 (refine bu ?_ (E6 p.kind) (⟨rfl,trivial,trivial⟩) ?_;(focus (simp only [VC.den,E.den,aa,aK,and_true,bN];try exact rfl));(simp only [cA]))
 (refine bu ?_ (zR (dO p.kind) 0 (vV _) (by omega)) (trivial) ?_;(focus (simp only [VC.den,E.den,aa,aK,and_true];try exact rfl));(simp only [cA]))
 (refine bu ?_ (E5 p.cells) (trivial) ?_;(focus (simp only [VC.den,E.den,aa,aK,and_true,bN];try exact rfl));(simp only [cA]))
 (refine bu ?_ (zR (dO p.kind) 1 (vV _) (by omega)) (trivial) ?_;(focus (simp only [VC.den,E.den,aa,aK,and_true];try exact rfl));(simp only [cA]))
 refine aG (fun h=> ?_) (fun h=> ?_)
 ·simp only [E.den,aa,ai,aj,bN] at h
  refine aF ?_
  simp only [E.den,D.bool.injEq]
  unfold jc eU;grind
 ·simp only [E.den,aa,ai,aj,bN] at h
  refine aF ?_
  simp only [E.den,aa,ai,aj,bN]
  simp only [D.bool.injEq]
  unfold jc eU;grind
theorem Vp(p:Core)(h:p.cells.length<=4294967296):cM Tryz.prog 64 none [enc p] (enc p) [] [(3,2)]:=by
 refine cM.bK ahn aeC acs rfl ?_ (fun hfit=> ?_)
 ·exact ⟨jY p,trivial⟩
 unfold Rl
 refine bh (fun _=> ?_) (aF ?_)
 ·simp [E.den,bN,h]
 ·simp [E.den,bN,enc,aN]
theorem Kp(p:Core)(h:p.cells.length<=4294967296):cM Tryz.prog 52 none [enc p] (enc p) [] [(3,2)]:=by
 refine cM.bK air agF acF rfl ?_ (fun hfit=> ?_)
 ·exact ⟨jY p,trivial⟩
 unfold SE
 refine bh (fun _=> ?_) (aF ?_)
 ·simp [E.den,bN,h]
 ·simp [E.den,bN,enc,aN]
theorem Kg(p:Part)(h:p.core.cells.length<=4294967296)(h':p.af.length<=4294967296):cM Tryz.prog 35 none [enc p] (enc p) [] [(3,2),(5,2)]:=by
 refine cM.bK aho aeE acu rfl ?_ (fun hfit=> ?_)
 ·exact ⟨kX p,trivial⟩
 unfold Rm
 (refine mr ?_ (Vp p.core h) (jY _) ?_;(focus (simp only [VC.den,E.den,aa,aK,and_true,dh];try exact rfl));(simp only [cA]))
 refine bh (fun _=> ?_) (aF ?_)
 ·simp [E.den,dh,h']
 ·simp [E.den,dh,bN,enc,aN]
theorem Kq(p:Part)(h:p.core.cells.length<=4294967296)(h':p.af.length<=4294967296):cM Tryz.prog 26 none [enc p] (enc p) [] [(3,2),(5,2)]:=by
 refine cM.bK aix agR acH rfl ?_ (fun hfit=> ?_)
 ·exact ⟨kX p,trivial⟩
 unfold SK
 (refine mr ?_ (Kp p.core h) (jY _) ?_;(focus (simp only [VC.den,E.den,aa,aK,and_true,dh];try exact rfl));(simp only [cA]))
 refine bh (fun _=> ?_) (aF ?_)
 ·simp [E.den,dh,h']
 ·simp [E.den,dh,bN,enc,aN]
def eC(p:Part)(k:Nat):Nat:=if k=0 then dO p.core.kind else mB (nth p.af (k-1)).name
theorem qV(p:Part)(k:Nat):eC p k<64:=by unfold eC;split;exact vV _;exact Xz _
def fB(p:Part):Nat:=eC p p.af.length
theorem Kh(p:Part)(k:Nat)(hk:k<=p.af.length):aD Tryz.prog 67 none [enc p,.int .i64 k] (.int .i64 (eC p k)) []:=by
 refine aD.bK ahp aeG rfl ?_ (fun hfit=> ?_)
 ·exact ⟨kX p,rfl,trivial⟩
 have hb:(k:Int)<=9223372036854775807:=hfit.2.1.2
 unfold Rn
 refine aG (fun h=> ?_) (fun h=> ?_)
 ·simp only [E.den,aa,ai,aj] at h
  have h:k=0:=by simp at h;exact h
  subst h
  (refine bu ?_ (E4 p.core.kind) (⟨rfl,trivial,trivial⟩) ?_;(focus (simp only [VC.den,E.den,aa,aK,and_true,dh];try exact rfl));(simp only [cA]))
  exact aF rfl
 ·simp only [E.den,aa,ai,aj] at h
  have h:k≠0:=by simpa using h
  have e:=sub_one (k:=k) (by omega) (by omega)
  refine bh (fun _=> ?_) ?_
  ·simp [E.den,dh]
   rw [jO (by omega) (by omega)];omega
  (refine bu ?_ (Ki (nth p.af (k-1)).name) (⟨rfl,rfl,trivial,trivial⟩) ?_;(focus (simp only [VC.den,E.den,aa,aK,and_true,dh,oL,ju,e];try exact rfl));(simp only [cA]))
  exact aF (by simp [E.den,qo,eC,h])
theorem Kr(p:Part)(k:Nat)(hk:k<=p.af.length):aD Tryz.prog 55 none [enc p,.int .i64 k] (.int .i64 (eC p k)) []:=by
 refine aD.bK aiy agT rfl ?_ (fun hfit=> ?_)
 ·exact ⟨kX p,rfl,trivial⟩
 have hb:(k:Int)<=9223372036854775807:=hfit.2.1.2
 unfold SL
 refine aG (fun h=> ?_) (fun h=> ?_)
 ·simp only [E.den,aa,ai,aj] at h
  have h:k=0:=by simp at h;exact h
  subst h
  (refine bu ?_ (E6 p.core.kind) (⟨rfl,trivial,trivial⟩) ?_;(focus (simp only [VC.den,E.den,aa,aK,and_true,dh];try exact rfl));(simp only [cA]))
  exact aF rfl
 ·simp only [E.den,aa,ai,aj] at h
  have h:k≠0:=by simpa using h
  have e:=sub_one (k:=k) (by omega) (by omega)
  refine bh (fun _=> ?_) ?_
  ·simp [E.den,dh]
   rw [jO (by omega) (by omega)];omega
  (refine bu ?_ (Ks (nth p.af (k-1)).name) (⟨rfl,rfl,trivial,trivial⟩) ?_;(focus (simp only [VC.den,E.den,aa,aK,and_true,dh,oL,ju,e];try exact rfl));(simp only [cA]))
  exact aF (by simp [E.den,qo,eC,h])
theorem Vg(p:Part):aD Tryz.prog 38 none [enc p] (.int .i64 (fB p)) []:=by
 refine aD.bK ag9 aed rfl ?_ (fun hfit=> ?_)
 ·exact ⟨kX p,trivial⟩
 unfold Q2
 (refine bu ?_ (Kh p p.af.length (Nat.le_refl _)) (rfl) ?_;(focus (simp only [VC.den,E.den,aa,aK,and_true,dh];try exact rfl));(simp only [cA]))
 exact aF rfl
theorem Kj(p:Part):aD Tryz.prog 30 none [enc p] (.int .i64 (fB p)) []:=by
 refine aD.bK ah2 afX rfl ?_ (fun hfit=> ?_)
 ·exact ⟨kX p,trivial⟩
 unfold Sb
 (refine bu ?_ (Kr p p.af.length (Nat.le_refl _)) (rfl) ?_;(focus (simp only [VC.den,E.den,aa,aK,and_true,dh];try exact rfl));(simp only [cA]))
 exact aF rfl
def counts:ByteArray:=⟨#[99,111,117,110,116,115]⟩
def gH:ByteArray:=⟨#[104,101,97,114,115]⟩
def kR(p:Part)(k:Nat):Bool:=qp (nth p.af k).name&&cK (eC p k) (lW (nth p.af k).name)&&eU (nth p.af k).count&&(decide ((nth p.af k).count=0)||decide ((nth p.af k).name=counts)||decide ((nth p.af k).name=gH))
def eV(p:Part):Bool:=jc p.core&&decide (p.af.length<=3)&&iT (kR p) p.af.length
theorem Vk(p:Part):aD Tryz.prog 36 none [enc p] (.bool (eV p)) []:=by
 refine aD.bK ahh aer rfl ?_ (fun hfit=> ?_)
 ·exact ⟨kX p,trivial⟩
 unfold Rc
 (refine bu ?_ (Vj p.core) (trivial) ?_;(focus (simp only [VC.den,E.den,aa,aK,and_true,dh];try exact rfl));(simp only [cA]))
 refine aG (fun h=> ?_) (fun h=> ?_)
 ·simp only [E.den,aa,ai,aj,dh] at h
  refine aF ?_
  simp only [E.den,D.bool.injEq]
  unfold eV;grind
 simp only [E.den,aa,ai,aj,dh] at h
 have hc:jc p.core=true:=by grind
 have h3:p.af.length<=3:=by grind
 refine fp p.af.length (fun k=>[.int .i64 k]) (fun k=>iT (kR p) k=true) rfl rfl ?_
 intro k hk hI _
 simp only [cA]
 refine aG (fun h2=> ?_) (fun h2=> ?_)
 ·simp only [E.den,aa,ai,aj,dh] at h2
  have h2:k<p.af.length:=by simp at h2;exact h2
  (refine bh (fun hg=> ?_) ?_;(focus (simp only [bB,gE,E.den,aa,ai,aj,dh] at hg ⊢;(try simp only [D.bool.injEq] at hg);(try simp only [D.bool.injEq]);grind)))
  (refine bu ?_ (Ki (nth p.af k).name) (⟨rfl,rfl,trivial,trivial⟩) ?_;(focus (simp only [VC.den,E.den,aa,aK,and_true,dh,oL,ju];try exact rfl));(simp only [cA]))
  (refine bu ?_ (Kh p k hk) (rfl) ?_;(focus (simp only [VC.den,E.den,aa,aK,and_true];try exact rfl));(simp only [cA]))
  (refine bu ?_ (Kf (eC p k) (lW (nth p.af k).name)) (trivial) ?_;(focus (simp only [VC.den,E.den,aa,aK,and_true,qo];try exact rfl));(simp only [cA]))
  (refine bu ?_ (zQ (nth p.af k).count) (trivial) ?_;(focus (simp only [VC.den,E.den,aa,aK,and_true,dh,oL,ju];try exact rfl));(simp only [cA]))
  refine aG (fun h3=> ?_) (fun h3=> ?_)
  ·simp only [E.den,aa,ai,aj,dh,oL,ju,qo] at h3
   have hb:kR p k=false:=by unfold kR counts gH;grind
   refine aF ?_
   simp [E.den,eV,uP h2 hb]
  ·simp only [E.den,aa,ai,aj,dh,oL,ju,qo] at h3
   have hb:kR p k=true:=by unfold kR counts gH;grind
   refine eH h2 ?_ (show (iT (kR p) k&&kR p k)=true by rw [hI,hb];rfl)
   simp only [E.den,aa,ai,aj]
   rw [db (by omega) (by omega)];rfl
 ·simp only [E.den,aa,ai,aj,dh] at h2
  obtain rfl:k=p.af.length:=by simp at h2;omega
  exact aF (by simp [E.den,eV,hI,hc,h3])
theorem VP(p:Part):aD Tryz.prog 27 none [enc p] (.bool (eV p)) []:=by
 refine aD.bK aia agb rfl ?_ (fun hfit=> ?_)
 ·exact ⟨kX p,trivial⟩
 unfold Sn
 (refine bu ?_ (Km p.core) (trivial) ?_;(focus (simp only [VC.den,E.den,aa,aK,and_true,dh];try exact rfl));(simp only [cA]))
 refine aG (fun h=> ?_) (fun h=> ?_)
 ·simp only [E.den,aa,ai,aj,dh] at h
  refine aF ?_
  simp only [E.den,D.bool.injEq]
  unfold eV;grind
 simp only [E.den,aa,ai,aj,dh] at h
 have hc:jc p.core=true:=by grind
 have h3:p.af.length<=3:=by grind
 refine fp p.af.length (fun k=>[.int .i64 k]) (fun k=>iT (kR p) k=true) rfl rfl ?_
 intro k hk hI _
 simp only [cA]
 refine aG (fun h2=> ?_) (fun h2=> ?_)
 ·simp only [E.den,aa,ai,aj,dh] at h2
  have h2:k<p.af.length:=by simp at h2;exact h2
  (refine bh (fun hg=> ?_) ?_;(focus (simp only [bB,gE,E.den,aa,ai,aj,dh] at hg ⊢;(try simp only [D.bool.injEq] at hg);(try simp only [D.bool.injEq]);grind)))
  (refine bu ?_ (VR (nth p.af k).name) (⟨rfl,trivial,trivial⟩) ?_;(focus (simp only [VC.den,E.den,aa,aK,and_true,dh,oL,ju];try exact rfl));(simp only [cA]))
  (refine bu ?_ (Kr p k hk) (rfl) ?_;(focus (simp only [VC.den,E.den,aa,aK,and_true];try exact rfl));(simp only [cA]))
  (refine bu ?_ (E7 (eC p k) (lW (nth p.af k).name)) (trivial) ?_;(focus (simp only [VC.den,E.den,aa,aK,and_true];try exact rfl));(simp only [cA]))
  refine aG (fun h3=> ?_) (fun h3=> ?_)
  ·simp only [E.den,aa,ai,aj,dh,oL,ju] at h3
   have hb:kR p k=false:=by unfold kR counts gH eU;grind
   refine aF ?_
   simp [E.den,eV,uP h2 hb]
  ·simp only [E.den,aa,ai,aj,dh,oL,ju] at h3
   have hb:kR p k=true:=by unfold kR counts gH eU;grind
   refine eH h2 ?_ (show (iT (kR p) k&&kR p k)=true by rw [hI,hb];rfl)
   simp only [E.den,aa,ai,aj]
   rw [db (by omega) (by omega)];rfl
 ·simp only [E.den,aa,ai,aj,dh] at h2
  obtain rfl:k=p.af.length:=by simp at h2;omega
  exact aF (by simp [E.den,eV,hI,hc,h3])
def rep(code val want had:Int):da:=⟨code,val,⟨#[]⟩,want,had⟩
def jP(p:Nat->Bool):Nat->Option Nat
 | 0=>none
 | n+1=>match jP p n with
  | some k=>some k
  | none=>if p n then some n else none
theorem Ad{p:Nat->Bool}: ∀{n:Nat},(∀i,i<n->p i=false)->jP p n=none
 | 0,_=>rfl
 | n+1,h=>by
  have h1:=Ad (n:=n) (fun i hi=>h i (by omega))
  simp [jP,h1,h n (by omega)]
theorem CS{p:Nat->Bool}{k:Nat}(hp:p k=true)(h: ∀i,i<k->p i=false): ∀{n:Nat},k<n->jP p n=some k
 | 0,hk=>by omega
 | n+1,hk=>by
  by_cases e:k=n
  ·subst e;simp [jP,Ad h,hp]
  ·simp [jP,CS hp h (show k<n by omega)]
end
section
open Go.RowKit Go
variable [GC]
def cI:ByteArray:=⟨#[]⟩
theorem CR{p:Nat->Bool}{k:Nat}: ∀{n:Nat},jP p n=some k->k<n/\p k=true/\ ∀i,i<k->p i=false
 | 0,h=>by cases h
 | n+1,h=>by
  simp only [jP] at h
  split at h
  ·rename_i j hj
   cases h
   obtain ⟨h1,h2,h3⟩:=CR hj
   exact ⟨by omega,h2,h3⟩
  ·rename_i hj
   split at h
   ·rename_i hp
    cases h
    refine ⟨by omega,hp,fun i hi=> ?_⟩
    cases hb:p i with
    | false=>rfl
    | true =>
     exfalso
     have: ∀{n:Nat},jP p n=none-> ∀i,i<n->p i=false:=by
      intro n
      induction n with
      | zero=>intro _ i hi;omega
      | succ n ih =>
       intro h i hi
       simp only [jP] at h
       split at h
       ·cases h
       ·rename_i hn
        split at h
        ·cases h
        ·rename_i hp
         by_cases e:i=n
         ·subst e;simpa using hp
         ·exact ih hn i (by omega)
     rw [this hj i hi] at hb;cases hb
   ·cases h
theorem PZ{w':World}{M:Addr->Prop}{b:Nat}(hM: ∀o,¬M ⟨b,o,none⟩): ∀(l:List ByteArray) (k:Nat),(∀i (h:i<l.length),w'.cell? ⟨b,k+i,none⟩=some (.string l[i]))->(∀s,s∈l->s.size<=maxLen)->dr w' M (l.map aZ.cells) b k
 | [],_,_,_=>by simp [dr]
 | s::l,k,h,hs=>by
  simp only [List.map_cons,dr,ja,Rw,R,and_true]
  refine ⟨⟨_,h 0 (by simp),hM _,rfl,hs s (by simp)⟩,PZ hM l (k+1) (fun i hi=> ?_) fun s' h'=>hs s' (by simp [h'])⟩
  have:=h (i+1) (by simp;omega)
  rw [show k+(i+1)=k+1+i by omega] at this
  simpa using this
theorem uL{w':World}{M:Addr->Prop}{cs:Array Value}{T b n:Nat}(l:List ByteArray)(h:w'.heap[b]? =some (.cells cs T))(hcs:cs=(l.map Value.string).toArray)(hn:n=l.length)(hM: ∀o,¬M ⟨b,o,none⟩)(hs: ∀s,s∈l->s.size<=maxLen)(hl:l.length<=maxLen) :
  R w' M (aN l) (.slice (some ⟨b,0,none⟩) n n):=by
 subst hn
 refine ⟨_,_,_,rfl,by simp,Nat.le_refl _,hl,fun h=>by (cases h),?_⟩
 intro b' o s e
 cases e
 refine ⟨fun _=>rfl,PZ hM l 0 (fun i hi=> ?_) hs⟩
 simp [World.cell?,h,hcs,hi]
theorem lP{w:World}{o o':Obj}{b:Nat}(h:w.heap[b]? =some o):(w.alloc o').heap[b]? =some o:=by
 have hb:b<w.heap.size:=by
  rcases Nat.lt_or_ge b w.heap.size with h'|h'
  ·exact h'
  ·rw [Array.getElem?_eq_none h'] at h;cases h
 exact (Below.heap_alloc w o' b hb).trans h
theorem vB{w:World}{o:Obj}{b:Nat}(h:b=w.heap.size):(w.alloc o).heap[b]? =some o:=by
 subst h
 show (w.heap.push o)[w.heap.size]? =_
 simp
end
section
open Go.RowKit Go
variable [GC]
def hasB(l:List ByteArray)(s:ByteArray):Bool:=l.any fun t=>decide (t=s)
theorem Vr(l:List ByteArray)(s:ByteArray):aD Tryz.prog 92 none [aN l,.str s] (.bool (hasB l s)) []:=by
 refine aD.bK ahq aeI rfl ?_ (fun hfit=> ?_)
 ·exact ⟨su l,trivial,trivial⟩
 have hl:l.length<=9223372036854775807:=ow hfit.1
 unfold Ro
 refine fp l.length (fun k=>[.int .i64 k]) (fun k=> ∀i,i<k->nth l i≠s) rfl (by omega) ?_
 intro k hk hI _
 simp only [cA]
 refine aG (fun h2=> ?_) (fun h2=> ?_)
 ·simp only [E.den,aa,ai,aj] at h2
  have h2:k<l.length:=by simp at h2;exact h2
  (refine bh (fun hg=> ?_) ?_;(focus (simp only [bB,gE,E.den,aa,ai,aj] at hg ⊢;(try simp only [D.bool.injEq] at hg);(try simp only [D.bool.injEq]);grind)))
  refine aG (fun h3=> ?_) (fun h3=> ?_)
  ·simp only [E.den,aa,ai,aj,kV,ja] at h3
   have hb:hasB l s=true:=by
    unfold hasB;rw [List.any_eq_true];refine ⟨s,?_,by simp⟩
    have:nth l k=s:=by grind
    rw [<-this,nth,List.getD_eq_getElem?_getD,List.getElem?_eq_getElem h2];simp
   exact aF (by simp [E.den,hb])
  ·simp only [E.den,aa,ai,aj,kV,ja] at h3
   refine eH h2 ?_ fun i hi=> ?_
   ·simp only [E.den,aa,ai,aj]
    rw [db (by omega) (by omega)];rfl
   ·rcases Nat.lt_or_ge i k with h|h
    ·exact hI i h
    ·obtain rfl:i=k:=by omega
     grind
 ·simp only [E.den,aa,ai,aj] at h2
  obtain rfl:k=l.length:=by simp at h2;omega
  have hb:hasB l s=false:=by
   unfold hasB;rw [List.any_eq_false];intro t h
   obtain ⟨i,hi,rfl⟩:=List.getElem_of_mem h
   have:=hI i hi
   simpa [nth,List.getD_eq_getElem?_getD,hi] using this
  exact aF (by simp [E.den,hb])
theorem VW(l:List ByteArray)(s:ByteArray):aD Tryz.prog 84 none [aN l,.str s] (.bool (hasB l s)) []:=by
 refine aD.bK ail agu rfl ?_ (fun hfit=> ?_)
 ·exact ⟨su l,trivial,trivial⟩
 have hl:l.length<=9223372036854775807:=ow hfit.1
 unfold Sx
 refine fp l.length (fun k=>[.int .i64 k]) (fun k=> ∀i,i<k->nth l i≠s) rfl (by omega) ?_
 intro k hk hI _
 simp only [cA]
 refine aG (fun h2=> ?_) (fun h2=> ?_)
 ·simp only [E.den,aa,ai,aj] at h2
  have h2:k<l.length:=by simp at h2;exact h2
  (refine bh (fun hg=> ?_) ?_;(focus (simp only [bB,gE,E.den,aa,ai,aj] at hg ⊢;(try simp only [D.bool.injEq] at hg);(try simp only [D.bool.injEq]);grind)))
  refine aG (fun h3=> ?_) (fun h3=> ?_)
  ·simp only [E.den,aa,ai,aj,kV,ja] at h3
   have hb:hasB l s=true:=by
    unfold hasB;rw [List.any_eq_true];refine ⟨s,?_,by simp⟩
    have:nth l k=s:=by grind
    rw [<-this,nth,List.getD_eq_getElem?_getD,List.getElem?_eq_getElem h2];simp
   exact aF (by simp [E.den,hb])
  ·simp only [E.den,aa,ai,aj,kV,ja] at h3
   refine eH h2 ?_ fun i hi=> ?_
   ·simp only [E.den,aa,ai,aj]
    rw [db (by omega) (by omega)];rfl
   ·rcases Nat.lt_or_ge i k with h|h
    ·exact hI i h
    ·obtain rfl:i=k:=by omega
     grind
 ·simp only [E.den,aa,ai,aj] at h2
  obtain rfl:k=l.length:=by simp at h2;omega
  have hb:hasB l s=false:=by
   unfold hasB;rw [List.any_eq_false];intro t h
   obtain ⟨i,hi,rfl⟩:=List.getElem_of_mem h
   have:=hI i hi
   simpa [nth,List.getD_eq_getElem?_getD,hi] using this
  exact aF (by simp [E.den,hb])
end
section
open Go.RowKit Go
variable [GC]
def mStart:ByteArray:=⟨#[83,116,97,114,116]⟩
def bZ:ByteArray:=⟨#[83,116,111,112]⟩
def gm:ByteArray:=⟨#[71,101,116]⟩
def fj:ByteArray:=⟨#[80,117,116]⟩
def dP:ByteArray:=⟨#[84,101,108,108]⟩
def eT:ByteArray:=⟨#[72,101,97,114]⟩
def jE:ByteArray:=⟨#[76,111,97,100]⟩
def rR:ByteArray:=⟨#[83,97,118,101]⟩
def eS:ByteArray:=⟨#[72,101,97,108]⟩
def methods:Nat->List ByteArray
 | 0=>[mStart,bZ]
 | 1=>[gm,fj]
 | 2=>[dP]
 | 3=>[eT]
 | 4=>[jE,rR]
 | 5=>[eS]
 | _=>[]
theorem abh(k:Nat)(hk:k<6)(v0 v1 v2 v3 v4 v5:Value)(w:World):(Instr.index 126 (.agg #[v0,v1,v2,v3,v4,v5]) (.int .i64 k)).run Tryz.prog w= .ok ([v0,v1,v2,v3,v4,v5].getD k (.bool false)) w:=by
 obtain rfl|rfl|rfl|rfl|rfl|rfl:k=0\/k=1\/k=2\/k=3\/k=4\/k=5:=by omega
 all_goals kernel_rfl
theorem abj: ∀(k:Fin 6),∀s,s∈methods k.val->s.size<=maxLen:=by decide
theorem adV(k:Nat)(hk:k<6)(w:World)(M:Addr->Prop)(hM: ∀p,M p->p.block<w.heap.size) :
  Calls Tryz.prog 93 #[.int .i64 k] w fun e w'=> ∃v,e= .returned v/\R w' M (aN (methods k)) v/\Below w.heap.size w w':=by
 have hi:=abh k hk
 go_enter Tryz.func93,Tryz.ntmps93
 go_wp2
 go_returns
 refine ⟨_,rfl,?_,by go_grown⟩
 have hz:=abj ⟨k,hk⟩
 have hm: ∀n,∀o,¬M ⟨w.heap.size+n,o,none⟩:=fun n o h=>by have:=hM _ h;simp at this;omega
 obtain rfl|rfl|rfl|rfl|rfl|rfl:k=0\/k=1\/k=2\/k=3\/k=4\/k=5:=by omega
 ·exact uL _ (lP (lP (lP (lP (lP (vB (by simp))))))) rfl rfl (hm 0) hz (by decide)
 ·exact uL _ (lP (lP (lP (lP (vB (by simp)))))) rfl rfl (hm 1) hz (by decide)
 ·exact uL _ (lP (lP (lP (vB (by simp))))) rfl rfl (hm 2) hz (by decide)
 ·exact uL _ (lP (lP (vB (by simp)))) rfl rfl (hm 3) hz (by decide)
 ·exact uL _ (lP (vB (by simp))) rfl rfl (hm 4) hz (by decide)
 ·exact uL _ (vB (by simp)) rfl rfl (hm 5) hz (by decide)
theorem Vs(k:Nat)(hk:k<6):aD Tryz.prog 93 none [.int .i64 k] (aN (methods k)) []:=by
 refine aD.abA (by kernel_rfl) fun w M vs hM hr=> ?_
 obtain ⟨v,q,rfl,⟨rfl,_⟩,rfl⟩:=hr
 exact adV k hk w M hM
theorem VZ(k:Nat)(hk:k<6):cM Tryz.prog 85 none [.int .i64 k] (aN (methods k)) [] [(0,1)]:=by
 refine cM.bK aip agB acE rfl ?_ (fun hfit=> ?_)
 ·exact ⟨rfl,trivial⟩
 unfold SB
 obtain rfl|rfl|rfl|rfl|rfl|rfl:k=0\/k=1\/k=2\/k=3\/k=4\/k=5:=by omega
 all_goals
  simp [VC.den,E.den,aS]
  rfl
def xq(s:ByteArray)(k:Nat):Bool:=hasB (methods k) s
def gy(s:ByteArray):Int:=match jP (xq s) 6 with|some k=>k|none=> -1
theorem Kc(s:ByteArray):aD Tryz.prog 69 none [.str s] (.int .i64 (gy s)) []:=by
 refine aD.bK ag7 ad9 rfl ?_ (fun hfit=> ?_)
 ·exact ⟨trivial,trivial⟩
 unfold Q0
 refine fp 6 (fun k=>[.int .i64 k]) (fun k=> ∀i,i<k->xq s i=false) rfl (by omega) ?_
 intro k hk hI _
 simp only [cA]
 refine aG (fun h2=> ?_) (fun h2=> ?_)
 ·simp only [E.den,aa,ai,aj] at h2
  have h2:k<6:=by simp at h2;omega
  (refine bu ?_ (Vs k h2) (su _) ?_;(focus (simp only [VC.den,E.den,aa,aK,and_true];try exact rfl));(simp only [cA]))
  (refine bu ?_ (Vr (methods k) s) (trivial) ?_;(focus (simp only [VC.den,E.den,aa,aK,and_true];try exact rfl));(simp only [cA]))
  refine aG (fun h3=> ?_) (fun h3=> ?_)
  ·simp only [E.den,aa,ai,aj] at h3
   refine aF ?_
   simp [E.den,gy,CS h3 hI h2]
  ·simp only [E.den,aa,ai,aj] at h3
   refine eH h2 ?_ fun i hi=> ?_
   ·simp only [E.den,aa,ai,aj]
    rw [db (by omega) (by omega)];rfl
   ·rcases Nat.lt_or_ge i k with h|h
    ·exact hI i h
    ·obtain rfl:i=k:=by omega
     exact h3
 ·simp only [E.den,aa,ai,aj] at h2
  obtain rfl:k=6:=by simp at h2;omega
  exact aF (by simp [E.den,gy,Ad hI])
theorem VK(s:ByteArray):aD Tryz.prog 59 none [.str s] (.int .i64 (gy s)) []:=by
 refine aD.bK ah0 afS rfl ?_ (fun hfit=> ?_)
 ·exact ⟨trivial,trivial⟩
 unfold R4
 refine fp 6 (fun k=>[.int .i64 k]) (fun k=> ∀i,i<k->xq s i=false) rfl (by omega) ?_
 intro k hk hI _
 simp only [cA]
 refine aG (fun h2=> ?_) (fun h2=> ?_)
 ·simp only [E.den,aa,ai,aj] at h2
  have h2:k<6:=by simp at h2;omega
  (refine mr ?_ (VZ k h2) (su _) ?_;(focus (simp only [VC.den,E.den,aa,aK,and_true];try exact rfl));(simp only [cA]))
  (refine bu ?_ (VW (methods k) s) (trivial) ?_;(focus (simp only [VC.den,E.den,aa,aK,and_true];try exact rfl));(simp only [cA]))
  refine aG (fun h3=> ?_) (fun h3=> ?_)
  ·simp only [E.den,aa,ai,aj] at h3
   refine aF ?_
   simp [E.den,gy,CS h3 hI h2]
  ·simp only [E.den,aa,ai,aj] at h3
   refine eH h2 ?_ fun i hi=> ?_
   ·simp only [E.den,aa,ai,aj]
    rw [db (by omega) (by omega)];rfl
   ·rcases Nat.lt_or_ge i k with h|h
    ·exact hI i h
    ·obtain rfl:i=k:=by omega
     exact h3
 ·simp only [E.den,aa,ai,aj] at h2
  obtain rfl:k=6:=by simp at h2;omega
  exact aF (by simp [E.den,gy,Ad hI])
theorem JN(s:ByteArray):gy s<6:=by
 unfold gy
 cases h:jP (xq s) 6 with
 | none=>simp
 | some k=>have:=(CR h).1;simp;omega
def bI(s:ByteArray):Int:=if gy s<0 then 0 else ((2^(gy s).toNat:Nat):Int)
theorem SY(s:ByteArray):(bI s=0)↔gy s<0:=by
 unfold bI
 split
 ·simp [*]
 ·have:=Nat.two_pow_pos (gy s).toNat
  constructor<;>intro h<;>omega
theorem Ct(s:ByteArray):aD Tryz.prog 31 none [.str s] (.int .i64 (bI s)) []:=by
 refine aD.bK aik ags rfl ?_ (fun hfit=> ?_)
 ·exact ⟨trivial,trivial⟩
 unfold Sw
 (refine bu ?_ (VK s) (rfl) ?_;(focus (simp only [VC.den,E.den,aa,aK,and_true];try exact rfl));(simp only [cA]))
 refine aG (fun h=> ?_) (fun h=> ?_)
 ·simp only [E.den,aa,ai,aj] at h
  have h:gy s<0:=by simpa using h
  exact aF (by simp [E.den,bI,h])
 simp only [E.den,aa,ai,aj] at h
 have h: ¬gy s<0:=by simpa using h
 have h6:=JN s
 refine bh (fun _=> ?_) (aF ?_)
 ·simp [E.den,aS];omega
 ·have e:=JR ⟨(gy s).toNat,by omega⟩
  have e2:(((gy s).toNat:Nat):Int)=gy s:=by omega
  rw [e2] at e
  simp only [E.den,aa,ai,aj,e]
  simp [bI,h]
def ek(c:Call):Bool:= !decide (gy c.method<0)&&(decide (c.text=cI)||decide (c.method=jE)) &&
 ((decide (c.method=gm)||decide (c.method=fj))&&kS c.key|| !(decide (c.method=gm)||decide (c.method=fj))&&decide (c.key=cI)) &&
 (decide (c.val=0)||(decide (c.method=fj)||decide (c.method=eT))&&decide (0<c.val)&&decide (c.val<=999))
theorem Hu:gm≠fj/\gm≠eT/\fj≠eT:=by decide
theorem Kl(c:Call):aD Tryz.prog 28 none [enc c] (.bool (ek c)) []:=by
 refine aD.bK ah5 af2 rfl ?_ (fun hfit=> ?_)
 ·exact ⟨sn c,trivial⟩
 unfold Sh
 (refine bu ?_ (Ct c.method) (rfl) ?_;(focus (simp only [VC.den,E.den,aa,aK,and_true,bY];try exact rfl));(simp only [cA]))
 (refine bu ?_ (Ko c.key) (trivial) ?_;(focus (simp only [VC.den,E.den,aa,aK,and_true,bY];try exact rfl));(simp only [cA]))
 refine aG (fun h=> ?_) (fun h=> ?_)
 ·simp only [E.den,aa,ai,aj,bY] at h
  have:=SY c.method
  have:=Hu
  refine aF ?_
  simp only [E.den,D.bool.injEq]
  unfold ek gm fj eT jE cI at *;grind
 simp only [E.den,aa,ai,aj,bY] at h
 have:=SY c.method
 have:=Hu
 refine aF ?_
 simp only [E.den,aa,ai,aj,bY]
 simp only [D.bool.injEq]
 unfold ek gm fj eT jE cI at *;grind
theorem Vi(c:Call):aD Tryz.prog 37 none [enc c] (.bool (ek c)) []:=by
 refine aD.bK ahc aei rfl ?_ (fun hfit=> ?_)
 ·exact ⟨sn c,trivial⟩
 have hn:=Hu
 unfold Q5
 (refine bu ?_ (Kc c.method) (rfl) ?_;(focus (simp only [VC.den,E.den,aa,aK,and_true,bY];try exact rfl));(simp only [cA]))
 refine aG (fun h=> ?_) (fun h=> ?_)
 ·simp only [E.den,aa,ai,aj,bY] at h
  refine aF ?_
  simp only [E.den,D.bool.injEq]
  unfold ek gm fj eT jE cI at *;grind
 simp only [E.den,aa,ai,aj,bY] at h
 refine aG (fun h1=> ?_) (fun h1=> ?_)
 ·simp only [E.den,aa,ai,aj,bY] at h1
  (refine bu ?_ (E3 c.key) (trivial) ?_;(focus (simp only [VC.den,E.den,aa,aK,and_true,bY];try exact rfl));(simp only [cA]))
  refine aF ?_
  simp only [E.den,aa,ai,aj,bY]
  simp only [D.bool.injEq]
  unfold ek gm fj eT jE cI at *;grind
 simp only [E.den,aa,ai,aj,bY] at h1
 refine aG (fun h2=> ?_) (fun h2=> ?_)
 ·simp only [E.den,aa,ai,aj,bY] at h2
  (refine bu ?_ (E3 c.key) (trivial) ?_;(focus (simp only [VC.den,E.den,aa,aK,and_true,bY];try exact rfl));(simp only [cA]))
  (refine bu ?_ (zQ c.val) (trivial) ?_;(focus (simp only [VC.den,E.den,aa,aK,and_true,bY];try exact rfl));(simp only [cA]))
  refine aF ?_
  simp only [E.den,aa,ai,aj,bY]
  simp only [D.bool.injEq]
  unfold ek gm fj eT jE cI eU at *;grind
 simp only [E.den,aa,ai,aj,bY] at h2
 refine aG (fun h3=> ?_) (fun h3=> ?_)
 ·simp only [E.den,aa,ai,aj,bY] at h3
  (refine bu ?_ (zQ c.val) (trivial) ?_;(focus (simp only [VC.den,E.den,aa,aK,and_true,bY];try exact rfl));(simp only [cA]))
  refine aF ?_
  simp only [E.den,aa,ai,aj,bY]
  simp only [D.bool.injEq]
  unfold ek gm fj eT jE cI eU at *;grind
 simp only [E.den,aa,ai,aj,bY] at h3
 refine aF ?_
 simp only [E.den,aa,ai,aj,bY]
 simp only [D.bool.injEq]
 unfold ek gm fj eT jE cI at *;grind
end
section
def eB(n:Nat):List UInt8 :=
 if n<10 then [UInt8.ofNat (48+n)] else if n<100 then [UInt8.ofNat (48+n/10),UInt8.ofNat (48+n%10)] else [UInt8.ofNat (48+n/100),UInt8.ofNat (48+n/10%10),UInt8.ofNat (48+n%10)]
theorem Fh{n:Nat}(h:n<1000):Lib.decDigits n=eB n:=by
 unfold eB
 by_cases h1:n<10
 ·rw [if_pos h1,Lib.decDigits,dif_pos h1]
 ·rw [if_neg h1,Lib.decDigits,dif_neg h1]
  by_cases h2:n<100
  ·rw [if_pos h2,Lib.decDigits,dif_pos (by omega)];rfl
  ·rw [if_neg h2,Lib.decDigits,dif_neg (by omega),Lib.decDigits,dif_pos (by omega),show n/10/10=n/100 by omega];rfl
def G6(b:UInt8):Bool:=decide (48<=b.toNat/\b.toNat<=57)
def nU(l:List UInt8):Int:=(l.take 4).foldl (fun n c=>10*n+(c.toNat:Int)-48) 0
theorem zZ: ∀n∈List.range 1000,(Lib.atoi (eB n)=some (n:Int)/\nU (eB n)=(n:Int)/\0<(eB n).length/\(eB n).length<=3)/\(eB n).all G6=true:=by decide +kernel
theorem Fl{n:Nat}(h:n<1000):Lib.atoi (eB n)=some (n:Int):=(zZ n (List.mem_range.2 h)).1.1
theorem WN{n:Nat}(h:n<1000):nU (eB n)=(n:Int):=(zZ n (List.mem_range.2 h)).1.2.1
theorem KH{n:Nat}(h:n<1000):0<(eB n).length:=(zZ n (List.mem_range.2 h)).1.2.2.1
theorem xC{n:Nat}(h:n<1000):(eB n).length<=3:=(zZ n (List.mem_range.2 h)).1.2.2.2
theorem WK{n:Nat}(h:n<1000):(eB n).all G6=true:=(zZ n (List.mem_range.2 h)).2
theorem WM{n m:Nat}(hn:n<1000)(hm:m<1000)(h:eB n=eB m):n=m:=by
 have h1:=Fl hn
 have h2:=Fl hm
 rw [h,h2] at h1
 simp at h1;omega
def gS(l:List UInt8):Option Nat:=(List.range 1000).find? fun n=>decide (eB n=l)
theorem rT{l:List UInt8}{n:Nat}:gS l=some n↔n<1000/\eB n=l:=by
 unfold gS
 constructor
 ·intro h
  exact ⟨List.mem_range.1 (List.mem_of_find?_eq_some h),by simpa using List.find?_some h⟩
 ·rintro ⟨h1,h2⟩
  cases hf:(List.range 1000).find? fun n=>decide (eB n=l) with
  | none=>have:=List.find?_eq_none.1 hf n (List.mem_range.2 h1);simp [h2] at this
  | some m =>
   have hm:=List.mem_range.1 (List.mem_of_find?_eq_some hf)
   have he:eB m=l:=by simpa using List.find?_some hf
   rw [WM hm h1 (he.trans h2.symm)]
theorem aby{n:Nat}(h:n<1000):gS (eB n)=some n:=rT.2 ⟨h,rfl⟩
theorem Ph{c:UInt8}{t l:List UInt8}(h:l.head?≠some c):(c::t).isPrefixOf l=false:=by
 cases l with
 | nil=>rfl
 | cons b r =>
  have:c≠b:=fun e=>h (by simp [e])
  simp [List.isPrefixOf,this]
theorem index_none'{c:UInt8}{t:List UInt8}: ∀{x:List UInt8},c∉x->Lib.index x (c::t)= -1
 | [],_=>rfl
 | b::x,h=>by
  unfold Lib.index
  rw [Ph (by intro e;simp at e;exact h (by simp [e])),index_none' (x:=x) (fun e=>h (by simp [e]))]
  rfl
theorem G5{c:UInt8}{t rest:List UInt8}: ∀{x:List UInt8},c∉x->Lib.index (x++((c::t)++rest)) (c::t)=x.length
 | [],_=>by
  simp only [List.nil_append,List.cons_append,List.length_nil]
  unfold Lib.index
  have:(c::t).isPrefixOf (c::(t++rest))=true:=by
   rw [List.isPrefixOf_iff_prefix]
   exact ⟨rest,rfl⟩
  rw [this];rfl
 | b::x,h=>by
  have hx:c∉x:=fun e=>h (by simp [e])
  have ih:=G5 (t:=t) (rest:=rest) hx
  rw [List.cons_append]
  unfold Lib.index
  rw [Ph (by intro e;simp at e;exact h (by simp [e])),ih]
  simp
theorem Ec{s sep:List UInt8}(h:Lib.index s sep= -1):Lib.split s sep=[s]:=by
 unfold Lib.split
 rw [Lib.count_miss h];rfl
theorem IQ{s sep:List UInt8}{i:Nat}(AV:sep≠[])(h:Lib.index s sep=i):Lib.split s sep=s.take i::Lib.split (s.drop (i+sep.length)) sep:=by
 unfold Lib.split
 rw [Lib.count_hit AV h,Nat.add_comm 1,Lib.splitK]
 rw [if_neg (by rw [h];simp),h]
 simp
theorem G9{sep:List UInt8}(AV:sep≠[]): ∀(n:Nat) (s:List UInt8),s.length<=n->Lib.join (Lib.split s sep) sep=s/\Lib.split s sep≠[]
 | n,s,hn=>by
  rcases Lib.index_spec s sep with ⟨h,_⟩|⟨i,h,h1,h2,_⟩
  ·rw [Ec h];exact ⟨Lib.join_one _ _,by simp⟩
  ·rw [IQ AV h]
   have hroom:=Lib.index_room s sep (by rw [h];omega)
   have hpos:0<sep.length:=List.length_pos_iff.2 AV
   rw [h] at hroom
   have hlt:(s.drop (i+sep.length)).length<s.length:=by simp;omega
   cases n with
   | zero=>omega
   | succ n =>
    obtain ⟨q1,q2⟩:=G9 AV n (s.drop (i+sep.length)) (by omega)
    refine ⟨?_,by simp⟩
    cases hsp:Lib.split (s.drop (i+sep.length)) sep with
    | nil=>exact absurd hsp q2
    | cons y r =>
     rw [hsp] at q1
     have e:Lib.join (s.take i::y::r) sep=s.take i++(sep++Lib.join (y::r) sep):=by
      rw [Lib.join_cons,Lib.join_cons]
      simp [Lib.joinTail]
     rw [e,q1]
     have Nd:=Lib.occAt_iff_take s sep i (by omega)
     rw [h2] at Nd
     have hs:(s.drop i).take sep.length=sep:=by simpa using Nd.symm
     have e2:s.drop (i+sep.length)=(s.drop i).drop sep.length:=by rw [List.drop_drop]
     rw [e2]
     conv=>lhs;rw [show sep++(s.drop i).drop sep.length=(s.drop i).take sep.length++(s.drop i).drop sep.length by rw [hs]]
     rw [List.take_append_drop,List.take_append_drop]
theorem Ww{c:UInt8}{t rest x:List UInt8}(h:c∉x):Lib.cut (x++((c::t)++rest)) (c::t)=(x,rest,true):=by
 unfold Lib.cut
 rw [G5 h,if_pos (by omega)]
 simp
theorem Wy{c:UInt8}{t x:List UInt8}(h:c∉x):Lib.cut x (c::t)=(x,[],false):=by
 unfold Lib.cut
 rw [index_none' h];rfl
end
end Go.Proofs.YtimickglpboilaaGreatDoor
