/- Contracts: texts cut and divided into pieces. -/
import Derived.Test.YtimickglpboilaaGreatDoorF12
import Derived.Test.YtimickglpboilaaGreatDoorF11
import Derived.WalkKit
import Derived.BigQuiet
import Derived.Handy
set_option linter.unusedVariables false
set_option linter.unusedSimpArgs false
set_option maxRecDepth 100000
set_option linter.unusedSectionVars false
namespace Go.Proofs.YtimickglpboilaaGreatDoor
section
open Go.RowKit Go
variable [GC]
theorem Wg(s sep:List UInt8):(Lib.cut s sep).1.length<=s.length/\(Lib.cut s sep).2.1.length<=s.length:=by
 unfold Lib.cut
 split
 ·simp;omega
 ·simp
def zT(s:ByteArray)(sep:List UInt8):D:= .aE [.str (bs (Lib.cut s.data.toList sep).1),.str (bs (Lib.cut s.data.toList sep).2.1),.bool (Lib.cut s.data.toList sep).2.2]
theorem UQ[nN](s:ByteArray)(sep:List UInt8)(hs:s.size<4294967281):aG Tryz.prog 105 none [.str s,.str (bs sep)] (zT s sep) []:=by
 refine aG.vU (by kernel_rfl) fun w M vs hG hr=> ?_
 obtain ⟨v,q,rfl,⟨rfl,_⟩,v2,q2,rfl,⟨rfl,_⟩,rfl⟩:=hr
 obtain ⟨cs,⟨m,hcs⟩,hc⟩:=(nN.h w hG.2.1).cell
 have hm:=hc 0
 rw [hcs] at hm
 have h:=Wg s.data.toList sep
 rw [size_data] at h
 refine (Tryz.strings_Cut s (bs sep) m w hs hm).mono ?_
 rintro e w' ⟨rfl,k,rfl⟩
 rw [Ff]
 refine ⟨_,rfl,⟨_,rfl,_,_,rfl,⟨rfl,?_⟩,_,_,rfl,⟨rfl,?_⟩,_,_,rfl,rfl,rfl⟩,⟨rfl,rfl,rfl,Nat.le_refl _,fun _ _=>rfl⟩⟩
 ·rw [mV];unfold maxLen;omega
 ·rw [mV];unfold maxLen;omega
def pieces(s sep:ByteArray):List ByteArray:=(Lib.split s.data.toList sep.data.toList).map bs
theorem aaQ(l:List ByteArray):(l.map (·.data.toList)).map bs=l:=by
 rw [List.map_map]
 conv=>rhs;rw [<-List.map_id l]
 exact List.map_congr_left fun x _=>Cq x
theorem Oy{x:List UInt8}: ∀{l:List (List UInt8)},x∈l->x.length<=Lib.lens l
 | y::r,h=>by
  have e:Lib.lens (y::r)=y.length+Lib.lens r:=by simp [Lib.lens]
  rw [e]
  rcases List.mem_cons.1 h with rfl|h
  ·omega
  ·have:=Oy h
   omega
theorem ac7{s sep:List UInt8}(h:sep≠[]):(Lib.split s sep).length<=s.length+1/\ ∀x∈Lib.split s sep,x.length<=s.length:=by
 obtain ⟨h1,h2⟩:=Hl h s.length s (Nat.le_refl _)
 have hpos:0<sep.length:=List.length_pos_iff.2 h
 cases hl:Lib.split s sep with
 | nil=>exact absurd hl h2
 | cons y r =>
  rw [hl,Lib.join_cons] at h1
  have e:=congrArg List.length h1
  rw [List.length_append,Lib.joinTail_length] at e
  have:r.length<=sep.length*r.length:=Nat.le_mul_of_pos_left _ hpos
  refine ⟨by simp;omega,fun x hx=> ?_⟩
  rcases List.mem_cons.1 hx with rfl|hx
  ·omega
  ·have:=Oy hx
   omega
theorem D9{s sep:ByteArray}(h:1<=sep.size):(pieces s sep).length<=s.size+1/\ ∀x∈pieces s sep,x.size<=s.size:=by
 have hne:sep.data.toList≠[]:=fun e=>by
  have:sep.size=0:=by rw [<-size_data,e];rfl
  omega
 obtain ⟨h1,h2⟩:=ac7 (s:=s.data.toList) hne
 rw [size_data] at h1
 refine ⟨by unfold pieces;rw [List.length_map];exact h1,fun x hx=> ?_⟩
 obtain ⟨y,hy,rfl⟩:=List.mem_map.1 hx
 have:=h2 y hy
 rw [size_data] at this
 rw [mV];exact this
theorem Pa{s sep:ByteArray}(h:1<=sep.size){k:Nat}(hk:k<(pieces s sep).length):(nth (pieces s sep) k).size<=s.size:=(D9 h).2 _ (yY hk)
theorem pieces_eq(s sep:ByteArray):Lib.splitB sep 0 (Lib.countB s sep) s=pieces s sep:=by
 unfold pieces
 rw [<-aaQ (Lib.splitB sep 0 (Lib.countB s sep) s),Lib.splitB_data]
 rfl
theorem UN[nN](s sep:ByteArray)(hs:s.size<4294967281)(h1:1<=sep.size):dw Tryz.prog 104 none [.str s,.str sep] (bg (pieces s sep)) [] [(0,1)]:=by
 refine ⟨by kernel_rfl,fun w M g vs hG hr _=> ?_⟩
 obtain ⟨v,q,rfl,⟨rfl,_⟩,v2,q2,rfl,⟨rfl,_⟩,rfl⟩:=hr
 obtain ⟨cs,⟨m,hcs⟩,hc⟩:=(nN.h w hG.2.1).cell
 have hm:=hc 0
 rw [hcs] at hm
 obtain ⟨z1,z2⟩:=D9 (s:=s) h1
 have hlen:Lib.countB s sep+1=(pieces s sep).length:=by rw [<-pieces_eq,Lib.splitB_all sep h1 0 _ s rfl]
 refine (Tryz.strings_Split s sep m w hs hm h1).mono ?_
 rintro e w' ⟨rfl,rfl⟩
 rw [pieces_eq,hlen]
 have GP: ∀p,¬iM (.slice (some ⟨w.heap.size,0,none⟩) (pieces s sep).length (pieces s sep).length) [(0,1)] p:=by
  rintro p ⟨x,hx,hsp⟩
  simp at hx
  subst hx
  obtain ⟨b,o,s',len,cap,e,q1,q2,q3⟩:=hsp
  have e:Value.slice (some ⟨w.heap.size,0,none⟩) (pieces s sep).length (pieces s sep).length= .slice (some ⟨b,o,s'⟩) len cap:=e
  cases e
  omega
 have hnew:(w.alloc (.cells ((pieces s sep).map Value.string).toArray 9)).heap[w.heap.size]? =some (.cells ((pieces s sep).map Value.string).toArray 9 (0,0)):=vm (by simp)
 refine ⟨_,rfl,uE (pieces s sep) hnew rfl rfl (fun o h=> ?_) (fun x hx=> ?_) ?_,Fr.oY ((Below.refl _ _).alloc (Nat.le_refl _) _) (Nat.le_refl _),⟨fun x hx=> ?_,fun i j x y hi hj hij=> ?_⟩,fun h=>by cases h⟩
 ·rcases h with h|h
  ·have:=hG.1 _ h
   simp at this
  ·exact GP _ h
 ·have:=z2 x hx
  unfold maxLen;omega
 ·unfold maxLen;omega
 ·simp at hx
  subst hx
  intro b o s' len cap e hc
  have e:Value.slice (some ⟨w.heap.size,0,none⟩) (pieces s sep).length (pieces s sep).length= .slice (some ⟨b,o,s'⟩) len cap:=e
  cases e
  exact ⟨rfl,Nat.le_refl _,_,_,hnew,by simp⟩
 ·have h1:=(List.getElem?_eq_some_iff.1 hi).1
  have h2:=(List.getElem?_eq_some_iff.1 hj).1
  simp at h1 h2
  omega
end
section
open Go.RowKit Go
variable [GC]
def pH:ByteArray:=⟨#[61]⟩
def wK:ByteArray:=⟨#[45]⟩
def dD:ByteArray:=⟨#[44]⟩
theorem wL:(⟨#[61]⟩:ByteArray)=pH:=rfl
theorem Ev:(⟨#[45]⟩:ByteArray)=wK:=rfl
theorem Eu:(⟨#[44]⟩:ByteArray)=dD:=rfl
theorem BK:pH.size=1:=rfl
theorem adj:dD.size=1:=rfl
def mq(c:Cell):ByteArray:=c.key++pH++bs (eO c.val.toNat)
def fmtC(l:List Cell):ByteArray:=if fE l=true then (if l.length=0 then wK else js (l.map mq) dD) else cS
theorem zR{l:List Cell}(h:fE l=true){k:Nat}(hk:k<l.length):kY (nth l k).key=true/\fg (nth l k).val=true:=by
 unfold fE at h
 simp only [Bool.and_eq_true] at h
 have:=uJ.1 h.2 k hk
 unfold iY at this
 simp only [Bool.and_eq_true] at this
 exact this.1
theorem oM{l:List Cell}(h:fE l=true):l.length<=4:=by
 unfold fE at h
 simp only [Bool.and_eq_true,decide_eq_true_eq] at h
 exact h.1
theorem Ic{n:Int}(h:fg n=true): ∃m:Nat,n=m/\m<1000:=by
 unfold fg at h
 simp only [Bool.and_eq_true,decide_eq_true_eq] at h
 exact ⟨n.toNat,by omega,by omega⟩
theorem V2{c:Cell}(h1:kY c.key=true)(h2:fg c.val=true):(mq c).size<=12:=by
 obtain ⟨m,e,hm⟩:=Ic h2
 have:=Ia h1
 have hl:=xA hm
 unfold mq
 rw [e,Int.toNat_natCast]
 simp only [ByteArray.size_append,BK,mV]
 omega
theorem Ft{l:List Cell}(h:fE l=true):(js (l.map mq) dD).size<=52:=by
 have h1:=oM h
 refine Nat.le_trans (ZL (n:=12) fun k hk=> ?_) ?_
 ·have hk:k<l.length:=by simpa using hk
  have:nth (l.map mq) k=mq (nth l k):=by simp [nth,hk]
  rw [this]
  exact V2 (zR h hk).1 (zR h hk).2
 ·rw [List.length_map,adj];omega
theorem W8(l:List Cell):(fmtC l).size<=52:=by
 unfold fmtC
 split
 ·rename_i h
  split
  ·decide
  ·exact Ft h
 ·decide
theorem UZ[mi](l:List Cell):aG Tryz.prog 95 none [bg l] (.str (fmtC l)) []:=by
 refine aG.bV agf adD rfl ?_ (fun hfit=> ?_)
 ·exact ⟨nK l,trivial⟩
 unfold QW
 (refine bD ?_ (Fh l) (trivial) ?_;(focus (simp only [VC.den,E.den,aa,aP,and_true];try exact rfl));(simp only [cA]))
 refine aL (fun h=>aK ?_) (fun h=> ?_)
 ·simp only [E.den,aa,aj,ak] at h ⊢
  rw [fmtC,if_neg (by grind)];rfl
 simp only [E.den,aa,aj,ak] at h
 have h:fE l=true:=by grind
 have h4:=oM h
 have hj:=Ft h
 have jM:(l.map mq).length<=140737488355328:=by rw [List.length_map];omega
 refine aL (fun h0=>aK ?_) (fun h0=> ?_)
 ·simp only [E.den,aa,aj,ak] at h0 ⊢
  rw [fmtC,if_pos h,if_pos (by grind)];rfl
 simp only [E.den,aa,aj,ak] at h0
 have h0:l.length≠0:=by grind
 refine gJ l.length (fun k=>[bg ((l.take k).map mq),.int .i64 k]) (fun _=>True) rfl trivial ?_
 intro k hk hI _
 simp only [cA]
 refine aL (fun g2=> ?_) (fun g2=> ?_)
 ·simp only [E.den,aa,aj,ak] at g2
  have g2:k<l.length:=by simp at g2;exact g2
  obtain ⟨q1,q2⟩:=zR h g2
  obtain ⟨m,e,hm⟩:=Ic q2
  have q3:=Ia q1
  have hl:=xA hm
  (refine bH (fun hg=> ?_) ?_;(focus (simp only [bE,gE,E.den,aa,aj,ak] at hg ⊢;(try simp only [D.bool.injEq] at hg);(try simp only [D.bool.injEq]);grind)))
  (try (refine bH (fun _=> ?_) ?_;(focus (simp only [E.den,aa,aj,ak,gC,dR,wL];refine CL ?_;simp only [ByteArray.size_append,BK];unfold maxLen;omega))))
  (refine bD ?_ (Kd hm) (trivial) ?_;(focus (simp only [VC.den,E.den,aa,aP,and_true,gC,dR,Int.toNat_natCast,e];try exact rfl));(simp only [cA]))
  (try (refine bH (fun _=> ?_) ?_;(focus (simp only [E.den,aa,aj,ak,gC,dR,wL];refine CL ?_;simp only [ByteArray.size_append,BK,mV];unfold maxLen;omega))))
  refine bH (fun _=> ?_) ?_
  ·simp only [E.den,aa,aj,ak];simp [maxLen];omega
  refine fT g2 ?_ trivial
  simp only [E.den,aa,aj,ak,gC,dR,wL]
  rw [eM (by omega) (by omega),D2 _ g2]
  simp [bg,jg,mq,e]
 ·simp only [E.den,aa,aj,ak] at g2
  obtain rfl:k=l.length:=by simp at g2;omega
  (refine bD ?_ (U5 (l.map mq) dD jM (by omega)) (trivial) ?_;(focus (simp only [VC.den,E.den,aa,aP,and_true,Eu,List.take_length];try exact rfl));(simp only [cA]))
  refine aK ?_
  simp only [E.den,aa,aj,ak]
  rw [fmtC,if_pos h,if_neg h0]
theorem Vu(l:List Cell):aG Tryz.prog 99 none [bg l] (.str (fmtC l)) []:=by
 refine aG.bV ag7 afa rfl ?_ (fun hfit=> ?_)
 ·exact ⟨nK l,trivial⟩
 unfold RU
 (refine bD ?_ (Fm l) (trivial) ?_;(focus (simp only [VC.den,E.den,aa,aP,and_true];try exact rfl));(simp only [cA]))
 refine aL (fun h=>aK ?_) (fun h=> ?_)
 ·simp only [E.den,aa,aj,ak] at h ⊢
  rw [fmtC,if_neg (by grind)];rfl
 simp only [E.den,aa,aj,ak] at h
 have h:fE l=true:=by grind
 have h4:=oM h
 have hj:=Ft h
 have jM:(l.map mq).length<=140737488355328:=by rw [List.length_map];omega
 refine gJ l.length (fun k=>[bg ((l.take k).map mq),.int .i64 k]) (fun _=>True) rfl trivial ?_
 intro k hk hI _
 simp only [cA]
 refine aL (fun g2=> ?_) (fun g2=> ?_)
 ·simp only [E.den,aa,aj,ak] at g2
  have g2:k<l.length:=by simp at g2;exact g2
  obtain ⟨q1,q2⟩:=zR h g2
  obtain ⟨m,e,hm⟩:=Ic q2
  have q3:=Ia q1
  have hl:=xA hm
  (refine bH (fun hg=> ?_) ?_;(focus (simp only [bE,gE,E.den,aa,aj,ak] at hg ⊢;(try simp only [D.bool.injEq] at hg);(try simp only [D.bool.injEq]);grind)))
  (try (refine bH (fun _=> ?_) ?_;(focus (simp only [E.den,aa,aj,ak,gC,dR,wL];refine CL ?_;simp only [ByteArray.size_append,BK];unfold maxLen;omega))))
  (refine bD ?_ (Kj hm) (trivial) ?_;(focus (simp only [VC.den,E.den,aa,aP,and_true,gC,dR,Int.toNat_natCast,e];try exact rfl));(simp only [cA]))
  (try (refine bH (fun _=> ?_) ?_;(focus (simp only [E.den,aa,aj,ak,gC,dR,wL];refine CL ?_;simp only [ByteArray.size_append,BK,mV];unfold maxLen;omega))))
  refine bH (fun _=> ?_) ?_
  ·simp only [E.den,aa,aj,ak];simp [maxLen];omega
  refine fT g2 ?_ trivial
  simp only [E.den,aa,aj,ak,gC,dR,wL]
  rw [eM (by omega) (by omega),D2 _ g2]
  simp [bg,jg,mq,e]
 ·simp only [E.den,aa,aj,ak] at g2
  obtain rfl:k=l.length:=by simp at g2;omega
  refine aL (fun g3=>aK ?_) (fun g3=> ?_)
  ·simp only [E.den,aa,aj,ak] at g3 ⊢
   have g3:l.length=0:=by simpa using g3
   rw [fmtC,if_pos h,if_pos g3];rfl
  ·simp only [E.den,aa,aj,ak] at g3
   have g3:l.length≠0:=by simpa using g3
   (refine bD ?_ (Vw (l.map mq) dD jM (by omega)) (trivial) ?_;(focus (simp only [VC.den,E.den,aa,aP,and_true,Eu,List.take_length];try exact rfl));(simp only [cA]))
   refine aK ?_
   simp only [E.den,aa,aj,ak]
   rw [fmtC,if_pos h,if_neg g3]
def Io(x:ByteArray):ByteArray:=bs (Lib.cut x.data.toList [61]).1
def ql(x:ByteArray):ByteArray:=bs (Lib.cut x.data.toList [61]).2.1
def Bv(x:ByteArray):Cell:=⟨Io x,vT (ql x)⟩
def nI(x:ByteArray):Bool:=(Lib.cut x.data.toList [61]).2.2&&qi (ql x)
def mH(s:ByteArray):List Cell:=(pieces s dD).map Bv
def oy(s:ByteArray):Bool:=(pieces s dD).all nI&&decide ((pieces s dD).length<=4)&&fE (mH s)
def eT(s:ByteArray):List Cell×Bool:=if s=wK then ([],true) else if oy s=true then (mH s,true) else ([],false)
theorem abp{s:ByteArray}(h:(eT s).2=true):fE (eT s).1=true:=by
 unfold eT at h ⊢
 split
 ·decide
 ·rename_i h1
  rw [if_neg h1] at h
  split
  ·rename_i h2
   unfold oy at h2
   simp only [Bool.and_eq_true] at h2
   exact h2.2
  ·rename_i h2
   rw [if_neg h2] at h;cases h
theorem Vb(n:Int):aG Tryz.prog 74 none [.int .i64 n] (.int .i64 (min (IntKind.i64.wrap (n+1)) 999)) []:=by
 refine aG.vU (by kernel_rfl) fun w M vs hG hr=> ?_
 obtain ⟨v,q,rfl,⟨rfl,h1,h2⟩,rfl⟩:=hr
 show Calls Tryz.prog 74 #[.int .i64 n] w _
 go_enter Tryz.func74,Tryz.ntmps74
 go_wp2
 go_ret
 have hw: -9223372036854775808<=wrap64 (n+1)/\wrap64 (n+1)<=9223372036854775807:=by unfold wrap64;omega
 refine ⟨.int .i64 (min (wrap64 (n+1)) 999),rfl,⟨by rw [<-IntWalk.i64_left],?_,?_⟩,by go_grown⟩
 ·rw [IntKind.wrap_i64];simp only [IntKind.min,IntKind.bits,IntKind.signed];simp;omega
 ·rw [IntKind.wrap_i64];simp only [IntKind.max,IntKind.bits,IntKind.signed];simp;omega
theorem U8(s:ByteArray):aG Tryz.prog 39 none [.str s] (.int .i64 (bK s)) []:=by
 refine aG.bV agu adY rfl ?_ (fun hfit=> ?_)
 ·exact ⟨trivial,trivial⟩
 unfold Ra
 (refine bD ?_ (Kb s) (rfl) ?_;(focus (simp only [VC.den,E.den,aa,aP,and_true];try exact rfl));(simp only [cA]))
 refine aL (fun h=> ?_) (fun h=> ?_)
 ·simp only [E.den,aa,aj,ak] at h
  have h:gD s<0:=by simpa using h
  exact aK (by simp [E.den,bK,h])
 simp only [E.den,aa,aj,ak] at h
 have h: ¬gD s<0:=by simpa using h
 have h6:=JL s
 refine bH (fun _=> ?_) (aK ?_)
 ·simp [E.den,bb];omega
 ·have e:=JP ⟨(gD s).toNat,by omega⟩
  have e2:(((gD s).toNat:Nat):Int)=gD s:=by omega
  rw [e2] at e
  simp only [E.den,aa,aj,ak,e]
  simp [bK,h]
theorem U6[nN][mi][pN](s:ByteArray)(hs:s.size<4294967281):dw Tryz.prog 96 none [.str s] (.aE [bg (eT s).1,.bool (eT s).2]) [] [(0,2)]:=by
 refine dw.bV agt adW abX rfl ?_ (fun hfit=> ?_)
 ·exact ⟨trivial,trivial⟩
 unfold Q9
 refine aL (fun h=>aK ?_) (fun h=> ?_)
 ·simp only [E.den,aa,aj,ak,Ev] at h
  have h:s=wK:=by simpa using h
  rw [eT,if_pos h];rfl
 simp only [E.den,aa,aj,ak,Ev] at h
 have h0:s≠wK:=by simpa using h
 (refine nS ?_ (UN s dD hs (by decide)) (rS _) ?_;(focus (simp only [VC.den,E.den,aa,aP,and_true,Eu];try exact rfl));(simp only [cA]))
 have hz:=(D9 (s:=s) (sep:=dD) (by decide)).1
 have hp: ∀k,k<(pieces s dD).length->(nth (pieces s dD) k).size<4294967281:=fun k hk=>by
  have:=Pa (s:=s) (sep:=dD) (by decide) hk
  omega
 refine gJ (pieces s dD).length (fun k=>[bg (((pieces s dD).take k).map Bv),.int .i64 k]) (fun k=>(∀i,i<k->nI (nth (pieces s dD) i)=true)/\k<=4) rfl ⟨by omega,by omega⟩ ?_
 intro k hk hI _
 simp only [cA]
 refine aL (fun h2=> ?_) (fun h2=> ?_)
 ·simp only [E.den,aa,aj,ak] at h2
  have h2:k<(pieces s dD).length:=by simp at h2;exact h2
  (refine bH (fun hg=> ?_) ?_;(focus (simp only [bE,gE,E.den,aa,aj,ak] at hg ⊢;(try simp only [D.bool.injEq] at hg);(try simp only [D.bool.injEq]);grind)))
  (refine bD ?_ (UQ (nth (pieces s dD) k) [61] (hp k h2)) (⟨trivial,trivial,trivial,trivial⟩) ?_;(focus (simp only [VC.den,E.den,aa,aP,and_true,lD,jg,Int.toNat_natCast];try exact rfl));(simp only [cA]))
  (refine bD ?_ (U7 (ql (nth (pieces s dD) k))) (QK _) ?_;(focus (simp only [VC.den,E.den,aa,aP,and_true,zT,ql];try exact rfl));(simp only [cA]))
  refine aL (fun h3=>aK ?_) (fun h3=> ?_)
  ·simp only [E.den,aa,aj,ak,zT,lW] at h3
   have hn:oy s=false:=by
    cases hb:oy s with
    | false=>rfl
    | true =>
     exfalso
     unfold oy at hb
     simp only [Bool.and_eq_true,decide_eq_true_eq] at hb
     have:=List.all_eq_true.1 hb.1.1 _ (yY h2)
     unfold nI at this
     simp only [Bool.and_eq_true] at this
     simp [this.1,this.2] at h3
     omega
   rw [eT,if_neg h0,if_neg (by simp [hn])];rfl
  ·simp only [E.den,aa,aj,ak,zT,lW] at h3
   simp at h3
   refine bH (fun _=> ?_) ?_
   ·simp only [E.den,aa,aj,ak];simp [maxLen];omega
   refine fT h2 ?_ ⟨fun i hi=> ?_,by omega⟩
   ·simp only [E.den,aa,aj,ak,zT,lW]
    rw [eM (by omega) (by omega),D2 _ h2]
    simp [bg,dR,Bv,Io,ql]
   ·rcases Nat.lt_or_ge i k with h|h
    ·exact hI.1 i h
    ·obtain rfl:i=k:=by omega
     unfold nI
     simp [h3]
 ·simp only [E.den,aa,aj,ak] at h2
  obtain rfl:k=(pieces s dD).length:=by simp at h2;omega
  have hE:(pieces s dD).take (pieces s dD).length=pieces s dD:=List.take_length
  have hp:oy s=fE (mH s):=by
   unfold oy
   have:(pieces s dD).all nI=true:=List.all_eq_true.2 fun x hx=>by
    obtain ⟨i,hi,rfl⟩:=List.getElem_of_mem hx
    have:=hI.1 i hi
    simpa [nth,hi] using this
   simp [this,hI.2]
  (refine bD ?_ (Fh (mH s)) (trivial) ?_;(focus (simp only [VC.den,E.den,aa,aP,and_true,hE,mH];try exact rfl));(simp only [cA]))
  refine aL (fun h6=>aK ?_) (fun h6=>aK ?_)
  ·simp only [E.den,aa,aj,ak] at h6
   have h6:fE (mH s)=false:=by simpa using h6
   rw [eT,if_neg h0,if_neg (by rw [hp,h6];simp)];rfl
  ·simp only [E.den,aa,aj,ak] at h6
   have h6:fE (mH s)=true:=by simpa using h6
   rw [eT,if_neg h0,if_pos (by rw [hp,h6])]
   simp only [E.den,aa,aj,ak,hE]
   rfl
end
section
open Go.RowKit Go
variable [GC]
def jY:ByteArray:=⟨#[108,97,122,121]⟩
def lC:ByteArray:=⟨#[114,101,97,100,115]⟩
def jK:ByteArray:=⟨#[104,101,97,108,115]⟩
def jP:ByteArray:=⟨#[116,119,105,99,101]⟩
def bU(n:Int):Int:=min (IntKind.i64.wrap (n+1)) 999
theorem zn{n:Int}(h:fg n=true):fg (bU n)=true/\(n<999->bU n=n+1)/\1<=bU n:=by
 unfold fg at h
 simp only [Bool.and_eq_true,decide_eq_true_eq] at h
 have e:bU n=min (n+1) 999:=by unfold bU;rw [wrap_i64 (by omega) (by omega)]
 refine ⟨?_,fun _=>by omega,by omega⟩
 unfold fg
 simp only [Bool.and_eq_true,decide_eq_true_eq]
 omega
def bZ:List Cell->ByteArray->Nat
 | [],_=>0
 | c::r,k=>if gx c.key k=true then bZ r k+1 else 0
theorem uL: ∀(l:List Cell) (k:ByteArray),bZ l k<=l.length
 | [],_=>Nat.le_refl _
 | c::r,k=>by
  unfold bZ
  have:=uL r k
  split
  ·simp;exact this
  ·exact Nat.zero_le _
theorem yX{α:Type}[Inhabited α](a:α)(l:List α)(i:Nat):nth (a::l) (i+1)=nth l i:=by simp [nth]
theorem vS{α:Type}[Inhabited α](a:α)(l:List α):nth (a::l) 0=a:=by simp [nth]
theorem zJ: ∀{l:List Cell} {k:ByteArray} {i:Nat},i<bZ l k->gx (nth l i).key k=true
 | [],_,i,h=>by simp [bZ] at h
 | c::r,k,i,h=>by
  unfold bZ at h
  split at h
  ·rename_i hc
   cases i with
   | zero=>rw [vS];exact hc
   | succ i=>rw [yX];exact zJ (by omega)
  ·omega
theorem Cm: ∀{l:List Cell} {k:ByteArray},bZ l k<l.length->gx (nth l (bZ l k)).key k=false
 | [],_,h=>by simp [bZ] at h
 | c::r,k,h=>by
  unfold bZ at h ⊢
  split at h
  ·rename_i hc
   rw [if_pos hc,yX];exact Cm (by simp at h;omega)
  ·rename_i hc
   rw [if_neg hc,vS];simpa using hc
theorem E9: ∀{l:List Cell} {k:ByteArray} {n:Nat},n<=l.length->(∀i,i<n->gx (nth l i).key k=true)->(n<l.length->gx (nth l n).key k=false)->bZ l k=n
 | [],_,n,h,_,_=>by simp at h;subst h;rfl
 | c::r,k,n,h,h1,h2=>by
  unfold bZ
  cases n with
  | zero =>
   have:=h2 (by simp)
   rw [vS] at this
   rw [if_neg (by simp [this])]
  | succ n =>
   have h0:=h1 0 (by omega)
   rw [vS] at h0
   rw [if_pos h0,E9 (n:=n) (by simp at h;omega) (fun i hi=>by have:=h1 (i+1) (by omega);rwa [yX] at this) (fun hn=>by have:=h2 (by simp;omega);rwa [yX] at this)]
def eZ(l:List Cell)(k:ByteArray):Bool:=decide (bZ l k<l.length)&&decide ((nth l (bZ l k)).key=k)
def iH(l:List Cell)(k:ByteArray)(v:Int):List Cell:=if eZ l k=true then l.set (bZ l k) ⟨k,v⟩ else l.take (bZ l k)++[⟨k,v⟩]++l.drop (bZ l k)
def keepD(p:Core)(x:Call):Core×dW :=
 if (ek p.kind).testBit 0=true/\p.on=false then (p,rep 2 0 0 0)
 else if x.method=gy then (if eZ p.cells x.key=true then (p,rep 0 (nth p.cells (bZ p.cells x.key)).val 0 0) else (p,rep 4 0 0 0))
 else if eZ p.cells x.key=false/\4<=p.cells.length then (p,rep 5 0 0 0)
 else (⟨p.kind,p.on,p.broken,iH p.cells x.key x.val,bU p.count⟩,rep 0 (iH p.cells x.key x.val).length 0 0)
def dz(x:Call):Bool:=decide (x.method=gy)||decide (x.method=fw)
def bL(p:Core)(x:Call):Core×dW :=
 if p.broken=true/\x.method≠fc/\x.method≠ep then (p,rep 3 0 0 0)
 else if x.method=mStart then (if p.on=true then (⟨p.kind,false,true,p.cells,p.count⟩,rep 3 0 0 0) else (⟨p.kind,true,p.broken,p.cells,bU p.count⟩,rep 0 0 0 0))
 else if x.method=cj then (if p.on=false then (p,rep 2 0 0 0) else (⟨p.kind,false,p.broken,p.cells,p.count⟩,rep 0 0 0 0))
 else if dz x=true then keepD p x
 else if x.method=ep then (p,rep 0 p.count 0 0)
 else if x.method=fe then (⟨p.kind,if x.val=0 then false else if x.val=1 then true else p.on,p.broken,p.cells,bU p.count⟩,rep 0 (bU p.count) 0 0)
 else if x.method=rI then (p,⟨0,0,fmtC p.cells,0,0⟩)
 else if x.method=jN then (if (eT x.text).2=true then (⟨p.kind,p.on,p.broken,(eT x.text).1,p.count⟩,rep 0 (eT x.text).1.length 0 0) else (p,rep 6 0 0 0))
 else if x.method=fc then (⟨p.kind,false,false,p.cells,p.count⟩,rep 0 0 0 0)
 else (p,rep 0 0 0 0)
def bump(p:Part)(k:Nat):Part:=⟨p.core,p.af.set k ⟨(nth p.af k).name,bU (nth p.af k).count⟩⟩
def br(m:ByteArray):Call:=⟨m,cS,0,cS⟩
def wO(r:dW):dW:=if r.code=0 then ⟨r.code,min (IntKind.i64.wrap (2*r.val)) 999,r.text,r.want,r.had⟩ else r
def aA:Nat->Part->Call->Part×dW
 | 0,p,x=>(⟨(bL p.core x).1,p.af⟩,(bL p.core x).2)
 | k+1,p,x =>
  if (nth p.af k).name=counts/\x.method=ep then (p,rep 0 (nth p.af k).count 0 0)
  else if (nth p.af k).name=counts/\dz x=true then (bump (aA k p x).1 k,(aA k p x).2)
  else if (nth p.af k).name=jY/\dz x=true then
   (if (aA k p x).2.code=2 then aA k (aA k (aA k p x).1 (br mStart)).1 x else aA k p x)
  else if (nth p.af k).name=lC/\x.method=fw then (p,rep 6 0 0 0)
  else if (nth p.af k).name=gP/\x.method=fe then
   (if x.val=0 then aA k (bump p k) (br cj) else if x.val=1 then aA k (bump p k) (br mStart) else (bump p k,rep 0 (nth (bump p k).af k).count 0 0))
  else if (nth p.af k).name=jK/\x.method=fc then aA k (aA k p (br cj)).1 (br mStart)
  else if (nth p.af k).name=jP then ((aA k p x).1,wO (aA k p x).2)
  else aA k p x
def bq(p:Part)(x:Call):Part×dW :=
 if fj p=false\/eH x=false then (p,rep 7 0 0 0)
 else if cV (fF p) (bK x.method)=false then (p,rep 1 0 (bK x.method) (fF p))
 else aA p.af.length p x
theorem ZP{s:ByteArray}(h:kindOk s=true): ∃i:Fin 8,s=nth kinds i.val/\ek s=tY.getD i.val 0:=by
 have key: ∃i:Fin 8,s=nth kinds i.val:=by
  unfold kindOk tX at h
  by_cases e0:s=nth kinds 0
  ·exact ⟨0,e0⟩
  by_cases e1:s=nth kinds 1
  ·exact ⟨1,e1⟩
  by_cases e2:s=nth kinds 2
  ·exact ⟨2,e2⟩
  by_cases e3:s=nth kinds 3
  ·exact ⟨3,e3⟩
  by_cases e4:s=nth kinds 4
  ·exact ⟨4,e4⟩
  by_cases e5:s=nth kinds 5
  ·exact ⟨5,e5⟩
  by_cases e6:s=nth kinds 6
  ·exact ⟨6,e6⟩
  by_cases e7:s=nth kinds 7
  ·exact ⟨7,e7⟩
  simp [e0,e1,e2,e3,e4,e5,e6,e7] at h
 obtain ⟨i,rfl⟩:=key
 refine ⟨i,rfl,?_⟩
 unfold ek
 rw [NM i]
theorem ZX{s:ByteArray}(h:qe s=true): ∃i:Fin 9,s=nth af i.val/\lV s=vQ.getD i.val 0/\mA s=yS.getD i.val 0:=by
 have key: ∃i:Fin 9,s=nth af i.val:=by
  unfold qe rG at h
  by_cases e0:s=nth af 0
  ·exact ⟨0,e0⟩
  by_cases e1:s=nth af 1
  ·exact ⟨1,e1⟩
  by_cases e2:s=nth af 2
  ·exact ⟨2,e2⟩
  by_cases e3:s=nth af 3
  ·exact ⟨3,e3⟩
  by_cases e4:s=nth af 4
  ·exact ⟨4,e4⟩
  by_cases e5:s=nth af 5
  ·exact ⟨5,e5⟩
  by_cases e6:s=nth af 6
  ·exact ⟨6,e6⟩
  by_cases e7:s=nth af 7
  ·exact ⟨7,e7⟩
  by_cases e8:s=nth af 8
  ·exact ⟨8,e8⟩
  simp [e0,e1,e2,e3,e4,e5,e6,e7,e8] at h
 obtain ⟨i,rfl⟩:=key
 refine ⟨i,rfl,?_,?_⟩
 ·unfold lV;rw [DW i]
 ·unfold mA;rw [DW i]
theorem Bq{s:ByteArray}(h: ¬gD s<0): ∃j:Fin 6,bK s=((2^j.val:Nat):Int)/\s∈methods j.val:=by
 unfold bK
 rw [if_neg h]
 unfold gD at h ⊢
 cases hf:jV (xp s) 6 with
 | none=>rw [hf] at h;simp at h
 | some k =>
  obtain ⟨h1,h2,_⟩:=C5 hf
  refine ⟨⟨k,h1⟩,by simp,?_⟩
  unfold xp hasB at h2
  rw [List.any_eq_true] at h2
  obtain ⟨t,ht,e⟩:=h2
  have e:t=s:=by simpa using e
  subst e
  exact ht
theorem yQ: ∀(i:Fin 8) (j:Fin 6),cV ((tY.getD i.val 0:Nat):Int) ((2^j.val:Nat):Int)=true->(j.val=0\/j.val=3->(tY.getD i.val 0).testBit 0=true)/\(j.val=1\/j.val=4->(tY.getD i.val 0).testBit 1=true):=by decide +kernel
theorem ZY: ∀(i:Fin 9) (j:Fin 6) (f:Fin 64),cV ((f.val:Nat):Int) ((vQ.getD i.val 0:Nat):Int)=true->cV ((yS.getD i.val 0:Nat):Int) ((2^j.val:Nat):Int)=true->(i.val=3/\j.val=2)\/(i.val=6/\j.val=3)\/(i.val=7/\j.val=5)\/cV ((f.val:Nat):Int) ((2^j.val:Nat):Int)=true:=by decide +kernel
theorem ZZ: ∀(i:Fin 9) (f:Fin 64),(i.val=4\/i.val=6\/i.val=7)->cV ((f.val:Nat):Int) ((vQ.getD i.val 0:Nat):Int)=true->cV ((f.val:Nat):Int) 1=true:=by decide +kernel
theorem SN:bK mStart=1/\bK cj=1/\bK gy=2/\bK fw=2/\bK ep=4/\bK fe=8:=by decide +kernel
theorem tf:eH (br mStart)=true/\eH (br cj)=true/\eH (br ep)=true:=by decide +kernel
theorem xx{x:Call}(h:eH x=true): ¬gD x.method<0:=by
 unfold eH at h
 simp only [Bool.and_eq_true,Bool.not_eq_true',decide_eq_false_iff_not] at h
 exact h.1.1.1
theorem VU{x:Call}(h:eH x=true)(hm:dz x=true):kY x.key=true:=by
 unfold eH dz at *
 grind
theorem Ks{x:Call}(h:eH x=true):fg x.val=true:=by
 unfold eH fg at *
 grind
theorem NU:nth af 3=counts/\nth af 4=jY/\nth af 6=gP/\nth af 7=jK:=by decide
end
section
open Go.RowKit Go
variable [GC]
theorem JX: ∀{a b:List UInt8},Op.bytesLess a b=true->Op.bytesLess b a=false
 | [],_::_,_=>by simp [Op.bytesLess]
 | [],[],h=>by simp [Op.bytesLess] at h
 | _::_,[],h=>by simp [Op.bytesLess] at h
 | x::a,y::b,h=>by
  simp only [Op.bytesLess] at h ⊢
  by_cases e:x=y
  ·subst e;simp at h ⊢;exact JX h
  ·have e': ¬y=x:=fun h=>e h.symm
   simp [e,e'] at h ⊢
   exact UInt8.le_of_lt h
theorem JY: ∀{a b:List UInt8},a≠b->Op.bytesLess a b=false->Op.bytesLess b a=true
 | [],[],h,_=>by simp at h
 | [],_::_,_,h=>by simp [Op.bytesLess] at h
 | _::_,[],_,_=>by simp [Op.bytesLess]
 | x::a,y::b,hn,h=>by
  simp only [Op.bytesLess] at h ⊢
  by_cases e:x=y
  ·subst e;simp at h hn ⊢;exact JY hn h
  ·have e': ¬y=x:=fun h=>e h.symm
   simp [e,e'] at h ⊢
   exact UInt8.lt_of_le_of_ne h e'
theorem ltA{a b:ByteArray}(h:gx a b=true):gx b a=false:=JX h
theorem Oh{a b:ByteArray}(hn:a≠b)(h:gx a b=false):gx b a=true :=
 JY (fun e=>hn (by have:=wM a b;rw [e] at this;simpa using this.symm)) h
theorem D4{α:Type}[Inhabited α](l:List α)(k i:Nat)(x:α)(hk:k<l.length):nth (l.set k x) i=if i=k then x else nth l i:=by
 by_cases h:i=k
 ·subst h;simp [nth,hk]
 ·rw [if_neg h]
  have: ¬k=i:=fun e=>h e.symm
  simp [nth,List.getD_eq_getElem?_getD,List.getElem?_set,this]
theorem OE{α:Type}[Inhabited α](l:List α)(a i:Nat)(x:α)(ha:a<=l.length):nth (l.take a++[x]++l.drop a) i=if i<a then nth l i else if i=a then x else nth l (i-1):=by
 have hl:(l.take a).length=a:=by simp;omega
 simp only [nth,List.getD_eq_getElem?_getD,List.append_assoc]
 by_cases h1:i<a
 ·rw [if_pos h1,List.getElem?_append_left (by omega),List.getElem?_take,if_pos h1]
 ·rw [if_neg h1,List.getElem?_append_right (by omega),hl]
  by_cases h2:i=a
  ·subst h2;simp
  ·rw [if_neg h2]
   obtain ⟨j,rfl⟩: ∃j,i=a+1+j:=⟨i-a-1,by omega⟩
   have:a+1+j-a=j+1:=by omega
   rw [this]
   simp [List.getElem?_drop]
theorem nE{l:List Cell}{k:ByteArray}:eZ l k=true↔bZ l k<l.length/\(nth l (bZ l k)).key=k:=by
 unfold eZ;simp
theorem Pg(l:List Cell)(k:ByteArray)(v:Int):(iH l k v).length=if eZ l k=true then l.length else l.length+1:=by
 unfold iH
 have:=uL l k
 split
 ·simp
 ·simp;omega
theorem abw{l:List Cell}{k:ByteArray}{v:Int}(h:fE l=true)(hk:kY k=true)(hv:fg v=true)(h4: ¬(eZ l k=false/\4<=l.length)):fE (iH l k v)=true:=by
 have hlen:=oM h
 have hle:=uL l k
 unfold fE at h
 simp only [Bool.and_eq_true,uJ] at h
 have hc:=fun i hi=>h.2 i hi
 unfold fE
 simp only [Bool.and_eq_true,decide_eq_true_eq,uJ]
 refine ⟨?_,fun i hi=> ?_⟩
 ·rw [Pg]
  split
  ·exact hlen
  ·rename_i hn;have hn:eZ l k=false:=by simpa using hn
   have: ¬4<=l.length:=fun e=>h4 ⟨hn,e⟩
   omega
 rw [Pg] at hi
 unfold iY
 by_cases hi1:eZ l k=true
 ·rw [if_pos hi1] at hi
  have e:iH l k v=l.set (bZ l k) ⟨k,v⟩:=by unfold iH;rw [if_pos hi1]
  obtain ⟨q1,q2⟩:=nE.1 hi1
  have yq:=hc i hi
  unfold iY at yq
  rw [e,D4 _ _ _ _ q1,D4 _ _ _ _ q1]
  have key: ∀j,(if j=bZ l k then (⟨k,v⟩:Cell) else nth l j).key=(nth l j).key:=fun j=>by
   split
   ·rename_i e;rw [e,q2]
   ·rfl
  have val:fg (if i=bZ l k then (⟨k,v⟩:Cell) else nth l i).val=true:=by
   split
   ·exact hv
   ·simp only [Bool.and_eq_true] at yq;exact yq.1.2
  rw [key,key,val]
  simp only [Bool.and_eq_true,Bool.or_eq_true] at yq ⊢
  exact ⟨⟨yq.1.1,trivial⟩,yq.2⟩
 ·have hi2:eZ l k=false:=by simpa using hi1
  rw [if_neg hi1] at hi
  have e:iH l k v=l.take (bZ l k)++[⟨k,v⟩]++l.drop (bZ l k):=by unfold iH;rw [if_neg hi1]
  rw [e,OE _ _ _ _ hle,OE _ _ _ _ hle]
  simp only [Bool.and_eq_true,Bool.or_eq_true,beq_iff_eq]
  by_cases c1:i<bZ l k
  ·have:=hc i (by omega)
   unfold iY at this
   simp only [Bool.and_eq_true,Bool.or_eq_true,beq_iff_eq] at this
   rw [if_pos c1,if_pos (by omega)]
   exact this
  rw [if_neg c1]
  by_cases c2:i=bZ l k
  ·rw [if_pos c2]
   refine ⟨⟨hk,hv⟩,?_⟩
   by_cases c3:i=0
   ·exact .inl c3
   ·rw [if_pos (by omega)]
    exact .inr (zJ (l:=l) (k:=k) (i:=i-1) (by omega))
  rw [if_neg c2]
  have:=hc (i-1) (by omega)
  unfold iY at this
  simp only [Bool.and_eq_true,Bool.or_eq_true,beq_iff_eq] at this
  refine ⟨this.1,.inr ?_⟩
  rw [if_neg (by omega)]
  by_cases c3:i-1=bZ l k
  ·rw [if_pos c3,c3]
   have hat:bZ l k<l.length:=by omega
   refine Oh (fun e=> ?_) (Cm hat)
   have:eZ l k=true:=nE.2 ⟨hat,e⟩
   rw [hi2] at this;cases this
  ·rw [if_neg c3]
   rcases this.2 with h|h
   ·omega
   ·exact h
theorem mW{p:Core}:jh p=true↔kindOk p.kind=true/\fE p.cells=true/\(p.cells.length=0\/(ek p.kind).testBit 1=true)/\fg p.count=true/\ ¬(p.on=true/\p.broken=true)/\((ek p.kind).testBit 0=true\/(p.on=false/\p.broken=false)):=by
 unfold jh;grind
theorem aa0{k m:ByteArray}(hk:kindOk k=true)(ho:cV (ek k) (bK m)=true) :
  ((m=mStart\/m=cj\/m=fe)->(ek k).testBit 0=true)/\((m=gy\/m=fw\/m=jN)->(ek k).testBit 1=true):=by
 obtain ⟨i,_,e⟩:=ZP hk
 rw [e] at ho ⊢
 have w0:bK mStart=((2^(0:Fin 6).val:Nat):Int):=by decide +kernel
 have w1:bK cj=((2^(0:Fin 6).val:Nat):Int):=by decide +kernel
 have w2:bK fe=((2^(3:Fin 6).val:Nat):Int):=by decide +kernel
 have w3:bK gy=((2^(1:Fin 6).val:Nat):Int):=by decide +kernel
 have w4:bK fw=((2^(1:Fin 6).val:Nat):Int):=by decide +kernel
 have w5:bK jN=((2^(4:Fin 6).val:Nat):Int):=by decide +kernel
 constructor
 ·rintro (rfl|rfl|rfl)
  ·rw [w0] at ho;exact (yQ i 0 ho).1 (.inl rfl)
  ·rw [w1] at ho;exact (yQ i 0 ho).1 (.inl rfl)
  ·rw [w2] at ho;exact (yQ i 3 ho).1 (.inr rfl)
 ·rintro (rfl|rfl|rfl)
  ·rw [w3] at ho;exact (yQ i 1 ho).2 (.inl rfl)
  ·rw [w4] at ho;exact (yQ i 1 ho).2 (.inl rfl)
  ·rw [w5] at ho;exact (yQ i 4 ho).2 (.inr rfl)
theorem lT{x:Call}:dz x=true↔x.method=gy\/x.method=fw:=by unfold dz;simp
def JG(p:Core)(y:Core×dW):Prop:=jh y.1=true/\y.1.kind=p.kind/\y.2.code≠1/\y.2.code≠7/\0<=y.2.val/\y.2.val<=999
theorem rJ{n:Int}:fg n=true↔0<=n/\n<=999:=by unfold fg;simp
theorem WA{p:Core}{x:Call}(hp:jh p=true)(hx:eH x=true)(ho:cV (ek p.kind) (bK x.method)=true):JG p (bL p x):=by
 have hp':=mW.1 hp
 obtain ⟨p1,p2,p3,p4,p5,p6⟩:=hp'
 have nb:=aa0 p1 ho
 have n4:=rJ.1 p4
 have OB:=rJ.1 (zn p4).1
 have hl:=oM p2
 have same: ∀c v t w h,c≠1->c≠7->0<=v->v<=999->JG p (p,⟨c,v,t,w,h⟩):=fun c v t w h h1 h2 h3 h4=>⟨hp,rfl,h1,h2,h3,h4⟩
 unfold bL
 split
 ·exact same _ _ _ _ _ (by decide) (by decide) (by decide) (by decide)
 split
 ·rename_i hm
  have:=nb.1 (.inl hm)
  split
  ·exact ⟨mW.2 ⟨p1,p2,p3,p4,by simp,.inl this⟩,rfl,by simp [rep],by simp [rep],by simp [rep],by simp [rep]⟩
  ·rename_i hb hon
   have om:p.broken=false:=by
    have:mStart≠fc/\mStart≠ep:=by decide
    rw [hm] at hb
    cases h:p.broken with
    | false=>rfl
    | true=>exact absurd ⟨h,this⟩ hb
   exact ⟨mW.2 ⟨p1,p2,p3,(zn p4).1,by simp [om],.inl this⟩,rfl,by simp [rep],by simp [rep],by simp [rep],by simp [rep]⟩
 split
 ·rename_i hm
  have:=nb.1 (.inr (.inl hm))
  split
  ·exact same _ _ _ _ _ (by decide) (by decide) (by decide) (by decide)
  ·exact ⟨mW.2 ⟨p1,p2,p3,p4,by simp,.inl this⟩,rfl,by simp [rep],by simp [rep],by simp [rep],by simp [rep]⟩
 split
 ·rename_i hm
  have hb1:=nb.2 (by rcases lT.1 hm with h|h<;>simp [h])
  unfold keepD
  split
  ·exact same _ _ _ _ _ (by decide) (by decide) (by decide) (by decide)
  split
  ·split
   ·rename_i hc
    have:=rJ.1 (zR p2 (nE.1 hc).1).2
    exact same _ _ _ _ _ (by decide) (by decide) this.1 this.2
   ·exact same _ _ _ _ _ (by decide) (by decide) (by decide) (by decide)
  split
  ·exact same _ _ _ _ _ (by decide) (by decide) (by decide) (by decide)
  ·rename_i hf
   have DF:=abw (v:=x.val) p2 (VU hx hm) (Ks hx) hf
   have:=oM DF
   exact ⟨mW.2 ⟨p1,DF,.inr hb1,(zn p4).1,p5,p6⟩,rfl,by simp [rep],by simp [rep],by simp only [rep];omega,by simp only [rep];omega⟩
 split
 ·exact same _ _ _ _ _ (by decide) (by decide) n4.1 n4.2
 split
 ·rename_i hb _ _ _ _ hm
  have h0:=nb.1 (.inr (.inr hm))
  have om:p.broken=false:=by
   have:fe≠fc/\fe≠ep:=by decide
   rw [hm] at hb
   cases h:p.broken with
   | false=>rfl
   | true=>exact absurd ⟨h,this⟩ hb
  exact ⟨mW.2 ⟨p1,p2,p3,(zn p4).1,by simp [om],.inl h0⟩,rfl,by simp [rep],by simp [rep],OB.1,OB.2⟩
 split
 ·exact same _ _ _ _ _ (by decide) (by decide) (by decide) (by decide)
 split
 ·rename_i hm
  split
  ·rename_i hk
   have:=abp hk
   have h5:=oM this
   exact ⟨mW.2 ⟨p1,this,.inr (nb.2 (.inr (.inr hm))),p4,p5,p6⟩,rfl,by simp [rep],by simp [rep],by simp only [rep];omega,by simp only [rep];omega⟩
  ·exact same _ _ _ _ _ (by decide) (by decide) (by decide) (by decide)
 split
 ·exact ⟨mW.2 ⟨p1,p2,p3,p4,by simp,.inr ⟨rfl,rfl⟩⟩,rfl,by simp [rep],by simp [rep],by simp [rep],by simp [rep]⟩
 ·exact same _ _ _ _ _ (by decide) (by decide) (by decide) (by decide)
structure gV(p q:Part):Prop where
 kind:q.core.kind=p.core.kind
 names:q.af.map (·.name)=p.af.map (·.name)
theorem gV.refl(p:Part):gV p p:=⟨rfl,rfl⟩
theorem gV.trans{p q r:Part}(h:gV p q)(k:gV q r):gV p r:=⟨k.kind.trans h.kind,k.names.trans h.names⟩
theorem gV.len{p q:Part}(h:gV p q):q.af.length=p.af.length:=by simpa using congrArg List.length h.names
theorem gV.name{p q:Part}(h:gV p q){i:Nat}(hi:i<p.af.length):(nth q.af i).name=(nth p.af i).name:=by
 have h1:=congrArg (·[i]?) h.names
 have h2:=h.len
 simp only [List.getElem?_map] at h1
 rw [List.getElem?_eq_getElem hi,List.getElem?_eq_getElem (by omega)] at h1
 simp only [Option.map_some,Option.some.injEq] at h1
 simp [nth,List.getD_eq_getElem?_getD,hi,h2,h1]
theorem gV.pX{p q:Part}(h:gV p q){i:Nat}(hi:i<=p.af.length):eQ q i=eQ p i:=by
 unfold eQ
 split
 ·rw [h.kind]
 ·rw [h.name (by omega)]
theorem nH{p:Part}:fj p=true↔jh p.core=true/\p.af.length<=3/\ ∀i,i<p.af.length->qe (nth p.af i).name=true/\cV (eQ p i) (lV (nth p.af i).name)=true/\fg (nth p.af i).count=true/\((nth p.af i).count=0\/(nth p.af i).name=counts\/(nth p.af i).name=gP):=by
 unfold fj
 simp only [Bool.and_eq_true,decide_eq_true_eq,uJ,kX,Bool.or_eq_true]
 constructor
 ·rintro ⟨⟨h1,h2⟩,h3⟩
  exact ⟨h1,h2,fun i hi=>by have:=h3 i hi;exact ⟨this.1.1.1,this.1.1.2,this.1.2,by rcases this.2 with (h|h)|h<;>simp [h]⟩⟩
 ·rintro ⟨h1,h2,h3⟩
  exact ⟨⟨h1,h2⟩,fun i hi=>by obtain ⟨a,b,c,d⟩:=h3 i hi;exact ⟨⟨⟨a,b⟩,c⟩,by rcases d with h|h|h<;>simp [h]⟩⟩
theorem O4{p q:Part}(hp:fj p=true)(hs:gV p q)(hc:jh q.core=true)(hn: ∀i,i<p.af.length->fg (nth q.af i).count=true/\((nth q.af i).count=0\/(nth p.af i).name=counts\/(nth p.af i).name=gP)):fj q=true:=by
 obtain ⟨_,h2,h3⟩:=nH.1 hp
 refine nH.2 ⟨hc,by rw [hs.len];exact h2,fun i hi=> ?_⟩
 rw [hs.len] at hi
 obtain ⟨a,b,_,_⟩:=h3 i hi
 obtain ⟨c,d⟩:=hn i hi
 rw [hs.name hi,hs.pX (by omega)]
 exact ⟨a,b,c,d⟩
theorem Cr{p:Part}{k:Nat}(hk:k<p.af.length):gV p (bump p k):=by
 refine ⟨rfl,?_⟩
 unfold bump
 apply List.ext_getElem?
 intro i
 simp only [List.getElem?_map,List.getElem?_set]
 split
 ·rename_i e
  subst e
  (try rw [if_pos hk])
  rw [List.getElem?_eq_getElem hk]
  simp [nth,List.getD_eq_getElem?_getD,hk]
 ·rfl
theorem J7{p:Part}{k:Nat}(hk:k<p.af.length)(i:Nat):nth (bump p k).af i=if i=k then ⟨(nth p.af k).name,bU (nth p.af k).count⟩ else nth p.af i:=D4 _ _ _ _ hk
theorem Fg{p:Part}{k:Nat}(hp:fj p=true)(hk:k<p.af.length)(hn:(nth p.af k).name=counts\/(nth p.af k).name=gP):fj (bump p k)=true:=by
 obtain ⟨h1,h2,h3⟩:=nH.1 hp
 refine O4 hp (Cr hk) h1 fun i hi=> ?_
 rw [J7 hk]
 obtain ⟨_,_,c,d⟩:=h3 i hi
 split
 ·rename_i e
  subst e
  exact ⟨(zn c).1,.inr hn⟩
 ·exact ⟨c,d⟩
theorem Qo{nm m:ByteArray}{f:Nat}(hf:f<64)(hl:qe nm=true)(h1:cV f (lV nm)=true)(ha: ¬gD m<0)(h2:cV (mA nm) (bK m)=true) :
  (nm=counts/\m=ep)\/(nm=gP/\m=fe)\/(nm=jK/\m=fc)\/cV f (bK m)=true:=by
 obtain ⟨i,e,en,eg⟩:=ZX hl
 obtain ⟨j,ew,hm⟩:=Bq ha
 rw [en] at h1
 rw [eg,ew] at h2
 rw [ew]
 obtain ⟨e3,e4,e6,e7⟩:=NU
 rcases ZY i j ⟨f,hf⟩ h1 h2 with ⟨a,b⟩|⟨a,b⟩|⟨a,b⟩|h
 ·rw [a] at e;rw [b] at hm;simp [methods] at hm
  exact .inl ⟨by rw [e,e3],hm⟩
 ·rw [a] at e;rw [b] at hm;simp [methods] at hm
  exact .inr (.inl ⟨by rw [e,e6],hm⟩)
 ·rw [a] at e;rw [b] at hm;simp [methods] at hm
  exact .inr (.inr (.inl ⟨by rw [e,e7],hm⟩))
 ·exact .inr (.inr (.inr h))
theorem xQ{nm:ByteArray}{f:Nat}(hf:f<64)(h1:cV f (lV nm)=true)(hn:nm=jY\/nm=gP\/nm=jK):cV f (bK mStart)=true/\cV f (bK cj)=true:=by
 obtain ⟨e3,e4,e6,e7⟩:=NU
 have e: ∃i:Fin 9,nm=nth af i.val/\(i.val=4\/i.val=6\/i.val=7):=by
  rcases hn with h|h|h
  ·exact ⟨4,by rw [h];exact e4.symm,.inl rfl⟩
  ·exact ⟨6,by rw [h];exact e6.symm,.inr (.inl rfl)⟩
  ·exact ⟨7,by rw [h];exact e7.symm,.inr (.inr rfl)⟩
 obtain ⟨i,rfl,hi⟩:=e
 have en:lV (nth af i.val)=vQ.getD i.val 0:=by unfold lV;rw [DW i]
 rw [en] at h1
 rw [SN.1,SN.2.1]
 have:=ZZ i ⟨f,hf⟩ hi h1
 exact ⟨this,this⟩
def zB(p:Part)(y:Part×dW):Prop:=fj y.1=true/\gV p y.1/\y.2.code≠1/\y.2.code≠7/\0<=y.2.val/\y.2.val<=999
theorem aaZ:counts≠jY/\counts≠lC/\counts≠gP/\counts≠jK/\counts≠jP/\jY≠lC/\jY≠gP/\jY≠jK/\jY≠jP/\lC≠gP/\lC≠jK/\lC≠jP/\gP≠jK/\gP≠jP/\jK≠jP:=by decide
theorem Bj{x:Call}(h:dz x=true):x.method≠ep/\x.method≠fe/\x.method≠fc/\x.method≠mStart/\x.method≠cj:=by
 rcases lT.1 h with e|e<;>rw [e]<;>decide
theorem pI: ∀(k:Nat) (p:Part) (x:Call),fj p=true->k<=p.af.length->eH x=true->cV (eQ p k) (bK x.method)=true->zB p (aA k p x)
 | 0,p,x,hp,_,hx,ho=>by
  obtain ⟨h1,h2,h3⟩:=nH.1 hp
  obtain ⟨a,b,c,d,e,f⟩:=WA h1 hx ho
  have hs:gV p (aA 0 p x).1:=⟨b,rfl⟩
  exact ⟨O4 hp hs a fun i hi=>⟨(h3 i hi).2.2.1,(h3 i hi).2.2.2⟩,hs,c,d,e,f⟩
 | k+1,p,x,hp,hk,hx,ho=>by
  obtain ⟨h1,h2,h3⟩:=nH.1 hp
  obtain ⟨a,b,c,d⟩:=h3 k (by omega)
  have ho:cV (mA (nth p.af k).name) (bK x.method)=true:=by
   unfold eQ at ho;rw [if_neg (by omega)] at ho;exact ho
  have hsub:=Qo (qK p k) a b (xx hx) ho
  have nc:=rJ.1 c
  have ne:=aaZ
  have cs:=tf
  have below:cV (eQ p k) (bK x.method)=true->zB p (aA k p x):=fun h=>pI k p x hp (by omega) hx h
  have start: ∀q,fj q=true->gV p q->cV (eQ p k) (bK mStart)=true->zB p (aA k q (br mStart)):=fun q hq hs h=>by
   have:=pI k q (br mStart) hq (by rw [hs.len];omega) cs.1 (by rw [hs.pX (by omega)];exact h)
   exact ⟨this.1,hs.trans this.2.1,this.2.2⟩
  have stop: ∀q,fj q=true->gV p q->cV (eQ p k) (bK cj)=true->zB p (aA k q (br cj)):=fun q hq hs h=>by
   have:=pI k q (br cj) hq (by rw [hs.len];omega) cs.2.1 (by rw [hs.pX (by omega)];exact h)
   exact ⟨this.1,hs.trans this.2.1,this.2.2⟩
  rw [aA]
  split
  ·exact ⟨hp,gV.refl _,by simp [rep],by simp [rep],nc.1,nc.2⟩
  rename_i g1
  split
  ·rename_i g2
   have kn:=Bj g2.2
   have hb:=below (by rcases hsub with h|h|h|h;exact absurd h.2 kn.1;exact absurd h.2 kn.2.1;exact absurd h.2 kn.2.2.1;exact h)
   have hl:=hb.2.1.len
   have hnm:=hb.2.1.name (i:=k) (by omega)
   exact ⟨Fg hb.1 (by omega) (.inl (by rw [hnm];exact g2.1)),hb.2.1.trans (Cr (by omega)),hb.2.2⟩
  rename_i g2
  split
  ·rename_i g3
   have kn:=Bj g3.2
   have lS:cV (eQ p k) (bK x.method)=true:=by rcases hsub with h|h|h|h;exact absurd h.2 kn.1;exact absurd h.2 kn.2.1;exact absurd h.2 kn.2.2.1;exact h
   have hb:=below lS
   have hr:=xQ (qK p k) b (.inl g3.1)
   split
   ·have hs:=start _ hb.1 hb.2.1 hr.1
    have:=pI k _ x hs.1 (by rw [hs.2.1.len];omega) hx (by rw [hs.2.1.pX (by omega)];exact lS)
    exact ⟨this.1,hs.2.1.trans this.2.1,this.2.2⟩
   ·exact hb
  rename_i g3
  split
  ·exact ⟨hp,gV.refl _,by simp [rep],by simp [rep],by simp [rep],by simp [rep]⟩
  rename_i g4
  split
  ·rename_i g5
   have hr:=xQ (qK p k) b (.inr (.inl g5.1))
   have qQ:=Fg hp (k:=k) (by omega) (.inr g5.1)
   have hsh:gV p (bump p k):=Cr (by omega)
   split
   ·exact stop _ qQ hsh hr.2
   split
   ·exact start _ qQ hsh hr.1
   ·refine ⟨qQ,hsh,by simp [rep],by simp [rep],?_⟩
    have:=rJ.1 ((nH.1 qQ).2.2 k (by rw [hsh.len];omega)).2.2.1
    exact this
  rename_i g5
  split
  ·rename_i g6
   have hr:=xQ (qK p k) b (.inr (.inr g6.1))
   have hs:=stop p hp (gV.refl _) hr.2
   exact start _ hs.1 hs.2.1 hr.1
  rename_i g6
  have hb:=below (by
   rcases hsub with h|h|h|h
   ·exact absurd h g1
   ·exact absurd h g5
   ·exact absurd h g6
   ·exact h)
  split
  ·refine ⟨hb.1,hb.2.1,?_⟩
   unfold wO
   split
   ·rename_i h0
    obtain ⟨q1,q2⟩:=hb.2.2.2.2
    simp only
    rw [wrap_i64 (by omega) (by omega)]
    exact ⟨by simp [h0],by simp [h0],by omega,by omega⟩
   ·exact hb.2.2
  ·exact hb
theorem zN(p:Part)(k:Nat):(bump p k).af.length=p.af.length:=by simp [bump]
theorem zi: ∀(k:Nat) (p:Part) (x:Call),(aA k p x).1.af.length=p.af.length
 | 0,p,x=>rfl
 | k+1,p,x=>by
  have ih:=zi k
  rw [aA]
  split
  ·rfl
  split
  ·simp only [zN,ih]
  split
  ·split
   ·simp only [ih]
   ·simp only [ih]
  split
  ·rfl
  split
  ·split
   ·simp only [zN,ih]
   split
   ·simp only [zN,ih]
   ·simp only [zN]
  split
  ·simp only [ih]
  split
  ·simp only [ih]
  ·simp only [ih]
end
section
open Go.RowKit Go
variable [GC]
def dc(l:List Cell):List (ByteArray×Int):=l.map fun c=>(c.key,c.val)
def fX(l:List fZ):List (ByteArray×Int):=l.map fun c=>(c.name,c.count)
def j7(x:ByteArray×Int):List D:=[.str x.1,.int .i64 x.2]
theorem vZ(l:List Cell):(dc l).map j7=l.map bC.cells:=by simp [dc,j7,dR,Function.comp_def]
theorem BA(l:List fZ):(fX l).map j7=l.map bC.cells:=by simp [fX,j7,jC,Function.comp_def]
theorem vY(l:List Cell):(dc l).length=l.length:=by simp [dc]
theorem oz(l:List fZ):(fX l).length=l.length:=by simp [fX]
theorem OG{α β:Type}[Inhabited α][Inhabited β](f:α->β){l:List α}{k:Nat}(h:k<l.length):nth (l.map f) k=f (nth l k):=by
 simp [nth,List.getD_eq_getElem?_getD,h]
theorem Pc{l:List Cell}{k:Nat}(h:k<l.length):nth (dc l) k=((nth l k).key,(nth l k).val):=OG _ h
theorem Bz{l:List fZ}{k:Nat}(h:k<l.length):nth (fX l) k=((nth l k).name,(nth l k).count):=OG _ h
def y7(x:ByteArray×Int):Prop:=x.1.size<=maxLen/\IntKind.i64.min<=x.2/\x.2<=IntKind.i64.max
def cB(K:Nat->Prop)(w:World)(g:Nat)(S:Value)(l:List (ByteArray×Int)):Prop :=
 ∃a cap,S= .slice a l.length cap/\l.length<=cap/\cap<=maxLen/\(a=none->cap=0)/\(∀x∈l,y7 x) /\
  ∀b o s,a=some ⟨b,o,s⟩->0<cap->s=none/\K b/\b≠g/\ ∃cells T,w.heap[b]? =some (.cells cells T (0,0))/\o+cap*2<=cells.size /\
   ∀i,i<l.length->cells[o+i*2]? =some (.string (nth l i).1)/\cells[o+i*2+1]? =some (.int .i64 (nth l i).2)
theorem cB.keep{K K':Nat->Prop}{w w':World}{g:Nat}{S:Value}{l:List (ByteArray×Int)}(h:cB K w g S l)(hw: ∀b,bM S b->w'.heap[b]? =w.heap[b]?)(hK: ∀b,K b->K' b):cB K' w' g S l:=by
 obtain ⟨a,cap,rfl,h1,h2,h3,h4,h5⟩:=h
 refine ⟨a,cap,rfl,h1,h2,h3,h4,fun b o s e hc=> ?_⟩
 obtain ⟨q1,q2,q3,cells,T,q4,q5⟩:=h5 b o s e hc
 exact ⟨q1,hK _ q2,q3,cells,T,by rw [hw b ⟨o,s,_,cap,by rw [e],hc⟩];exact q4,q5⟩
theorem cB.out{K:Nat->Prop}{w:World}{g:Nat}{S:Value}{l:List (ByteArray×Int)}(h:cB K w g S l){b:Nat}(hb:bM S b):K b/\b≠g/\b<w.heap.size:=by
 obtain ⟨a,cap,rfl,h1,h2,h3,h4,h5⟩:=h
 obtain ⟨o,s,len,cap',e,hc⟩:=hb
 simp only [Value.slice.injEq] at e
 obtain ⟨rfl,rfl,rfl⟩:=e
 obtain ⟨q1,q2,q3,cells,T,q4,q5⟩:=h5 b o s rfl hc
 exact ⟨q2,q3,(Array.getElem?_eq_some_iff.1 q4).1⟩
theorem cB.at{K:Nat->Prop}{w:World}{g:Nat}{S:Value}{l:List (ByteArray×Int)}(h:cB K w g S l){i:Nat}(hi:i<l.length) :
  ∃b o cap,S= .slice (some ⟨b,o,none⟩) l.length cap/\K b/\b≠g/\bM S b/\w.cell? ⟨b,o+i*2,none⟩=some (.string (nth l i).1)/\w.cell? ⟨b,o+i*2+1,none⟩=some (.int .i64 (nth l i).2)/\(∀x y,w.frozen? ⟨b,x,y⟩=false)/\b<w.heap.size:=by
 have h0:=h
 obtain ⟨a,cap,rfl,h1,h2,h3,h4,h5⟩:=h
 rcases a with _|⟨b,o,s⟩
 ·have:=h3 rfl;omega
 ·have hc:0<cap:=by omega
  obtain ⟨rfl,q2,q3,cells,T,q4,q5,q6⟩:=h5 b o s rfl hc
  refine ⟨b,o,cap,rfl,q2,q3,⟨o,none,_,cap,rfl,hc⟩,?_,?_,fun x y=> ?_,(Array.getElem?_eq_some_iff.1 q4).1⟩
  ·simp only [World.cell?,q4];exact (q6 i hi).1
  ·simp only [World.cell?,q4];exact (q6 i hi).2
  ·unfold World.frozen?;rw [q4];simp
theorem cB.ok{K:Nat->Prop}{w:World}{g:Nat}{S:Value}{l:List (ByteArray×Int)}(h:cB K w g S l){x:ByteArray×Int}(hx:x∈l):y7 x:=by
 obtain ⟨a,cap,rfl,h1,h2,h3,h4,h5⟩:=h
 exact h4 x hx
theorem cB.okn{K:Nat->Prop}{w:World}{g:Nat}{S:Value}{l:List (ByteArray×Int)}(h:cB K w g S l){i:Nat}(hi:i<l.length):y7 (nth l i):=h.ok (yY hi)
theorem cB.ou{K:Nat->Prop}{w:World}{g:Nat}{S:Value}{l:List (ByteArray×Int)}(h:cB K w g S l): ∃a cap,S= .slice a l.length cap/\l.length<=cap/\cap<=maxLen:=by
 obtain ⟨a,cap,rfl,h1,h2,_⟩:=h
 exact ⟨a,cap,rfl,h1,h2⟩
theorem cB.put{K:Nat->Prop}{w:World}{g:Nat}{l:List (ByteArray×Int)}{b o cap:Nat}{s:Option Nat}(h:cB K w g (.slice (some ⟨b,o,s⟩) l.length cap) l){i:Nat}(hi:i<l.length){v:Int}(hv:IntKind.i64.min<=v/\v<=IntKind.i64.max) :
  cB K (w.setCell ⟨b,o+i*2+1,none⟩ (.int .i64 v)) g (.slice (some ⟨b,o,s⟩) l.length cap) (l.set i ((nth l i).1,v)):=by
 obtain ⟨a,cap',e,h1,h2,h3,h4,h5⟩:=h
 cases e
 refine ⟨_,cap,by rw [List.length_set],by rw [List.length_set];exact h1,h2,(fun e=>by cases e),fun x hx=> ?_,fun b' o' s' e hc=> ?_⟩
 ·rcases List.mem_or_eq_of_mem_set hx with hx|rfl
  ·exact h4 x hx
  ·exact ⟨(h4 _ (yY hi)).1,hv⟩
 ·cases e
  obtain ⟨q1,q2,q3,cells,T,q4,q5,q6⟩:=h5 b o s rfl hc
  refine ⟨q1,q2,q3,cells.setIfInBounds (o+i*2+1) (.int .i64 v),T,?_,by simpa using q5,fun j hj=> ?_⟩
  ·unfold World.setCell
   simp [Array.getElem?_modify,q4]
  ·rw [List.length_set] at hj
   obtain ⟨z1,z2⟩:=q6 j hj
   rw [D4 _ _ _ _ hi]
   constructor
   ·rw [Array.getElem?_setIfInBounds_ne (by omega),z1]
    split
    ·rename_i e;rw [e]
    ·rfl
   ·by_cases e:j=i
    ·subst e
     have hlt:=(Array.getElem?_eq_some_iff.1 z2).1
     rw [if_pos rfl,Array.getElem?_setIfInBounds_self_of_lt hlt]
    ·rw [if_neg e,Array.getElem?_setIfInBounds_ne (by omega),z2]
theorem cB.of{K:Nat->Prop}{w:World}{M:Addr->Prop}{g B:Nat}{S:Value}{l:List (ByteArray×Int)}(hr:R w M (.sl (l.map j7)) S)(hl:r9 B w S 2)(hK: ∀b,B<=b->b<w.heap.size->K b)(hg: ∀b,B<=b->b<w.heap.size->b≠g):cB K w g S l:=by
 have hr0:=hr
 have hn: ∀r∈l.map j7,r.length=2:=fun r hr=>by obtain ⟨x,_,rfl⟩:=List.mem_map.1 hr;rfl
 obtain ⟨a,len,cap,rfl,h1,h2,h3,h4,h5⟩:=hr
 rw [List.length_map] at h1
 subst h1
 refine ⟨a,cap,rfl,h2,h3,h4,fun x hx=> ?_,fun b o s e hc=> ?_⟩
 ·have hf:=R.fits _ _ hr0
  have: ∀(rows:List (List D)),zt rows-> ∀r∈rows,eB r:=by
   intro rows
   induction rows with
   | nil=>intro _ r hr;cases hr
   | cons a t ih=>intro h r hr;rcases List.mem_cons.1 hr with rfl|hr;exact h.1;exact ih h.2 r hr
  have:=this _ hf.2 _ (List.mem_map.2 ⟨x,hx,rfl⟩)
  exact ⟨this.1,this.2.1.1,this.2.1.2⟩
 ·subst e
  obtain ⟨q1,q2,cells,T,q3,q4⟩:=hl b o s _ cap rfl hc
  have hlt:=(Array.getElem?_eq_some_iff.1 q3).1
  refine ⟨q1,hK b q2 hlt,hg b q2 hlt,cells,T,q3,q4,fun i hi=> ?_⟩
  have hrow:(l.map j7)[i]? =some (j7 (nth l i)):=by
   rw [List.getElem?_map,List.getElem?_eq_getElem hi];simp [nth,hi]
  obtain ⟨u0,c1,_,c2⟩:=tC hn hr0 hrow (j:=0) rfl
  obtain ⟨u1,d1,_,d2⟩:=tC hn hr0 hrow (j:=1) rfl
  simp only [World.cell?,q3] at c1 d1
  have c3:u0=_:=c2.1
  have d3:u1=_:=d2.1
  subst c3 d3
  exact ⟨by simpa using c1,by simpa using d1⟩
theorem cB.rd{K:Nat->Prop}{w:World}{M:Addr->Prop}{g:Nat}{S:Value}{l:List (ByteArray×Int)}(h:cB K w g S l)(hM: ∀b o cap i,S= .slice (some ⟨b,o,none⟩) l.length cap->K b->i<l.length*2-> ¬M ⟨b,o+i,none⟩):R w M (.sl (l.map j7)) S:=by
 have hn: ∀r∈l.map j7,r.length=2:=fun r hr=>by obtain ⟨x,_,rfl⟩:=List.mem_map.1 hr;rfl
 obtain ⟨a,cap,rfl,h1,h2,h3,h4,h5⟩:=h
 rcases a with _|⟨b,o,s⟩
 ·have:l=[]:=List.eq_nil_of_length_eq_zero (by have:=h3 rfl;omega)
  subst this
  exact ⟨none,_,cap,rfl,rfl,h1,h2,h3,fun b o s e=>by cases e⟩
 ·refine LW hn (by simp) h1 h2 (fun hl=>(h5 b o s rfl (by omega)).1) fun i j r d hi hj=> ?_
  have hil:i<l.length:=by have:=(List.getElem?_eq_some_iff.1 hi).1;simpa using this
  obtain ⟨rfl,q2,q3,cells,T,q4,q5,q6⟩:=h5 b o s rfl (by omega)
  have hx:=h4 _ (yY hil)
  have hr:r=j7 (nth l i):=by
   rw [List.getElem?_map,List.getElem?_eq_getElem hil] at hi
   cases hi;simp [nth,hil]
  subst hr
  match j,hj with
  | 0,hj=>cases hj;exact ⟨_,by simp only [World.cell?,q4];exact (q6 i hil).1,hM b o cap (i*2) rfl q2 (by omega),rfl,hx.1⟩
  | 1,hj=>cases hj;exact ⟨_,by simp only [World.cell?,q4];exact (q6 i hil).2,by have:=hM b o cap (i*2+1) rfl q2 (by omega);rwa [<-Nat.add_assoc] at this,rfl,hx.2⟩
theorem cB.owns{K:Nat->Prop}{w:World}{g B:Nat}{T:TypeId}{v:Value}{n:Nat}{xs:List Value}{l:List (ByteArray×Int)}(h:w.ownsRow B T 2 v n xs)(hx:xs=l.flatMap fun x=>[.string x.1,.int .i64 x.2])(hn:n=l.length)(hok: ∀x∈l,y7 x)(hK: ∀b,B<=b->b<w.heap.size->K b)(hg: ∀b,B<=b->b<w.heap.size->b≠g):cB K w g v l:=by
 subst hx hn
 obtain ⟨h0,⟨rfl,hz⟩|⟨g',cap,cur,rfl,h1,h2,h3,h4,h5,h6⟩⟩:=h
 ·have:l=[]:=List.eq_nil_of_length_eq_zero hz
  subst this
  exact ⟨none,0,rfl,Nat.le_refl _,by decide,fun _=>rfl,hok,fun b o s e=>by cases e⟩
 ·have hlt:=(Array.getElem?_eq_some_iff.1 h2).1
  refine ⟨_,cap,rfl,h3,h4,(fun e=>by cases e),hok,fun b o s e hc=> ?_⟩
  cases e
  refine ⟨rfl,hK _ h1 hlt,hg _ h1 hlt,cur,T,h2,by omega,fun i hi=> ?_⟩
  have key: ∀(l:List (ByteArray×Int)) (i:Nat),i<l.length->(l.flatMap fun x=>[Value.string x.1,.int .i64 x.2])[i*2]? =some (.string (nth l i).1)/\(l.flatMap fun x=>[Value.string x.1,.int .i64 x.2])[i*2+1]? =some (.int .i64 (nth l i).2):=by
   intro l
   induction l with
   | nil=>intro i hi;simp at hi
   | cons x r ih =>
    intro i hi
    cases i with
    | zero=>simp [nth]
    | succ i =>
     have:=ih i (by simpa using hi)
     have e1:(i+1)*2=i*2+1+1:=by omega
     rw [yX,e1]
     simpa using this
  obtain ⟨k1,k2⟩:=key l i hi
  rw [<-h6,List.getElem?_take,if_pos (by omega)] at k1 k2
  rw [Nat.zero_add]
  exact ⟨by simpa using k1,by simpa using k2⟩
theorem p8{w:World}{q:Addr}{v:Value}{b:Nat}(h:b≠q.block):(w.setCell q v).heap[b]? =w.heap[b]? :=by
 unfold World.setCell
 simp only [Array.getElem?_modify]
 rw [if_neg (fun e=>h e.symm)]
section
structure PB(K:Nat->Prop)(w:World)(g:Nat)(S2:Value)(p:Part):Prop where
 gi:kp w/\NG<=w.heap.size
 kb: ∀b,K b->NG<=b/\b<w.heap.size
 kg:K g
 bx: ∃S1,ai w g 37 #[.string p.core.kind,.bool p.core.on,.bool p.core.broken,S1,.int .i64 p.core.count,S2]/\cB K w g S1 (dc p.core.cells)/\ ∀b,bM S1 b-> ¬bM S2 b
 ly:cB K w g S2 (fX p.af)
 ks:p.core.kind.size<=maxLen
 ct:IntKind.i64.min<=p.core.count/\p.core.count<=IntKind.i64.max
structure eE(K:Nat->Prop)(w w':World):Prop where
 os:w'.os=w.os
 tape:w'.tape=w.tape
 output:w'.output=w.output
 size:w.heap.size<=w'.heap.size
 block: ∀b,b<w.heap.size-> ¬K b->w'.heap[b]? =w.heap[b]?
theorem eE.refl(K:Nat->Prop)(w:World):eE K w w:=⟨rfl,rfl,rfl,Nat.le_refl _,fun _ _ _=>rfl⟩
def Gr(K:Nat->Prop)(w w':World):Nat->Prop:=fun b=>K b\/(w.heap.size<=b/\b<w'.heap.size)
theorem eE.mQ{K:Nat->Prop}{a b c:World}(h:eE K a b)(k:eE K b c):eE K a c :=
 ⟨k.os.trans h.os,k.tape.trans h.tape,k.output.trans h.output,Nat.le_trans h.size k.size,fun i hi hn=>(k.block i (Nat.lt_of_lt_of_le hi h.size) hn).trans (h.block i hi hn)⟩
theorem eE.below{K:Nat->Prop}{a b:World}(h:Below a.heap.size a b):eE K a b:=⟨h.os,h.tape,h.output,h.size,fun i hi _=>h.block i hi⟩
theorem eE.lF{K:Nat->Prop}{a b:World}{B:Nat}(h:eE K a b)(hB:B<=a.heap.size)(hK: ∀b,K b->B<=b):Below B a b:=⟨h.os,h.tape,h.output,h.size,fun i hi=>h.block i (Nat.lt_of_lt_of_le hi hB) fun hk=>by have:=hK i hk;omega⟩
section
variable {K K':Nat->Prop}{w w':World}{g:Nat}{S2:Value}{p:Part}
theorem PB.mono(h:PB K w g S2 p)(hK: ∀b,K b->K' b)(hb: ∀b,K' b->NG<=b/\b<w.heap.size):PB K' w g S2 p:=by
 obtain ⟨S1,q1,q2,q3⟩:=h.bx
 exact ⟨h.gi,hb,hK _ h.kg,⟨S1,q1,q2.keep (fun _ _=>rfl) hK,q3⟩,h.ly.keep (fun _ _=>rfl) hK,h.ks,h.ct⟩
theorem PB.uY(h:PB K w g S2 p):g<w.heap.size:=(h.kb _ h.kg).2
theorem PB.below(h:PB K w g S2 p)(hb:Below w.heap.size w w'):PB K w' g S2 p:=by
 obtain ⟨S1,q1,q2,q3⟩:=h.bx
 refine ⟨⟨h.gi.1.keep fun k hk=>hb.block k (Nat.lt_of_lt_of_le hk h.gi.2),Nat.le_trans h.gi.2 hb.size⟩,fun b hk=>⟨(h.kb b hk).1,Nat.lt_of_lt_of_le (h.kb b hk).2 hb.size⟩,h.kg,⟨S1,q1.below hb h.uY,?_,q3⟩,?_,h.ks,h.ct⟩
 ·exact q2.keep (fun b ho=>hb.block b (q2.out ho).2.2) fun _ h=>h
 ·exact h.ly.keep (fun b ho=>hb.block b (h.ly.out ho).2.2) fun _ h=>h
theorem PB.cells(h:PB K w g S2 p): ∃S1 a n cap,S1= .slice a n cap/\n=p.core.cells.length/\n<=cap/\cap<=maxLen/\w.cell? ⟨g,0,none⟩=some (.string p.core.kind)/\w.cell? ⟨g,1,none⟩=some (.bool p.core.on)/\w.cell? ⟨g,2,none⟩=some (.bool p.core.broken)/\w.cell? ⟨g,3,none⟩=some S1/\w.cell? ⟨g,4,none⟩=some (.int .i64 p.core.count)/\w.cell? ⟨g,5,none⟩=some S2 /\
  (∀i,w.frozen? ⟨g,i,none⟩=false)/\cB K w g S1 (dc p.core.cells)/\ ∀b,bM S1 b-> ¬bM S2 b:=by
 obtain ⟨S1,q1,q2,q3⟩:=h.bx
 obtain ⟨a,cap,e,z1,z2⟩:=q2.ou
 rw [vY] at e z1
 exact ⟨S1,a,_,cap,e,rfl,z1,z2,by rw [q1.cell];rfl,by rw [q1.cell];rfl,by rw [q1.cell];rfl,by rw [q1.cell];rfl,by rw [q1.cell];rfl,by rw [q1.cell];rfl,q1.frozen,q2,q3⟩
theorem Ad(h:kp w/\NG<=w.heap.size){q:Addr}{v:Value}(hq:NG<=q.block):kp (w.setCell q v)/\NG<=(w.setCell q v).heap.size:=by
 refine ⟨h.1.keep fun k hk=> ?_,by simpa using h.2⟩
 exact p8 (by omega)
theorem PB.set(h:PB K w g S2 p){i:Nat}{v:Value}{q:Part}(hl:q.af=p.af)(hks:q.core.kind.size<=maxLen)(hct:IntKind.i64.min<=q.core.count/\q.core.count<=IntKind.i64.max)
  (hbx: ∀S1,cB K w g S1 (dc p.core.cells)->(∀b,bM S1 b-> ¬bM S2 b)-> ∃lL,(#[Value.string p.core.kind,.bool p.core.on,.bool p.core.broken,S1,.int .i64 p.core.count,S2].setIfInBounds i v)= #[.string q.core.kind,.bool q.core.on,.bool q.core.broken,lL,.int .i64 q.core.count,S2]/\cB K w g lL (dc q.core.cells)/\ ∀b,bM lL b-> ¬bM S2 b) :
  PB K (w.setCell ⟨g,i,none⟩ v) g S2 q:=by
 obtain ⟨S1,q1,q2,q3⟩:=h.bx
 obtain ⟨lL,z1,z2,z3⟩:=hbx S1 q2 q3
 refine ⟨Ad h.gi (h.kb _ h.kg).1,fun b hb=>by have:=h.kb b hb;simpa using this,h.kg,⟨lL,by have:=q1.uj i v;rw [z1] at this;exact this,?_,z3⟩,?_,hks,hct⟩
 ·exact z2.keep (fun b ho=>p8 (z2.out ho).2.1) fun _ h=>h
 ·rw [hl];exact h.ly.keep (fun b ho=>p8 (h.ly.out ho).2.1) fun _ h=>h
theorem PB.BH(h:PB K w g S2 p)(b:Bool):PB K (w.setCell ⟨g,1,none⟩ (.bool b)) g S2 ⟨⟨p.core.kind,b,p.core.broken,p.core.cells,p.core.count⟩,p.af⟩ :=
 h.set rfl h.ks h.ct fun S1 q2 q3=>⟨S1,rfl,q2,q3⟩
theorem PB.Qf(h:PB K w g S2 p)(b:Bool):PB K (w.setCell ⟨g,2,none⟩ (.bool b)) g S2 ⟨⟨p.core.kind,p.core.on,b,p.core.cells,p.core.count⟩,p.af⟩ :=
 h.set rfl h.ks h.ct fun S1 q2 q3=>⟨S1,rfl,q2,q3⟩
theorem PB.IJ(h:PB K w g S2 p)(n:Int)(hn:IntKind.i64.min<=n/\n<=IntKind.i64.max):PB K (w.setCell ⟨g,4,none⟩ (.int .i64 n)) g S2 ⟨⟨p.core.kind,p.core.on,p.core.broken,p.core.cells,n⟩,p.af⟩ :=
 h.set rfl h.ks hn fun S1 q2 q3=>⟨S1,rfl,q2,q3⟩
theorem PB.setCells(h:PB K w g S2 p){S1:Value}{l:List Cell}(hr:cB K w g S1 (dc l))(ha: ∀b,bM S1 b-> ¬bM S2 b):PB K (w.setCell ⟨g,3,none⟩ S1) g S2 ⟨⟨p.core.kind,p.core.on,p.core.broken,l,p.core.count⟩,p.af⟩ :=
 h.set rfl h.ks h.ct fun S0 q2 q3=>⟨S1,rfl,hr,ha⟩
theorem PB.abv(h:PB K w g S2 p){b o n cap i:Nat}{s:Option Nat}(hc:w.cell? ⟨g,3,none⟩=some (.slice (some ⟨b,o,s⟩) n cap))(hi:i<p.core.cells.length){v:Int}(hv:IntKind.i64.min<=v/\v<=IntKind.i64.max) :
  PB K (w.setCell ⟨b,o+i*2+1,none⟩ (.int .i64 v)) g S2 ⟨⟨p.core.kind,p.core.on,p.core.broken,p.core.cells.set i ⟨(nth p.core.cells i).key,v⟩,p.core.count⟩,p.af⟩:=by
 obtain ⟨S1,q1,q2,q3⟩:=h.bx
 have e:S1= .slice (some ⟨b,o,s⟩) n cap:=by
  rw [q1.cell] at hc
  simpa using hc
 subst e
 obtain ⟨a,cap',e,z1,z2⟩:=q2.ou
 have en:n=(dc p.core.cells).length:=by cases e;rfl
 subst en
 have hil:i<(dc p.core.cells).length:=by rw [vY];exact hi
 have eS:bM (.slice (some ⟨b,o,s⟩) (dc p.core.cells).length cap) b:=⟨o,s,_,cap,rfl,by cases e;omega⟩
 have hb:=q2.out eS
 have hput:=q2.put hil hv
 have hset:(dc p.core.cells).set i ((nth (dc p.core.cells) i).1,v)=dc (p.core.cells.set i ⟨(nth p.core.cells i).key,v⟩):=by
  rw [Pc hi]
  unfold dc
  rw [List.map_set]
 rw [hset] at hput
 refine ⟨Ad h.gi (h.kb _ hb.1).1,fun x hx=>by have:=h.kb x hx;simpa using this,h.kg,⟨_,q1.far (fun e=>hb.2.1 e.symm) _,hput,q3⟩,?_,h.ks,h.ct⟩
 exact h.ly.keep (fun x ho=>p8 (fun e=>q3 b eS (by have e:x=b:=e;rw [<-e];exact ho))) fun _ h=>h
theorem PB.Pj{b o n cap i:Nat}{s:Option Nat}(h:PB K w g (.slice (some ⟨b,o,s⟩) n cap) p)(hi:i<p.af.length){v:Int}(hv:IntKind.i64.min<=v/\v<=IntKind.i64.max) :
  PB K (w.setCell ⟨b,o+i*2+1,none⟩ (.int .i64 v)) g (.slice (some ⟨b,o,s⟩) n cap) ⟨p.core,p.af.set i ⟨(nth p.af i).name,v⟩⟩:=by
 obtain ⟨S1,q1,q2,q3⟩:=h.bx
 have nC:=h.ly
 obtain ⟨a,cap',e,z1,z2⟩:=nC.ou
 have en:n=(fX p.af).length:=by cases e;rfl
 subst en
 have hil:i<(fX p.af).length:=by rw [oz];exact hi
 have eS:bM (.slice (some ⟨b,o,s⟩) (fX p.af).length cap) b:=⟨o,s,_,cap,rfl,by cases e;omega⟩
 have hb:=nC.out eS
 have hput:=nC.put hil hv
 have hset:(fX p.af).set i ((nth (fX p.af) i).1,v)=fX (p.af.set i ⟨(nth p.af i).name,v⟩):=by
  rw [Bz hi]
  unfold fX
  rw [List.map_set]
 rw [hset] at hput
 refine ⟨Ad h.gi (h.kb _ hb.1).1,fun x hx=>by have:=h.kb x hx;simpa using this,h.kg,⟨S1,q1.far (fun e=>hb.2.1 e.symm) _,?_,q3⟩,hput,h.ks,h.ct⟩
 exact q2.keep (fun x ho=>p8 (fun e=>q3 x ho (by have e:x=b:=e;rw [e];exact eS))) fun _ h=>h
theorem PB.je(h:PB K w g S2 p):jU w (fun _=>False):=⟨fun _ h=>h.elim,h.gi.1,h.gi.2⟩
end
end
end
section
open Go.RowKit
theorem ZO{w w1:World}{p:Addr}{v:Value}(hb:Below w.heap.size w w1)(h:w.cell? p=some v):w1.cell? p=some v:=by
 rw [hb.cell (block_lt_of_cell h)];exact h
def jz:List (Addr×Value)->World->Prop
 | [],_=>True
 | p::r,w=>w.cell? p.1=some p.2/\jz r w
theorem jz.keep{w w1:World}(hb:Below w.heap.size w w1): ∀{L:List (Addr×Value)},jz L w->jz L w1
 | [],_=>trivial
 | _::_,h=>⟨ZO hb h.1,jz.keep hb h.2⟩
theorem jz.drew{w:World}: ∀{L:List (Addr×Value)},jz L w->jz L w.drew
 | [],_=>trivial
 | _::_,h=>⟨h.1,jz.drew h.2⟩
def jS(w0:World)(L:List (Addr×Value))(w:World):Prop:=Below w0.heap.size w0 w/\jz L w
theorem jS.start{w0 w:World}{L:List (Addr×Value)}(h:Below w0.heap.size w0 w)(hc:jz L w):jS w0 L w.drew:=⟨h.drew,hc.drew⟩
section
variable {P:Program}{o:Oper}{a:Act}{C:World->Prop}{K:Act->Prop}
theorem Ea{v:Value}(h: ∀w,C w->(execOp a.eval o).run P w= .ok (.value v) w)(hK:K (a.put o.dst v)):o.quiet P a C K :=
 ⟨v,fun w hw=>by unfold Oper.quietAt;rw [h w hw];exact ⟨rfl,rfl⟩,hK⟩
theorem Ed{id:Nat}{Q:Exit->Act->World->Prop}{w:World}{l:List Oper}{C:World->Prop}(hm:P.follows .mixedOrders=true)(hB:Region.lexB .any l.toArray=true)(hC:C w.drew)
  (h:wpQuiet P l.toArray C (fun a'=> ∀w',C w'->Q .normal a' w') l a):(Code.region id l.toArray true).wp P Q a w :=
 wp_region_quiet (C:=C) hm hB hC (by simpa using h)
end
end
end Go.Proofs.YtimickglpboilaaGreatDoor
