/- Contracts of the laws' helpers that write marks into memory of one's own, walked by hand, whatever the package's variables hold; and of those that look for them. -/
import Derived.Test.YtimickglpboilaaGreatDoorF11
import Derived.Test.YtimickglpboilaaGreatDoorF12
set_option linter.unusedVariables false
set_option linter.unusedSimpArgs false
set_option maxRecDepth 100000
set_option linter.unusedSectionVars false
namespace Go.Proofs.YtimickglpboilaaGreatDoor
section
open Go.RowKit Go
variable [GC]
def Zh(r:D):Prop:= ∃s:ByteArray,r= .str s
structure Jz where
 s:ByteArray
 n:Int
theorem Wi(k:Int)(hk:k<=1152921504606846976): ∃r,Zh r/\aG Tryz.prog 49 none [.int .i64 k] r []:=by
 refine aG.tz agN rfl aeA ⟨rfl,trivial⟩ (.str ⟨#[]⟩) ⟨_,rfl⟩ fun hfit=> ?_;unfold Ry
 refine aL (fun _=>⟨⟨_,rfl⟩,rfl⟩) (fun h=> ?_)
 simp only [E.den,aa,aj,ak] at h
 have h:0<k:=by simpa using h
 refine CM Jz (fun s=>[.str s.s,.int .i64 s.n]) (fun s=>0<=s.n/\(s.s.size:Int)+s.n<=k) (fun s=>s.n.toNat) ⟨⟨#[]⟩,k⟩ (fun s s' h=>by simp at h;rw [h.2]) rfl ⟨by simp only;omega,by simp [ByteArray.size]⟩ ?_
 rintro ⟨s,n⟩ ⟨hn,hs⟩ _
 simp only at hn hs
 simp only [cA]
 refine aL (fun h2=> ?_) (fun h2=> ?_)
 ·simp only [E.den,aa,aj,ak] at h2
  have h2:0<n:=by simpa using h2
  refine bH (fun _=> ?_) (bH (fun _=> ?_) (bH (fun _=> ?_) ?_))
  ·simp [E.den,bb]
  ·simp only [E.den,aa,aj,ak]
   simp only [s9,strOfNums_size,List.length_map,D.wN,List.length_cons,List.length_nil,List.append_nil,List.nil_append]
   simp only [D.bool.injEq,decide_eq_true_eq]
   unfold maxLen;omega
  ·simp [E.den,bb]
  have hq:cP .quo .i64 n 10=n/10:=by
   show IntKind.i64.wrap (n.tdiv 10)=_
   rw [Int.tdiv_eq_ediv_of_nonneg (by omega),wrap_i64 (by omega) (by omega)]
  refine Fz (s':=(⟨s9 (.sl [[.int .u8 (IntKind.u8.wrap (cP .add .i64 48 (cP .rem .i64 n 10)))]])++s,n/10⟩:Jz)) ?_ ⟨?_,?_⟩ ?_
  ·simp only [E.den,aa,aj,ak]
   rw [hq]
  ·simp only;omega
  ·simp only [ByteArray.size_append,s9,strOfNums_size,List.length_map,D.wN,List.length_cons,List.length_nil,List.append_nil,List.nil_append]
   omega
  ·simp only;omega
 ·refine bH (fun _=> ?_) ⟨⟨_,rfl⟩,rfl⟩
  simp only [E.den,aa,aj,ak]
  simp only [D.bool.injEq,decide_eq_true_eq]
  have:(⟨#[109]⟩:ByteArray).size=1:=rfl
  unfold maxLen;omega
open Classical in
noncomputable def ow(k:Nat):ByteArray:=if h: ∃s:ByteArray,aG Tryz.prog 49 none [.int .i64 k] (.str s) [] then h.choose else ⟨#[]⟩
theorem Fl(k:Nat)(hk:k<=1152921504606846976):aG Tryz.prog 49 none [.int .i64 k] (.str (ow k)) []:=by
 have h: ∃s:ByteArray,aG Tryz.prog 49 none [.int .i64 k] (.str s) []:=by
  obtain ⟨r,⟨s,rfl⟩,h⟩:=Wi k (by omega)
  exact ⟨s,h⟩
 unfold ow
 rw [dif_pos h]
 exact h.choose_spec
theorem NA:IntKind.i64.min= -9223372036854775808:=rfl
theorem Nz:IntKind.i64.max=9223372036854775807:=rfl
theorem Be{w:World}{M:Addr->Prop}{n:Int}(h1: -9223372036854775808<=n)(h2:n<=9223372036854775807):R w M (.int .i64 n) (.int .i64 n) :=
 ⟨rfl,by rw [NA];exact h1,by rw [Nz];exact h2⟩
def Rd(w:World):Prop:=jU w (fun _=>False)
theorem Rd.alt{A:Addr->Prop}{w w':World}(h:Rd w)(ha:Alt A w w')(hA: ∀p,A p->NG<=p.block):Rd w' :=
 ⟨fun _ h=>h.elim,h.2.1.keep fun k hk=>ha.blk k (Nat.lt_of_lt_of_le hk h.2.2) fun p hp hq=>by have:=hA p hq;omega,Nat.le_trans h.2.2 ha.size⟩
theorem Rd.below{w w':World}(h:Rd w)(hb:Below w.heap.size w w'):Rd w':=jU.below h hb fun _ h=>h.elim
theorem SI(k:Nat)(hk:k<=1152921504606846976)(w:World)(hG:Rd w):Calls Tryz.prog 49 #[.int .i64 k] w fun e w'=>e= .returned (.string (ow k))/\(ow k).size<=maxLen/\Below w.heap.size w w':=by
 have h:=aG.calls (Fl k hk) hG (vs:=[.int .i64 k]) ⟨_,[],rfl,Be (by omega) (by omega),rfl⟩
 refine h.mono ?_
 rintro e w' ⟨v,rfl,⟨rfl,hs⟩,hb⟩
 exact ⟨rfl,hs,hb⟩
def Flat(w:World)(M:Addr->Prop)(n:Nat)(rows:List (List D))(v:Value):Prop:=R w M (.sl rows) v/\(∀r∈rows,r.length=n)/\ ∀r∈rows,∀d∈r,yT d=true
theorem Flat.keep{w w':World}{M:Addr->Prop}{n:Nat}{rows:List (List D)}{v:Value}(h:Flat w M n rows v)(hb:Below w.heap.size w w'):Flat w' M n rows v:=⟨R.keep (bo.below hb fun _ _ h=>h) _ _ h.1,h.2⟩
theorem Ep{α:Type}{p:α->Prop}{l:List α}{i:Nat}{x:α}(h: ∀r∈l,p r)(hx:p x): ∀r∈l.set i x,p r:=fun r hr=>by
 rcases List.mem_or_eq_of_mem_set hr with h1|rfl
 ·exact h r h1
 ·exact hx
theorem Flat.Pk{w:World}{M:Addr->Prop}{n b o len cap i j:Nat}{rows:List (List D)}{r:List D}{t s:ByteArray}(h:Flat w M n rows (.slice (some ⟨b,o,none⟩) len cap))(hi:rows[i]? =some r)(hj:r[j]? =some (.str t))(hs:s.size<=maxLen) :
  w.cell? ⟨b,o+i*n+j,none⟩=some (.string t)/\ ¬M ⟨b,o+i*n+j,none⟩/\Flat (w.setCell ⟨b,o+i*n+j,none⟩ (.string s)) M n (rows.set i (r.set j (.str s))) (.slice (some ⟨b,o,none⟩) len cap)/\Alt (fun p=> ¬M p) w (w.setCell ⟨b,o+i*n+j,none⟩ (.string s)):=by
 obtain ⟨u,c1,c2,c3⟩:=tC h.2.1 h.1 hi hj
 have hu:u= .string t:=c3.1
 subst hu
 have hr:=h.2.1 r (List.mem_of_getElem? hi)
 have hjn:j<n:=by rw [<-hr];exact (List.getElem?_eq_some_iff.1 hj).1
 refine ⟨c1,c2,⟨LY h.2.1 h.2.2 h.1 hi hjn fun _ _=>⟨rfl,hs⟩,Ep h.2.1 (by simpa using hr),Ep h.2.2 fun d hd=> ?_⟩,Alt.set (A:=fun p=> ¬M p) c2 c1 (.inr (.inl ⟨_,_,rfl,rfl,hs⟩))⟩
 rcases List.mem_or_eq_of_mem_set hd with h1|rfl
 ·exact h.2.2 r (List.mem_of_getElem? hi) d h1
 ·rfl
theorem Flat.Ph{w:World}{M:Addr->Prop}{n b o len cap i j:Nat}{rows:List (List D)}{r:List D}{t x:Int}(h:Flat w M n rows (.slice (some ⟨b,o,none⟩) len cap))(hi:rows[i]? =some r)(hj:r[j]? =some (.int .i64 t))(h1: -9223372036854775808<=x)(h2:x<=9223372036854775807) :
  w.cell? ⟨b,o+i*n+j,none⟩=some (.int .i64 t)/\ ¬M ⟨b,o+i*n+j,none⟩/\Flat (w.setCell ⟨b,o+i*n+j,none⟩ (.int .i64 x)) M n (rows.set i (r.set j (.int .i64 x))) (.slice (some ⟨b,o,none⟩) len cap)/\Alt (fun p=> ¬M p) w (w.setCell ⟨b,o+i*n+j,none⟩ (.int .i64 x)):=by
 obtain ⟨u,c1,c2,c3⟩:=tC h.2.1 h.1 hi hj
 have hu:u= .int .i64 t:=c3.1
 subst hu
 have hr:=h.2.1 r (List.mem_of_getElem? hi)
 have hjn:j<n:=by rw [<-hr];exact (List.getElem?_eq_some_iff.1 hj).1
 refine ⟨c1,c2,⟨LY h.2.1 h.2.2 h.1 hi hjn fun _ _=>Be h1 h2,Ep h.2.1 (by simpa using hr),Ep h.2.2 fun d hd=> ?_⟩,Alt.set (A:=fun p=> ¬M p) c2 c1 (.inr (.inr ⟨_,_,_,rfl,rfl,by rw [NA];exact h1,by rw [Nz];exact h2⟩))⟩
 rcases List.mem_or_eq_of_mem_set hd with h3|rfl
 ·exact h.2.2 r (List.mem_of_getElem? hi) d h3
 ·rfl
theorem Dg{A M:Addr->Prop}{w w':World}{p:Addr}(h:Alt A w w')(hF: ∀p,w.frozen? p=true->M p)(hp: ¬M p)(hb:p.block<w.heap.size):w'.frozen? p=false:=by
 rw [h.xP p hb]
 cases hf:w.frozen? p with
 | false=>rfl
 | true=>exact absurd (hF p hf) hp
theorem Qh{α:Type}{l:List α}{i:Nat}{r x:α}(h:l[i]? =some r):(l.set i x)[i]? =some x:=List.getElem?_set_self (List.getElem?_eq_some_iff.1 h).1
end
section
open Go.RowKit Go
variable [GC]
noncomputable def j0(k:Nat)(l:List fZ)(i:Nat):List (List D):=iR l.length fun a=>if a<i then [.str (ow (k+2*a)),.int .i64 ((k+2*a+1:Nat):Int)] else bC.cells (nth l a)
theorem aaH(k:Nat)(l:List fZ)(i:Nat):(∀r∈j0 k l i,r.length=2)/\ ∀r∈j0 k l i,∀d∈r,yT d=true:=by
 constructor
 ·intro r hr
  obtain ⟨a,_,rfl⟩:=uc hr
  split<;>rfl
 ·intro r hr d hd
  obtain ⟨a,_,rfl⟩:=uc hr
  split at hd
  ·simp at hd;rcases hd with rfl|rfl<;>rfl
  ·simp [jC] at hd;rcases hd with rfl|rfl<;>rfl
theorem aaJ(k:Nat)(l:List fZ):j0 k l 0=l.map bC.cells:=by
 rw [PI];exact Ej fun a _=>by simp
theorem aaI(k:Nat)(l:List fZ)(i:Nat):j0 k l (i+1)=(j0 k l i).set i [.str (ow (k+2*i)),.int .i64 ((k+2*i+1:Nat):Int)]:=by
 unfold j0
 rw [PJ]
 refine Ej fun a _=> ?_
 by_cases ha:a=i
 ·subst ha;simp
 ·have:a<i+1↔a<i:=by omega
  simp [ha,this]
theorem aaM(l:List fZ)(k:Nat)(w:World)(M:Addr->Prop)(v:Value)(hr:R w M (bg l) v)(hfr: ∀p,w.frozen? p=true->M p)(hG:Rd w)(hM: ∀p,¬M p->NG<=p.block)(hk:k+2*l.length<=1152921504606846970) :
  Calls Tryz.prog 45 #[v,.int .i64 k] w fun e w'=>e= .returned (.int .i64 ((k+2*l.length:Nat):Int))/\Alt (fun p=> ¬M p) w w'/\R w' M (.sl (j0 k l l.length)) v:=by
 obtain ⟨a,len,cap,hv,hlen,hlc,hcm,hno, -⟩:=(show R w M (.sl (l.map bC.cells)) v from hr)
 subst hv
 rw [List.length_map] at hlen
 subst hlen
 have Yn:(l.length:Int)<=1152921504606846976:=by omega
 have HR:=Lib.hid (show Flat w M 2 (j0 k l 0) (.slice a l.length cap) from ⟨by rw [aaJ];exact hr,aaH k l 0⟩)
 have HF:=Lib.hid hfr
 have HG:=Lib.hid hG
 have HM:=Lib.hid hM
 clear hr hfr hG hM
 go_enter Tryz.func45,Tryz.ntmps45
 go_wp2
 go_loopw [1,5] (fun kk ii wr=>Alt (fun p=> ¬M p) w wr/\ ∃i K:Nat,i<=l.length/\K=k+2*i/\kk= .int .i64 (K:Int)/\ii= .int .i64 (i:Int)/\Flat wr M 2 (j0 k l i) (.slice a l.length cap)) (fun _ ii _=>l.length-(intOf ii).toNat)
 case atStart=>exact ⟨Alt.refl _ _,0,k,by omega,rfl,rfl,rfl,HR.out⟩
 case round =>
  obtain ⟨hA,i,K,hi,hK,rfl,rfl,Aq⟩:=hrel
  have HA:=Lib.hid hA
  have uq:=Lib.hid Aq
  have HK:=Lib.hid hK
  clear hA Aq
  by_cases hlt:i<l.length
  ·obtain ⟨b,o,s,rfl⟩: ∃b o s,a=some ⟨b,o,s⟩:=by
    rcases a with _|⟨b,o,s⟩
    ·have:=hno rfl;omega
    ·exact ⟨b,o,s,rfl⟩
   have hs:s=none:=by
    obtain ⟨a',len',cap',e,q1,q2,q3,q4,q5⟩:=uq.out.1
    cases e
    exact (q5 b o s rfl).1 (by omega)
   subst hs
   have hi0:(0:Int)<=(i:Int):=by omega
   have hi1:(i:Int)<(l.length:Int):=by omega
   have hKb:K+2<=1152921504606846970:=by omega
   have Ay:b<w.heap.size:=by
    obtain ⟨u0,d1,_,_⟩:=tC HR.out.2.1 HR.out.1 (i:=i) (j:=0) (za hlt) (d:= .str (nth l i).name) (by rw [if_neg (by omega)];rfl)
    exact block_lt_of_cell d1
   have hrow:(j0 k l i)[i]? =some (bC.cells (nth l i)):=by
    unfold j0
    rw [za hlt,if_neg (by omega)]
   clear hK
   go_wp2_with fail
   refine (SI (K) (by omega) _ (HG.out.alt HA.out HM.out)).mono ?_
   rintro e w1 ⟨rfl,hsz,hb1⟩
   have G1:=uq.out.keep hb1
   have gh:=HA.out.trans (Alt.below hb1)
   obtain ⟨c0,n0,F0,A0⟩:=G1.Pk (j:=0) (s:=ow (K)) hrow rfl hsz
   have hf0:=Dg (gh) HF.out n0 Ay
   have pZ:=(gh).trans A0
   obtain ⟨c1,n1,F1,A1⟩:=F0.Ph (j:=1) (x:=((K+1:Nat):Int)) (Qh hrow) rfl (by omega) (by omega)
   have hf1:=Dg (pZ) HF.out n1 Ay
   have hA1:=(pZ).trans A1
   have zu:=Lib.hid hA1
   have zw:=Lib.hid F1
   rw [List.set_set] at zw
   clear F0 F1 A0 A1 pZ hA1 n0 n1 G1 gh hb1 hsz
   try simp only [Nat.add_zero,Int.natCast_add,Int.natCast_one] at c0 c1 hf0 hf1 zu
   go_wp2
   refine ⟨⟨zu.out,i+1,K+2,by omega,by have:=HK.out;omega,by go_num,by go_num,?_⟩,by simp [intOf];omega⟩
   have e:=HK.out
   subst e
   rw [aaI]
   exact zw.out
  ·go_wp2
   go_ret
   obtain rfl:i=l.length:=by omega
   subst hK
   exact ⟨rfl,HA.out,uq.out.1⟩
theorem UW(l:List fZ)(k:Nat)(hk:k+2*l.length<=1152921504606846970):aG Tryz.prog 47 none [.sl (j0 k l l.length),.int .i64 k] (.int .i64 ((k+2*l.length:Nat):Int)) []:=by
 refine aG.bV agL aew rfl ?_ (fun hfit=> ?_)
 ·refine ⟨?_,rfl,trivial⟩
  show dI _ (aD.tab _) _
  rw [IY]
  refine dI.of fun r hr=> ?_
  obtain ⟨a,ha,rfl⟩:=uc hr
  rw [if_pos ha];exact ⟨trivial,rfl,trivial⟩
 unfold Rv
 have jM:(j0 k l l.length).length=l.length:=PG _ _
 refine gJ l.length (fun i=>[.int .i64 ((k+2*i:Nat):Int),.int .i64 i]) (fun _=>True) rfl trivial ?_
 intro i hi _ _
 simp only [cA]
 refine aL (fun h2=> ?_) (fun h2=> ?_)
 ·simp only [E.den,aa,aj,ak,qg,jM] at h2
  have h2:i<l.length:=by simpa using h2
  have hrow:(j0 k l l.length)[i]? =some [.str (ow (k+2*i)),.int .i64 ((k+2*i+1:Nat):Int)]:=by
   unfold j0
   rw [za h2,if_pos h2]
  have e1:cP .add .i64 ((k+2*i:Nat):Int) 1=((k+2*i+1:Nat):Int):=eM (by omega) (by omega)
  have e2:cP .add .i64 ((k+2*i+1:Nat):Int) 1=((k+2*(i+1):Nat):Int):=by rw [eM (by omega) (by omega)];omega
  refine bH (fun _=> ?_) ?_
  ·simp only [E.den,aa,aj,ak,qg,jM];simp;omega
  (refine bD ?_ (Fl (k+2*i) (by omega)) (trivial) ?_;(focus (simp only [VC.den,E.den,aa,aP,and_true];try exact rfl));(simp only [cA]))
  refine aL (fun h3=> ?_) (fun h3=> ?_)
  ·simp only [E.den,aa,aj,ak,hrow,Option.getD_some] at h3
   simp at h3
  refine bH (fun _=> ?_) ?_
  ·simp only [E.den,aa,aj,ak,qg,jM];simp;omega
  refine aL (fun h3=> ?_) (fun h3=> ?_)
  ·simp only [E.den,aa,aj,ak,hrow,Option.getD_some,e1] at h3
   simp at h3
  refine fT h2 ?_ trivial
  simp only [E.den,aa,aj,ak,e1,e2]
  rw [eM (by omega) (by omega)];rfl
 ·simp only [E.den,aa,aj,ak,qg,jM] at h2
  obtain rfl:i=l.length:=by simp at h2;omega
  exact aK rfl
noncomputable def jt(k:Nat)(l:List Cell)(i:Nat):List (List D):=iR l.length fun a=>if a<i then [.str (ow (k+2*a)),.int .i64 ((k+2*a+1:Nat):Int)] else bC.cells (nth l a)
theorem aaE(k:Nat)(l:List Cell)(i:Nat):(∀r∈jt k l i,r.length=2)/\ ∀r∈jt k l i,∀d∈r,yT d=true:=by
 constructor
 ·intro r hr
  obtain ⟨a,_,rfl⟩:=uc hr
  split<;>rfl
 ·intro r hr d hd
  obtain ⟨a,_,rfl⟩:=uc hr
  split at hd
  ·simp at hd;rcases hd with rfl|rfl<;>rfl
  ·simp [dR] at hd;rcases hd with rfl|rfl<;>rfl
theorem aaG(k:Nat)(l:List Cell):jt k l 0=l.map bC.cells:=by
 rw [PI];exact Ej fun a _=>by simp
theorem aaF(k:Nat)(l:List Cell)(i:Nat):jt k l (i+1)=(jt k l i).set i [.str (ow (k+2*i)),.int .i64 ((k+2*i+1:Nat):Int)]:=by
 unfold jt
 rw [PJ]
 refine Ej fun a _=> ?_
 by_cases ha:a=i
 ·subst ha;simp
 ·have:a<i+1↔a<i:=by omega
  simp [ha,this]
theorem aaK(l:List Cell)(k:Nat)(w:World)(M:Addr->Prop)(v:Value)(hr:R w M (bg l) v)(hfr: ∀p,w.frozen? p=true->M p)(hG:Rd w)(hM: ∀p,¬M p->NG<=p.block)(hk:k+2*l.length<=1152921504606846970) :
  Calls Tryz.prog 77 #[v,.int .i64 k] w fun e w'=>e= .returned (.int .i64 ((k+2*l.length:Nat):Int))/\Alt (fun p=> ¬M p) w w'/\R w' M (.sl (jt k l l.length)) v:=by
 obtain ⟨a,len,cap,hv,hlen,hlc,hcm,hno, -⟩:=(show R w M (.sl (l.map bC.cells)) v from hr)
 subst hv
 rw [List.length_map] at hlen
 subst hlen
 have Yn:(l.length:Int)<=1152921504606846976:=by omega
 have HR:=Lib.hid (show Flat w M 2 (jt k l 0) (.slice a l.length cap) from ⟨by rw [aaG];exact hr,aaE k l 0⟩)
 have HF:=Lib.hid hfr
 have HG:=Lib.hid hG
 have HM:=Lib.hid hM
 clear hr hfr hG hM
 go_enter Tryz.func77,Tryz.ntmps77
 go_wp2
 go_loopw [1,5] (fun kk ii wr=>Alt (fun p=> ¬M p) w wr/\ ∃i K:Nat,i<=l.length/\K=k+2*i/\kk= .int .i64 (K:Int)/\ii= .int .i64 (i:Int)/\Flat wr M 2 (jt k l i) (.slice a l.length cap)) (fun _ ii _=>l.length-(intOf ii).toNat)
 case atStart=>exact ⟨Alt.refl _ _,0,k,by omega,rfl,rfl,rfl,HR.out⟩
 case round =>
  obtain ⟨hA,i,K,hi,hK,rfl,rfl,Aq⟩:=hrel
  have HA:=Lib.hid hA
  have uq:=Lib.hid Aq
  have HK:=Lib.hid hK
  clear hA Aq
  by_cases hlt:i<l.length
  ·obtain ⟨b,o,s,rfl⟩: ∃b o s,a=some ⟨b,o,s⟩:=by
    rcases a with _|⟨b,o,s⟩
    ·have:=hno rfl;omega
    ·exact ⟨b,o,s,rfl⟩
   have hs:s=none:=by
    obtain ⟨a',len',cap',e,q1,q2,q3,q4,q5⟩:=uq.out.1
    cases e
    exact (q5 b o s rfl).1 (by omega)
   subst hs
   have hi0:(0:Int)<=(i:Int):=by omega
   have hi1:(i:Int)<(l.length:Int):=by omega
   have hKb:K+2<=1152921504606846970:=by omega
   have Ay:b<w.heap.size:=by
    obtain ⟨u0,d1,_,_⟩:=tC HR.out.2.1 HR.out.1 (i:=i) (j:=0) (za hlt) (d:= .str (nth l i).key) (by rw [if_neg (by omega)];rfl)
    exact block_lt_of_cell d1
   have hrow:(jt k l i)[i]? =some (bC.cells (nth l i)):=by
    unfold jt
    rw [za hlt,if_neg (by omega)]
   clear hK
   go_wp2_with fail
   refine (SI (K) (by omega) _ (HG.out.alt HA.out HM.out)).mono ?_
   rintro e w1 ⟨rfl,hsz,hb1⟩
   have G1:=uq.out.keep hb1
   have gh:=HA.out.trans (Alt.below hb1)
   obtain ⟨c0,n0,F0,A0⟩:=G1.Pk (j:=0) (s:=ow (K)) hrow rfl hsz
   have hf0:=Dg (gh) HF.out n0 Ay
   have pZ:=(gh).trans A0
   obtain ⟨c1,n1,F1,A1⟩:=F0.Ph (j:=1) (x:=((K+1:Nat):Int)) (Qh hrow) rfl (by omega) (by omega)
   have hf1:=Dg (pZ) HF.out n1 Ay
   have hA1:=(pZ).trans A1
   have zu:=Lib.hid hA1
   have zw:=Lib.hid F1
   rw [List.set_set] at zw
   clear F0 F1 A0 A1 pZ hA1 n0 n1 G1 gh hb1 hsz
   try simp only [Nat.add_zero,Int.natCast_add,Int.natCast_one] at c0 c1 hf0 hf1 zu
   go_wp2
   refine ⟨⟨zu.out,i+1,K+2,by omega,by have:=HK.out;omega,by go_num,by go_num,?_⟩,by simp [intOf];omega⟩
   have e:=HK.out
   subst e
   rw [aaF]
   exact zw.out
  ·go_wp2
   go_ret
   obtain rfl:i=l.length:=by omega
   subst hK
   exact ⟨rfl,HA.out,uq.out.1⟩
theorem UT(l:List Cell)(k:Nat)(hk:k+2*l.length<=1152921504606846970):aG Tryz.prog 78 none [.sl (jt k l l.length),.int .i64 k] (.int .i64 ((k+2*l.length:Nat):Int)) []:=by
 refine aG.bV agJ aes rfl ?_ (fun hfit=> ?_)
 ·refine ⟨?_,rfl,trivial⟩
  show dI _ (aD.tab _) _
  rw [IX]
  refine dI.of fun r hr=> ?_
  obtain ⟨a,ha,rfl⟩:=uc hr
  rw [if_pos ha];exact ⟨trivial,rfl,trivial⟩
 unfold Rt
 have jM:(jt k l l.length).length=l.length:=PG _ _
 refine gJ l.length (fun i=>[.int .i64 ((k+2*i:Nat):Int),.int .i64 i]) (fun _=>True) rfl trivial ?_
 intro i hi _ _
 simp only [cA]
 refine aL (fun h2=> ?_) (fun h2=> ?_)
 ·simp only [E.den,aa,aj,ak,qg,jM] at h2
  have h2:i<l.length:=by simpa using h2
  have hrow:(jt k l l.length)[i]? =some [.str (ow (k+2*i)),.int .i64 ((k+2*i+1:Nat):Int)]:=by
   unfold jt
   rw [za h2,if_pos h2]
  have e1:cP .add .i64 ((k+2*i:Nat):Int) 1=((k+2*i+1:Nat):Int):=eM (by omega) (by omega)
  have e2:cP .add .i64 ((k+2*i+1:Nat):Int) 1=((k+2*(i+1):Nat):Int):=by rw [eM (by omega) (by omega)];omega
  refine bH (fun _=> ?_) ?_
  ·simp only [E.den,aa,aj,ak,qg,jM];simp;omega
  (refine bD ?_ (Fl (k+2*i) (by omega)) (trivial) ?_;(focus (simp only [VC.den,E.den,aa,aP,and_true];try exact rfl));(simp only [cA]))
  refine aL (fun h3=> ?_) (fun h3=> ?_)
  ·simp only [E.den,aa,aj,ak,hrow,Option.getD_some] at h3
   simp at h3
  refine bH (fun _=> ?_) ?_
  ·simp only [E.den,aa,aj,ak,qg,jM];simp;omega
  refine aL (fun h3=> ?_) (fun h3=> ?_)
  ·simp only [E.den,aa,aj,ak,hrow,Option.getD_some,e1] at h3
   simp at h3
  refine fT h2 ?_ trivial
  simp only [E.den,aa,aj,ak,e1,e2]
  rw [eM (by omega) (by omega)];rfl
 ·simp only [E.den,aa,aj,ak,qg,jM] at h2
  obtain rfl:i=l.length:=by simp at h2;omega
  exact aK rfl
end
end Go.Proofs.YtimickglpboilaaGreatDoor
