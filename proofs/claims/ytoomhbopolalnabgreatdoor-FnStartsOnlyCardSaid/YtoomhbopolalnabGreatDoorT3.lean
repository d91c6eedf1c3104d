/- Each operation does to a world what the executor says it does: arithmetic, slices, structs built, calls. No program in sight. -/
import Derived.Test.YtoomhbopolalnabGreatDoorT2
set_option linter.all false
namespace Go.Proofs.YtoomhbopolalnabGreatDoor
variable {M:Addr->Prop}{x y:Operand}{v:Value}
section
open Go.RowKit
variable [GC]
def aHS{k:IntKind}{a b:Int}(h1:k.min<=a)(h2:a<=k.max):k.min<=a.tmod b/\a.tmod b<=k.max:=by
 have e:k.min<=0/\0<=k.max:=by cases k<;>simp[IntKind.min,IntKind.max,IntKind.signed,IntKind.bits]
 have n:(a.tmod b).natAbs<=a.natAbs:=by rw[Int.natAbs_tmod];exact Nat.mod_le _ _
 by_cases h:0<=a
 ·have:=YW b h;omega
 ·have d:=YW b (show 0<= -a by omega);rw[Int.neg_tmod]at d;omega
def az5{k:IntKind}{a:Int}(n:Nat)(h1:k.min<=a)(h2:a<=k.max):k.min<=a.fdiv (2^n)/\a.fdiv (2^n)<=k.max:=by
 have f:k.min<=0/\0<=k.max:=by cases k<;>simp[IntKind.min,IntKind.max,IntKind.signed,IntKind.bits]
 have h:(0:Int)<2^n:=Int.pow_pos (by decide);rw[Int.fdiv_eq_ediv_of_nonneg _ (Int.le_of_lt h)];by_cases b:0<=a
 ·have d:=Int.ediv_nonneg b (Int.le_of_lt h);have e:=Int.ediv_le_self (2^n) b;omega
 ·have d:a<=a/2^n:=by rw[Int.le_ediv_iff_mul_le h];have:=Int.mul_le_mul_of_nonpos_left (show a<=0 by omega) (show(1:Int)<=2^n by omega);omega
  have e:a/2^n<0:=Int.ediv_neg_of_neg_of_pos (by omega) h;omega
section
variable {P:Program}{c:SC}{F:Nat->Prop}{σ:Nat->ST}{bm:Nat->Nat}{tm:Nat->Value}{a:Act}{w:World}{tb:TB}{Γ:List VT}{gs:Gd}
def Ko{op:BinOp}{T:Nat}{k b:IntKind}{m n:Int}:(eqGuard op T x y (.int k m) (.int b n)).run P w=.ok () w:=by cases op<;>simp[eqGuard]
def anG{op:BinOp}{T:Nat}{s t:ByteArray}:(eqGuard op T x y (.string s) (.string t)).run P w=.ok () w:=by cases op<;>simp[eqGuard]
def aiB:∀{a b d e:List D},a.length=b.length->mU (a++d) (b++e)=(mU a b&&mU d e)
 |[],[],_,_,_=>by simp[mU]
 |x::a,y::b,d,e,h=>by simp only[ia,mU,aiB (a:=a) (b:=b) (by simpa using h),Q9]
 |[],_::_,_,_,h=>by simp at h
 |_::_,[],_,_,h=>by simp at h
def anI{t:Nat}{d:TypeDesc}{ct:CT}(h:P.underlying t=some d)(hd:iI ct d){cs:Array Value}{off:Nat}{v:Value}(b:cs[off]? =some v):(part t cs off).run P w=.ok v w:=by simp[part,adF h hd,b]
def anJ{t:Nat}{f:Array Field}(h:P.underlying t=some (.struct f)){i:TypeInfo}(b:P.info? t=some i){cs:Array Value}{off:Nat}:(part t cs off).run P w=.ok (.agg (cs.extract off (off+i.size))) w:=by simp[part,anH h,run_sizeOf b]
def run_eq(A:cX P tb tb=true){M:Addr->Prop}:∀(d T:Nat) (ti:TI) (v:V1),FK P tb d T=true->tb.get T=some ti->ti.vt=.one v->∀(Y Z:D) (x y:Value),dH tb.tab v Y->dH tb.tab v Z->R w M Y x->R w M Z y->∀e,d<=e ->
  (Op.equalIn e T x y).run P w=.ok (match v with|.c _=>Js Y Z|.agg _=>mU Y.kZ Z.kZ) w
 |0,T,ti,v,h,_,_,_,_,_,_,_,_,_,_,_,_=>by simp[FK]at h
 |d+1,T,ti,v,h,Q,hv,Y,Z,x,y,hx,hy,rx,ry,e,he=>by
  obtain⟨e,rfl⟩:∃e',e=e'+1:=⟨e-1,by omega⟩;simp only[FK,Q,hv]at h;cases v with
  |c t=>
   obtain⟨_,d1,_,_,_,_,B,g⟩:=fX A Q hv;cases t with
   |mem=>exact g.elim
   |fn=>exact g.elim
   |sl el=>simp at h
   |bool=> obtain⟨a,rfl⟩:=yx hx;obtain⟨b,rfl⟩:=yx hy;simp only[R]at rx ry;subst rx ry;simp only[iI]at g;subst g;rw[Zy w e T a b B];rfl
   |int k=> obtain⟨a,rfl⟩:=zS hx;obtain⟨b,rfl⟩:=zS hy;obtain⟨rfl,_⟩:=rx;obtain⟨rfl,_⟩:=ry;simp only[iI]at g;subst g;rw[run_equalIn_int w e T k k a b B];rfl
   |str=> obtain⟨a,rfl⟩:=Dw hx;obtain⟨b,rfl⟩:=Dw hy;obtain⟨rfl,_⟩:=rx;obtain⟨rfl,_⟩:=ry;simp only[iI]at g;subst g;rw[run_equalIn_string w e T a b B];rfl
  |agg ts=>
   simp only[aX,qi,fH]at h;obtain⟨⟨⟨h1,h2⟩,h3⟩,h4⟩:=h;obtain⟨i,fields,z,hi,hsz,_,_,_,hu,hfo⟩:=pX A Q hv;obtain⟨l,rfl,hl⟩:=lV hx;obtain⟨m,rfl,hm⟩:=lV hy;obtain⟨xs,rfl,hxs⟩:=rx;obtain⟨ys,rfl,hys⟩:=ry;have S:P.fieldsOf T=fields:=by simp[Program.fieldsOf,hu]
   rw[run_equalIn_struct w e T xs ys (by rw[S];exact hu) h1,S];rw[S]at h2;have key:∀(fs:List (Nat×Nat)) (L:List Field) (o:Nat),uu tb fs L=true->(∀f∈L,(f.name== "_")=false)->(∀q∈fs,FK P tb d q.2=true)->Bg tb o (ts.drop o) fs=true->(Op.eqFields e xs ys L).run P w=.ok (mU (l.drop o) (m.drop o)) w:=by
    have hll:=hl.length;have kr:=hm.length;intro fs;induction fs with
    |nil=>
     intro L o u _ _ n;cases L with
     |nil=>
      simp only[Bg,List.isEmpty_iff]at n;have:ts.length<=o:=by simpa using n
      rw[Iv (by omega),Iv (by omega)];simp[Op.eqFields,mU]
     |cons _ _=>simp[uu]at u
    |cons q r ih=>
     intro L o u hnm heq n;obtain⟨o',ft⟩:=q;cases L with
     |nil=>simp[uu]at u
     |cons f L=>
      simp only[uu,aX,vf]at u;obtain⟨⟨⟨q1,q2⟩,q3⟩,q4⟩:=u;simp only[Bg,aX]at n;obtain⟨hb,n⟩:=n;have:o=o':=gI hb;subst this;split at n
      ·rename_i fi C;simp only[aX,du]at n;obtain⟨U,n⟩:=n;rw[C9]at n;have H:=ih L (o+fi.cells.length) q4 (fun f' hf'=>hnm f' (by simp[hf'])) (fun q hq=>heq q (by simp[hq])) n;rw[C]at q3;simp only at q3;split at q3
       ·rename_i v1 G;have hcl:fi.cells=v1.cells:=by simp[TI.cells,G]
        rw[hcl]at H U;have hle:o+v1.cells.length<=ts.length\/v1.cells.length=0:=by have:=congrArg List.length U;simp at this;omega
        have hne:f.name≠ "_" :=fun e'=>by have:=hnm f (by simp);rw[e']at this;simp at this
        have O:=heq (o,ft) (by simp);have N:mU (l.drop o) (m.drop o)=(mU ((l.drop o).take v1.cells.length) ((m.drop o).take v1.cells.length)&&mU (l.drop (o+v1.cells.length)) (m.drop (o+v1.cells.length))):=by rw[<-aiB (by simp;omega)];rw[<-C9, <-C9,Db,Db]
        have p:=(hl.drop o).take v1.cells.length;have s:=(hm.drop o).take v1.cells.length;rw[U]at p s;have I:=(hxs.drop o).take v1.cells.length;have J:=(hys.drop o).take v1.cells.length;obtain⟨j,hj,hjs,_⟩:=tH A C G;have V:∃(W X:Value),(part f.type xs f.offset).run P w=.ok W w/\(part f.type ys f.offset).run P w=.ok X w/\(Op.equalIn e ft W X).run P w=.ok (mU ((l.drop o).take v1.cells.length) ((m.drop o).take v1.cells.length)) w:=by
         rw[<-q1, <-q2];cases v1 with
         |c t=>
          obtain⟨_,d1,_,_,_,_,B,g⟩:=fX A C G;simp only[V1.cells]at p s I J ⊢;generalize (l.drop o).take [t].length=la at p I ⊢;generalize (m.drop o).take [t].length=lb at s J ⊢;cases la with
          |nil=>simp[bD]at p
          |cons ea ra=>
           cases lb with
           |nil=>simp[bD]at s
           |cons eb rb=>
            simp only[bD]at p s;have hra:ra=[]:=by cases ra with|nil=>rfl|cons _ _=>simp[bD]at p
            have hrb:rb=[]:=by cases rb with|nil=>rfl|cons _ _=>simp[bD]at s
            subst hra hrb;obtain⟨W,qx,hpx,aB9,_⟩:=I;obtain⟨X,qy,hpy,aCa,_⟩:=J;have hx0:xs[o]? =some W:=by have:=congrArg (fun l=>l[0]?) hpx;simpa using this
            have hy0:ys[o]? =some X:=by have:=congrArg (fun l=>l[0]?) hpy;simpa using this
            refine⟨W,X,anI B g hx0,anI B g hy0,?_⟩;have:=run_eq A d ft fi (.c t) O C G ea eb W X p.1 s.1 aB9 aCa e (by omega);simpa[mU]using this
         |agg us=>
          obtain⟨i',f',z',hi',yF,_,_,_,hu',_⟩:=pX A C G;simp only[V1.cells]at p s I J hle ⊢;have ex:∀zs:Array Value,(zs.extract o (o+i'.size)).toList=(zs.toList.drop o).take us.length:=fun zs=>by simp[yF,List.extract_eq_take_drop]
          refine⟨.agg (xs.extract o (o+i'.size)),.agg (ys.extract o (o+i'.size)),anJ hu' hi',anJ hu' hi',?_⟩;exact run_eq A d ft fi (.agg us) O C G (.agg _) (.agg _) _ _ p s ⟨_,rfl,by rw[ex];exact I⟩ ⟨_,rfl,by rw[ex];exact J⟩ e (by omega)
        obtain⟨W,X,e1,e2,e4⟩:=V;simp only[Op.eqFields,aC hne,lS,e1,e2,uZ];rw[<-q2,e4];simp only[uZ,N];cases mU ((l.drop o).take v1.cells.length) ((m.drop o).take v1.cells.length)with
        |true=>simp[H]
        |false=>simp
       ·simp at q3
      ·simp at n
   have:=key ti.fs fields.toList 0 hfo (fun f hf=>by simpa using h2 f hf) h3 (by simpa using h4);simpa using this
def azV(x:cX P tb tb=true){T:Nat}{ti:TI}(t:tb.get T=some ti){s:List CT}(v:ti.vt=.one (.agg s))(e:ti.eq=true):FK P tb 8 T=true/\P.eqGuardType P.depth T=false:=by
 have h:=Ps x t;simp only[Kv,v]at h;split at h
 ·simp at h
 ·simp only[aX,jM,qi]at h;have b:=h.2;rw[e]at b;simpa using b
def aGz(N:cX P tb tb=true)(u:aN c F σ bm tm a w)(d:bV tb.tab Γ c.env){n:Nat}{o:Oper}{x y:Operand}{T T':Nat}{op:BinOp}(ho:o.op=.binOp op T x y T'){U:bq}
  (h:aaq tb.tab Γ gs o.dst op (tb.get T) (aY tb σ T x) (aY tb σ T y)=some U):jX P c F gs σ bm tm a w n o U:=by
 unfold aaq at h;split at h
 ·rename_i b L e V C G;split at h
  ·rename_i k l j r;split at h
   ·rename_i p;simp only[aS]at h;subst h;refine⟨_,rfl,rfl,fun g b=>by simp[cE,K.has]at b,fun b W=> ?_⟩;have f:jL P c.env n (.cond gs (.ic .geq V (.li l 0))):=W _ (by simp);replace f:=f b;obtain⟨m,s,v,z,A⟩:=nP d j ((dN u C).1 b);obtain⟨q,t,e,B,O⟩:=nP d r ((dN u G).1 b);simp[E.den,t,bg]at f;have X:¬q<0:=by omega
    rcases p with rfl|rfl
    ·refine⟨.int k (dL .shl k m q),w,?_,dQ _ _,fj b ?_⟩
     ·simp[execOp,ho,v,e,Ko,binOp,Op.shift,X,dL]
     ·simp only[cB,E.den,s,t,gQ,R];exact⟨trivial,IV _ _⟩
    ·refine⟨.int k (dL .shr k m q),w,?_,dQ _ _,fj b ?_⟩
     ·simp[execOp,ho,v,e,Ko,binOp,Op.shift,X,dL]
     ·simp only[cB,E.den,s,t,gQ,R];exact⟨trivial,az5 _ z A⟩
   ·rename_i H;split at h
    ·simp at h
    ·rename_i Q;have Q:k=l:=by simpa using Q
     subst Q;split at h
     ·rename_i p;simp only[aS]at h;subst h;refine⟨_,rfl,rfl,fun g b=>by simp[cE,K.has]at b,fun b _=> ?_⟩;obtain⟨m,s,v,z,A⟩:=nP d j ((dN u C).1 b);obtain⟨q,t,e,B,O⟩:=nP d r ((dN u G).1 b);refine⟨.int k (dL op k m q),w,?_,dQ _ _,fj b ?_⟩
      ·cases op<;>simp[JY]at p<;>simp[execOp,ho,v,e,Ko,binOp,Op.intArith,Op.intBits,dL]
      ·simp only[cB,E.den,s,t,gQ,R];refine⟨trivial,?_⟩;cases op<;>simp[JY]at p<;>exact IV _ _
     ·split at h
      ·rename_i p;simp only[aS]at h;subst h;refine⟨_,rfl,rfl,fun g b=>by simp[cE,K.has]at b,fun b _=> ?_⟩;obtain⟨m,s,v,z,A⟩:=nP d j ((dN u C).1 b);obtain⟨q,t,e,B,O⟩:=nP d r ((dN u G).1 b);refine⟨.bool (bg op m q),w,?_,dQ _ _,fj b ?_⟩
       ·cases op<;>simp[Gt]at p<;>simp[execOp,ho,v,e,Ko,binOp,Op.intCmp,bg]
       ·simp only[cB,E.den,s,t,gQ,R]
      ·split at h
       ·rename_i p;simp only[aS]at h;subst h;refine⟨_,rfl,rfl,fun g b=>by simp[cE,K.has]at b,fun b W=> ?_⟩;have f:jL P c.env n (.cond gs (.ic .neq V (.li k 0))):=W _ (by simp);replace f:=f b;obtain⟨m,s,v,z,A⟩:=nP d j ((dN u C).1 b);obtain⟨q,t,e,B,O⟩:=nP d r ((dN u G).1 b);simp[E.den,t,bg]at f;rcases p with rfl|rfl
        ·refine⟨.int k (dL .quo k m q),w,?_,dQ _ _,fj b ?_⟩
         ·simp[execOp,ho,v,e,Ko,binOp,Op.intDiv,f,dL]
         ·simp only[cB,E.den,s,t,gQ,R];exact⟨trivial,IV _ _⟩
        ·refine⟨.int k (dL .rem k m q),w,?_,dQ _ _,fj b ?_⟩
         ·simp[execOp,ho,v,e,Ko,binOp,Op.intDiv,f,dL]
         ·simp only[cB,E.den,s,t,gQ,R];exact⟨trivial,aHS z A⟩
       ·simp at h
  ·rename_i j r;split at h
   ·rename_i p;simp only[aS]at h;subst h;refine⟨_,rfl,rfl,fun g b=>by simp[cE,K.has]at b,fun b _=> ?_⟩;obtain⟨m,s,v,z⟩:=FP d j ((dN u C).1 b);obtain⟨q,t,e,B⟩:=FP d r ((dN u G).1 b);refine⟨.bool (gx op m q),w,?_,dQ _ _,fj b ?_⟩
    ·cases op<;>simp[Gt]at p<;>simp[execOp,ho,v,e,anG,binOp,Op.stringOp,gx]
    ·simp only[cB,E.den,s,t,zr,R]
   ·split at h
    ·rename_i p;subst p;simp only[aS]at h;subst h;refine⟨_,rfl,rfl,fun g b=>by simp[cE,K.has]at b,fun b W=> ?_⟩;have f:jL P c.env n (.cond gs (.uK L V)):=W _ (by simp);replace f:=f b;obtain⟨m,s,v,z⟩:=FP d j ((dN u C).1 b);obtain⟨q,t,e,B⟩:=FP d r ((dN u G).1 b);simp[E.den,s,t]at f;have l:¬(IntKind.i64.max<(m.size:Int)+(q.size:Int)):=by have:=Wk f;omega
     refine⟨.string (m++q),w,?_,dQ _ _,fj b ?_⟩
     ·simp[execOp,ho,v,e,anG,binOp,Op.stringOp,l];unfold maxLen at f;omega
     ·simp only[cB,E.den,s,t,zr,R,A5];exact⟨trivial,f⟩
    ·simp at h
  ·rename_i W O j r;split at h
   ·rename_i i H;split at h
    ·rename_i l;obtain⟨f,S,Y⟩:=l;obtain⟨heq,Z⟩:=azV N H S f;have f:cP c.env gs->∃I J,a.eval x=.agg I/\a.eval y=.agg J/\∃q,(E.ae L V).den c.env=.bool q/\(Op.equalIn 10000 T (.agg I) (.agg J)).run P w=.ok q w:=by
      intro b;obtain⟨l,Q,z⟩:=lV (eG d L _ j);obtain⟨m,s,A⟩:=lV (eG d V _ r);have B:O=W:=by rw[S]at Y;simpa using Y.symm
      subst B;have B:=((dN u C).1 b).rd;have L:=((dN u G).1 b).rd;rw[Q]at B;rw[s]at L;have:=run_eq N 8 T i (.agg O) heq H S (.agg l) (.agg m) _ _ z A B L 10000 (by omega);obtain⟨I,l,_⟩:=B;obtain⟨J,z,_⟩:=L;rw[l,z]at this;exact⟨I,J,l,z,_,by simp[E.den,Q,s],this⟩
     split at h
     ·rename_i p;subst p;simp only[aS]at h;subst h;refine⟨_,rfl,rfl,fun g b=>by simp[cE,K.has]at b,fun b _=> ?_⟩;obtain⟨I,J,z,A,q,l,B⟩:=f b;refine⟨.bool q,w,?_,dQ _ _,fj b ?_⟩
      ·simp[execOp,ho,z,A,run_eqGuard_agg w .eql T x y I J Z,run_eql_struct,B]
      ·simp only[cB,l,R]
     ·split at h
      ·rename_i p;subst p;simp only[aS]at h;subst h;refine⟨_,rfl,rfl,fun g b=>by simp[cE,K.has]at b,fun b _=> ?_⟩;obtain⟨I,J,z,A,q,l,B⟩:=f b;refine⟨.bool (!q),w,?_,dQ _ _,fj b ?_⟩
       ·simp[execOp,ho,z,A,run_eqGuard_agg w .neq T x y I J Z,run_neq_struct,B]
       ·simp only[E.den,D.bool.injEq]at l;simp only[cB,E.den,l,AO,R]
      ·simp at h
    ·simp at h
   ·simp at h
  ·rename_i j r;split at h
   ·rename_i i H;split at h
    ·rename_i l;obtain⟨_,z,_,_,_,_,f,L⟩:=fX N H l;simp only[iI]at L;subst L;split at h
     ·rename_i p;subst p;simp only[aS]at h;subst h;refine⟨_,rfl,rfl,fun g b=>by simp[cE,K.has]at b,fun b _=> ?_⟩;obtain⟨m,s,v⟩:=Ds d j ((dN u C).1 b);obtain⟨q,t,e⟩:=Ds d r ((dN u G).1 b);refine⟨.bool (m==q),w,?_,dQ _ _,fj b ?_⟩
      ·simp[execOp,ho,v,e,eqGuard,binOp,Op.equal,Op.maxDepth,Zy w 9999 T m q f]
      ·simp only[cB,E.den,s,t,AO,R]
     ·split at h
      ·rename_i p;subst p;simp only[aS]at h;subst h;refine⟨_,rfl,rfl,fun g b=>by simp[cE,K.has]at b,fun b _=> ?_⟩;obtain⟨m,s,v⟩:=Ds d j ((dN u C).1 b);obtain⟨q,t,e⟩:=Ds d r ((dN u G).1 b);refine⟨.bool (!(m==q)),w,?_,dQ _ _,fj b ?_⟩
       ·simp[execOp,ho,v,e,eqGuard,binOp,Op.equal,Op.maxDepth,Zy w 9999 T m q f]
       ·simp only[cB,E.den,s,t,AO,R]
      ·simp at h
    ·simp at h
   ·simp at h
  ·simp at h
 ·simp at h
def jj.cut{m:Nat}{rows:List (List D)}{b o:Nat}(h:jj w M rows b o)(n:∀r∈rows,r.length=m)(l k:Nat):jj w M ((rows.drop l).take k) b (o+l*m):=by
 refine AZ (n:=m) (fun r d=>n r (Rl (Rm d))) fun i r d=> ?_;simp only[qk,yd]at d;split at d
 ·have:=h.get n d
  rwa[show o+(l+i)*m=o+l*m+i*m by rw[iK];omega]at this
 ·simp at d
def run_sliceBound{k:IntKind}{i:Int}(h:v=.int k i){y:Nat}{code:BoundsCode}(b:0<=i)(h1:i<=y):(Instr.sliceBound v y code).run P w=.ok i.toNat w:=by subst h;simp[Instr.sliceBound,asIntOf,b,h1]
def ZD{isS:Bool}{len cap:Nat}{lo i:Option Value}{l h:Int}(e:(lo=none/\l=0)\/∃k,lo=some (.int k l))(f:(i=none/\h=len)\/∃k,i=some (.int k h))(h1:0<=l)(h2:l<=h)(j:h<=len)(m:len<=cap) :
  (Instr.sliceBounds isS len cap lo i none).run P w=.ok (l.toNat,h.toNat,cap) w:=by
 have b:h<=(cap:Int):=by omega
 have d:0<=h:=by omega
 have n:((h.toNat:Nat):Int)=h:=by omega
 rcases e with⟨rfl,rfl⟩|⟨k,rfl⟩<;>rcases f with⟨rfl,rfl⟩|⟨g,rfl⟩
 ·simp[Instr.sliceBounds]
 ·simp[Instr.sliceBounds,run_sliceBound rfl d b]
 ·simp[Instr.sliceBounds,run_sliceBound (P:=P) (w:=w) (v:=.int k l) (y:=len) (code:=.sliceB) rfl h1 (by omega)]
 ·simp[Instr.sliceBounds,run_sliceBound (P:=P) (w:=w) (v:=.int g h) (y:=cap) (code:=if isS=true then .sliceAcap else .sliceAlen) rfl d b,run_sliceBound (P:=P) (w:=w) (v:=.int k l) (y:=h.toNat) (code:=.sliceB) rfl h1 (by omega)]
def anU(I:cX P tb tb=true)(hs:aN c F σ bm tm a w)(p:bV tb.tab Γ c.env){n:Nat}{o:Oper}{x:Operand}{lo U:Option Operand}{T:Nat}(ho:o.op=.slice T x lo U none){ti:TI}(V:tb.get T=some ti){W:bq}
  (h:TY tb Γ gs o.dst ti (aY tb σ T x) (lo.map (aY tb σ 0)) (U.map (aY tb σ 0))=some W):jX P c F gs σ bm tm a w n o W:=by
 unfold TY at h;split at h
 ·rename_i d ex e i l t;split at h
  ·rename_i d j v;split at h
   ·rename_i g;simp only[aS]at h;subst h;obtain⟨B,d,f,q,e⟩:=g;refine⟨_,rfl,rfl,fun g C=>by simp[cE,K.has]at C,fun C hr=> ?_⟩;have z:jL P c.env n (.cond gs (.inc ex i j)):=hr _ (by simp);replace z:=z C;have X:=(dN hs l).1 C;have hL:∃l:Int,(i.den c.env).cq=l/\((lo.map a.eval=none/\l=0)\/∃k,lo.map a.eval=some (.int k l)):=by
     cases lo with
     |none=>simp at t;obtain⟨_,rfl⟩:=t;exact⟨0,rfl,.inl ⟨rfl,rfl⟩⟩
     |some y=> simp only[j6]at t;obtain⟨kk,J⟩:=yJ d;obtain⟨m,d,L,_⟩:=nP p J ((dN hs t).1 C);exact⟨m,by simp[d],.inr ⟨kk,by simp[L]⟩⟩
    have N:∃l:Int,(j.den c.env).cq=l/\((U.map a.eval=none/\l=cG (ex.den c.env))\/∃k,U.map a.eval=some (.int k l)):=by
     cases U with
     |none=>simp at v;obtain⟨_,rfl⟩:=v;exact⟨_,rfl,.inl ⟨rfl,by simp[E.den]⟩⟩
     |some y=> simp only[j6]at v;obtain⟨kk,J⟩:=yJ f;obtain⟨m,d,L,_⟩:=nP p J ((dN hs v).1 C);exact⟨m,by simp[d],.inr ⟨kk,by simp[L]⟩⟩
    obtain⟨l,v,hL⟩:=hL;obtain⟨u,J,N⟩:=N;simp only[E.den,v,J,D.bool.injEq,du]at z;obtain⟨G,H,i⟩:=z;unfold Vl at q;split at q
    ·rename_i S;obtain⟨_,g,_,_,_,_,O,d⟩:=fX I V S;simp only[iI]at d;subst d;obtain⟨s,Y,f,j⟩:=FP p (by rw[B,S]) X;simp only[Y,cG]at i N;refine⟨.string (s.extract l.toNat u.toNat),w,?_,dQ _ _,fj C ?_⟩
     ·simp[execOp,ho,f,Instr.sliceAt,Instr.slice,run_underlying O,ZD hL N G H i (bM _)]
     ·simp only[cB,E.den,Y,v,J,qn,R];refine⟨trivial,?_⟩;rw[ByteArray.size_extract];omega
    ·rename_i z S;obtain⟨_,g,_,_,_,_,O,d⟩:=fX I V S;simp only[iI]at d;subst d;obtain⟨j,f,L,Z,len,cap,d,g,r,t,Q,A⟩:=FO p (by rw[B,S]) X;simp only[f,cG]at i N;rw[<-g]at i N;rw[S]at e;simp only[Wl]at e;split at e
     ·rename_i j g;split at e
      ·rename_i v1 t;obtain⟨j,S,B,_⟩:=tH I g t;have j:tb.tab z=v1.cells:=by simp[TB.tab,g,TI.cells,t]
       refine⟨.slice (if cap=l.toNat then Z else Z.map (·.add (l.toNat*v1.cells.length))) (u.toNat-l.toNat) (cap-l.toNat),w,?_,dQ _ _,fj C ?_⟩
       ·simp[execOp,ho,d,Instr.sliceAt,Instr.slice,run_underlying O,ZD hL N G H i r,run_sizeOf S,B]
       ·simp only[cB,E.den,f,v,J,qn,R];refine⟨_,_,_,rfl,by simp;omega,by omega,by omega,fun f=> ?_,fun b g s d=> ?_⟩
        ·rcases Z with _|Z
         ·have:=Q rfl;omega
         ·split at f
          ·cases f
          ·simp at f
        ·by_cases f:u.toNat-l.toNat=0
         ·rw[f,Rt];exact⟨fun h=>absurd h (by omega),trivial⟩
         ·have f:cap≠l.toNat:=by omega
          rw[aw f]at d;rcases Z with _|⟨b1,i,l⟩
          ·simp at d
          ·obtain⟨f,g⟩:=A b1 i l rfl;have:=f (by omega);subst this;simp only[j6,addr_add,aS,kC]at d;obtain⟨rfl,rfl,rfl⟩:=d;exact⟨fun _=>rfl,g.cut (fun r hr=>by rw[L.len r hr,j]) _ _⟩
      ·simp at e
     ·simp at e
    ·simp at q
   ·simp at h
  ·simp at h
 ·simp at h
end
section
variable {w:World}{M:Addr->Prop}
def aoe{α:Type}:∀(r l:List α) (i:Nat),i+r.length<=l.length->(nA l i r).take (i+r.length)=l.take i++r
 |[],l,i,_=>by simp[nA]
 |x::r,l,i,h=>by
  simp only[dR]at h;have:=aoe r (l.set i x) (i+1) (by simp;omega);simp only[nA,dR];rw[show i+(r.length+1)=i+1+r.length by omega,this];have b:(l.set i x).take (i+1)=l.take i++[x]:=by rw[Za (by simp;omega)];simp[List.take_set_of_le]
  rw[b];simp
def Bd{tab:Nat->List CT}{t:CT}{d:D}(g:cJ tab t d)(h:R w M d v):v.cells=#[v]/\v.oneCell'=true:=by
 cases t with
 |bool=>obtain⟨b,rfl⟩:=yx g;simp only[R]at h;subst h;exact⟨rfl,rfl⟩
 |int k=>obtain⟨n,rfl⟩:=zS g;obtain⟨rfl,_⟩:=h;exact⟨rfl,rfl⟩
 |str=>obtain⟨s,rfl⟩:=Dw g;obtain⟨rfl,_⟩:=h;exact⟨rfl,rfl⟩
 |sl e=>obtain⟨r,rfl,_⟩:=xh g;obtain⟨_,_,_,rfl,_⟩:=h;exact⟨rfl,rfl⟩
 |mem=>obtain⟨n,rfl⟩:=NE g;obtain⟨_,_,rfl,_⟩:=h;exact⟨rfl,rfl⟩
 |fn=>obtain⟨f,p,rfl⟩:=Uu g;obtain⟨_,rfl,_⟩:=h;exact⟨rfl,rfl⟩
def MU{tab:Nat->List CT}:∀{s:List CT} {l:List D} {vs:List Value},bD tab s l->Rs w M l vs->∀v∈vs,v.oneCell'=true
 |[],[],_,_,h,v,f=>by subst h;simp at f
 |t::s,d::ds,vs,b,⟨u,q,e,h1,h2⟩,v,f=>by
  subst e;simp only[bD]at b;rcases fI.1 f with rfl|f
  ·exact(Bd b.1 h1).2
  ·exact MU b.2 h2 v f
 |[],_::_,_,b,_,_,_=>by simp[bD]at b
 |_::_,[],_,b,_,_,_=>by simp[bD]at b
def ai3(off:Nat):∀(l:List Value) (k:Nat) (cs:Array Value),(l.zipIdx k).foldl (fun cs (x:Value×Nat)=>cs.setIfInBounds (off+x.2) x.1) cs=iF cs (off+k) l
 |[],_,_=>rfl
 |x::r,k,cs=>by simp only[List.zipIdx_cons,List.foldl_cons,iF];rw[ai3 off r (k+1)];rfl
def aAd(off:Nat)(v cs:Array Value):v.zipIdx.foldl (fun cs (x:Value×Nat)=>cs.setIfInBounds (off+x.2) x.1) cs=iF cs off v.toList:=by rw[<-Array.foldl_toList,Array.toList_zipIdx,ai3];rfl
def aaO{place:Nat->Option (Nat×Nat)}{cs:Array Value}{i:Nat}{r:List (Nat×Value)}{off sz:Nat}(p:place i=some (off,sz))(h:v.cells.size=sz)(l:off+sz<=cs.size) :
  Instr.fill place cs ((i,v)::r)=Instr.fill place (iF cs off v.cells.toList) r:=by
 have b:=aAd off v.cells cs;simp only[Instr.fill,p];rw[aw (by simp[h];omega), <-b]
def Q1{b:Nat}:∀{rows:List (List D)} {vs:List Value} {o:Nat},Rs w M rows.flatten vs->∀{w':World} {M':Addr->Prop},bQ w M w' M'->(∀i u,vs[i]? =some u->w'.cell? ⟨b,o+i,none⟩=some u/\¬M' ⟨b,o+i,none⟩)->jj w' M' rows b o
 |[],_,_,_,_,_,_,_=>trivial
 |r::l,vs,o,h,w',M',k,f=>by
  simp only[Y4]at h;have h1:=h.take r.length;have g:=h.drop r.length;rw[List.take_left']at h1;rw[List.drop_left']at g
  ·refine⟨CV fun i d m=> ?_,Q1 g k fun i u j=> ?_⟩
   ·obtain⟨v,e,n⟩:=h1.get m;simp only[qk]at e;split at e
    ·exact⟨v,(f i v e).1,(f i v e).2,n.keep k⟩
    ·simp at e
   ·rw[yd]at j;have:=f _ _ j
    rwa[show o+(r.length+i)=o+r.length+i by omega]at this
  ·rfl
  ·rfl
end
section
variable {P:Program}{c:SC}{F:Nat->Prop}{σ:Nat->ST}{bm:Nat->Nat}{tm:Nat->Value}{a:Act}{w:World}{tb:TB}{Γ:List VT}{gs:Gd}
def aN.YC(s:aN c F σ bm tm a w):∀p,MM c.M0 bm tm σ p->p.block<w.heap.size:=by
 rintro p (h|⟨id,e,b,d⟩|⟨g,n,b,d⟩)
 ·exact dS (s.m0.1 p h) s.hB
 ·rw[d];exact(s.box id e b).lt
 ·exact(s.live g n b).lt (OT d)
def aN.gi(h:aN c F σ bm tm a w):qd w:=h.m0.2.1.keep fun k b=>h.fr.block k (dS b h.m0.2.2.1) fun e=>by have:=h.m0.2.2.2 k e.symm;omega
def aN.cM(h:aN c F σ bm tm a w):ek w (MM c.M0 bm tm σ):=⟨h.YC,h.gi,dK h.m0.2.2.1 h.hB⟩
def acO{α:Type}:∀(r l:List α) (i:Nat) {x:α},x∈nA l i r->x∈l\/x∈r
 |[],l,i,x,h=>.inl h
 |y::r,l,i,x,h=>by
  rcases acO r _ _ h with h|h
  ·rcases sZ h with h|h
   ·exact .inl h
   ·exact .inr (by simp[h])
  ·exact .inr (by simp[h])
def adq{l:List D}{k:K}{e:E}{vs:List Value}(h:e.den c.env=.agg l)(t:Rs w M l vs)(x:cB w M tm c.env k e (.agg vs.toArray)):dm w M tm c.env (apart k l.length e) vs:=by
 have key:∀(n:Nat) (b:List D) (s:List Value),Rs w M b s->(∀i d,b[i]? =some d->l[n+i]? =some d)->(∀(i:Nat) (u:Value),s[i]? =some u->vs[n+i]? =some u)->dm w M tm c.env ((List.range' n b.length).map fun j=>(k.nth j,E.cell e j)) s:=by
  intro n b;induction b generalizing n with
  |nil=>intro s h _ _;subst h;simp[dm]
  |cons d r ih=>
   intro s m o p;obtain⟨v,q,rfl,y,z⟩:=m;simp only[dR,Mh,jA];refine⟨v,q,rfl,?_,ih (n+1) q z (fun i A f=> ?_) fun i u g=> ?_⟩
   ·have f:=o 0 d rfl;have g:=p 0 v rfl;rw[rT]at f g;refine ani ?_ (x.nth (by simpa[nQ,jO]using g));simp only[E.den,h,mq,List.getD];rw[f];exact y
   ·have:=o (i+1) A (by simpa using f)
    rwa[show n+(i+1)=n+1+i by omega]at this
   ·have:=p (i+1) u (by simpa using g)
    rwa[show n+(i+1)=n+1+i by omega]at this
 have:=key 0 l vs t (by simp) (by simp);simpa[apart,Ro]using this
def Zz{k:K}{n:Nat}{e:E}{x:Nat}(h:∃z∈apart k n e,z.1.has x):k.has x:=by obtain⟨z,b,d⟩:=h;obtain⟨j,_,rfl⟩:=fJ.1 b;exact Yz d
def ada(j:aN c F σ bm tm a w){k:List (Nat×Nat)}:∀(parts:List (Nat×Operand)) (es s:List (K×E)),uq tb Γ gs σ k parts es=some s->(∀g,(∃z∈es,z.1.has g)->F g)->∀g,(∃z∈s,z.1.has g)->F g
 |[],es,s,h,i,g,hg=>by simp only[uq,aS]at h;subst h;exact i g hg
 |(f,x)::r,es,s,h,i,g,hg=>by
  simp only[uq]at h;split at h
  ·split at h
   ·rename_i n o e l hx;have m:=(dN j hx).2;split at h
    ·split at h
     ·refine ada j r _ s h (fun g ⟨z,d,b⟩=> ?_) g hg;rcases sZ d with d|rfl
      ·exact i g ⟨z,d,b⟩
      ·exact m g b
     ·simp at h
    ·split at h
     ·refine ada j r _ s h (fun g ⟨z,d,b⟩=> ?_) g hg;rcases acO _ _ _ d with d|d
      ·exact i g ⟨z,d,b⟩
      ·exact m g (Zz ⟨z,d,b⟩)
     ·simp at h
    ·simp at h
   ·simp at h
  ·simp at h
def run_places(b:cX P tb tb=true):∀(A:List (Nat×Nat)) (l:List Field),uu tb A l=true->∃p:List (Nat×Nat),(l.mapM (m:=Sem) fun f=>do pure (f.offset, <-sizeOf f.type)).run P w=.ok p w /\
  ∀(f o e:Nat) (n:TI) (v1:V1),A[f]? =some (o,e)->tb.get e=some n->n.vt=.one v1->p[f]? =some (o,v1.cells.length)
 |[],[],_=>⟨[],by simp,fun f o e n v1 h=>by simp at h⟩
 |[],_::_,h=>by simp[uu]at h
 |_::_,[],h=>by simp[uu]at h
 |(o,e)::r,x::l,h=>by
  simp only[uu,aX,vf]at h;obtain⟨⟨⟨h1,h2⟩,k⟩,B⟩:=h;obtain⟨p,q,g⟩:=run_places b r l B;split at k
  ·rename_i H t;split at k
   ·rename_i v1 d;obtain⟨j,C,s,_⟩:=tH b t d;refine⟨(o,v1.cells.length)::p,?_,fun f u y z G m i v=> ?_⟩
    ·rw[Y8];simp only[lS,De, <-h2,run_sizeOf C,s,uZ,q, <-h1]
    ·cases f with
     |zero=> simp at m;obtain⟨rfl,rfl⟩:=m;rw[t]at i;simp at i;subst i;rw[d]at v;simp at v;subst v;rfl
     |succ f=>simp at m;simpa using g f u y z G m i v
   ·simp at k
  ·simp at k
def aaP(J:aN c F σ bm tm a w)(g:bV tb.tab Γ c.env)(hg:cP c.env gs){U:List (Nat×Nat)}{V:List (Nat×Nat)}(m:cX P tb tb=true)
  (j:∀(f o q:Nat) (u:TI) (v1:V1),U[f]? =some (o,q)->tb.get q=some u->u.vt=.one v1->V[f]? =some (o,v1.cells.length)) :
  ∀(parts:List (Nat×Operand)) (es s:List (K×E)) (cs:Array Value),uq tb Γ gs σ U parts es=some s->dm w (MM c.M0 bm tm σ) tm c.env es cs.toList ->
   ∃cs',Instr.fill (fun i=>V.toArray[i]?) cs (parts.map fun p=>(p.1,a.eval p.2))=some cs'/\dm w (MM c.M0 bm tm σ) tm c.env s cs'.toList
 |[],es,s,cs,h,k=>by simp only[uq,aS]at h;subst h;exact⟨cs,rfl,k⟩
 |(f,x)::r,es,s,cs,h,k=>by
  simp only[uq]at h;split at h
  ·rename_i o q W;split at h
   ·rename_i u Z e y hx;have v:=(dN J hx).1 hg;split at h
    ·rename_i t b L N;split at h
     ·rename_i z;have O:=j f o q u _ W y L;have Q:=eG g e _ N;obtain⟨A,b⟩:=Bd Q v.rd;have n:=k.length;simp only[uV]at n;obtain⟨cs',S,T⟩:=aaP J g hg m j r _ s (iF cs o [a.eval x]) h (by rw[Ha];exact k.set o (c:=(Z,e)) v)
      refine⟨cs',?_,T⟩;simp only[jA];rw[aaO (off:=o) (sz:=1) (by simpa[V1.cells]using O) (by rw[A];rfl) (by omega),A];exact S
     ·simp at h
    ·rename_i p b L N;split at h
     ·rename_i B;have O:=j f o q u _ W y L;obtain⟨l,X,z⟩:=lV (eG g e _ N);have C:=v.rd;rw[X]at C;obtain⟨Y,G,H⟩:=C;have n:=k.length;have b:=H.length;have d:=z.length;simp only[uV]at n b;obtain⟨cs',S,T⟩:=aaP J g hg m j r _ s (iF cs o Y.toList) h (by rw[Ha, <-d];exact dm.nA (adq X H (by rw[G]at v;simpa using v)) o k)
      refine⟨cs',?_,T⟩;simp only[jA];have I:(a.eval x).cells=Y:=by rw[G];rfl
      rw[aaO (off:=o) (sz:=p.length) (by simpa[V1.cells]using O) (by rw[I,b,d];exact B.1.symm) (by omega),I];exact S
     ·simp at h
    ·simp at h
   ·simp at h
  ·simp at h
def Yn{t:CT}(h:zeroV t v=true):R w M (eF t) v/\cB w M tm c.env (CK t).1 (CK t).2 v:=by
 cases t with
 |mem=>simp[zeroV]at h
 |fn=>simp[zeroV]at h
 |bool=>cases v<;>simp[zeroV]at h;subst h;exact⟨rfl,rfl⟩
 |int k=>
  cases v<;>simp[zeroV]at h;obtain⟨rfl,rfl⟩:=h;have:k.min<=0/\0<=k.max:=by cases k<;>simp[IntKind.min,IntKind.max,IntKind.signed,IntKind.bits]
  exact⟨⟨rfl,this⟩,⟨rfl,this⟩⟩
 |str=>cases v<;>simp[zeroV]at h;subst h;exact⟨⟨rfl,by decide⟩,⟨rfl,by decide⟩⟩
 |sl e=>
  rcases v with _|_|_|_|_|_|⟨d,len,cap⟩|_|_|_|_|_|_|_|_<;>try (simp[zeroV]at h;done)
  rcases d with _|d<;>rcases len with _|len<;>rcases cap with _|cap<;>simp[zeroV]at h;have r:R w M (.sl []) (.slice none 0 0):=⟨none,0,0,rfl,rfl,bM _,by decide,fun _=>rfl,fun b o s h=>by cases h⟩;exact⟨r,r,none,rfl⟩
def Yo{M:Addr->Prop}:∀{s:List CT} {vs:List Value},sU s vs=true->Rs w M (s.map eF) vs/\dm w M tm c.env (s.map CK) vs
 |[],[],_=>⟨rfl,rfl⟩
 |t::s,v::vs,h=>by simp only[sU,aX]at h;have h1:=Yn (w:=w) (M:=M) (tm:=tm) (c:=c) h.1;have b:=Yo (M:=M) h.2;exact⟨⟨v,vs,rfl,h1.1,b.1⟩,⟨v,vs,rfl,h1.2,b.2⟩⟩
 |[],_::_,h=>by simp[sU]at h
 |_::_,[],h=>by simp[sU]at h
def aGB(b:cX P tb tb=true)(L:aN c F σ bm tm a w)(l:bV tb.tab Γ c.env){n:Nat}{o:Oper}{T:Nat}{parts:Array (Nat×Operand)}(ho:o.op=.build T parts){ti:TI}(A:tb.get T=some ti){m:bq}
  (h:TK tb Γ gs o.dst σ ti parts.toList=some m):jX P c F gs σ bm tm a w n o m:=by
 unfold TK at h;split at h
 ·rename_i d U;simp only[kN]at h;obtain⟨N,p,rfl⟩:=h;refine⟨_,rfl,rfl,fun g d=> ?_,fun d _=> ?_⟩
  ·obtain⟨q,V,B⟩:=YA (show(Ae _).has g from d);obtain⟨z,r,rfl⟩:=fJ.1 V;exact ada L parts.toList _ N p (fun g ⟨x,B,d⟩=>by obtain⟨t,_,rfl⟩:=fJ.1 B;cases t<;>simp[CK,K.has]at d) g ⟨z,r,B⟩
  obtain⟨i,fields,z,W,X,_,r,C,G,H⟩:=pX b A U;obtain⟨Y,I,v⟩:=run_places (w:=w) b ti.fs fields.toList H;obtain⟨s,O,Q⟩:=aaP L l d b v parts.toList _ N z p (Yo (w:=w) (M:=MM c.M0 bm tm σ) (tm:=tm) (c:=c) C).2;refine⟨.agg s,w,?_,dQ _ _,fj d ?_⟩
  ·have Z:(fields.mapM (m:=Sem) fun f=>do pure (f.offset, <-sizeOf f.type)).run P w=.ok Y.toArray w:=by rw[YQ,Sem.run_map,I];rfl
   simp only[execOp,ho,Instr.build,lS,zeroValue,run_typeInfo W,r,uZ,De,run_underlying G,Z,Value.cells];simp only[List.getElem?_toArray]at O;simp[O]
  ·have e:s=s.toList.toArray:=by simp
   rw[e];refine VW ?_ fun j k u S G=> ?_
   ·rw[TE l];exact Q.rs.Kx
   ·simp only[iw,kN]at S;obtain⟨z,r,rfl⟩:=S;obtain⟨d,y,J⟩:=Q.get r;rw[G]at y;cases y;exact J.kk
 ·simp at h
def aiP(hs:aN c F σ bm tm a w)(j:bV tb.tab Γ c.env)(hg:cP c.env gs){O sz:Nat}(z:(tb.tab O).length=sz) :
  ∀(parts:List (Nat×Operand)) (k:Nat) (f m:E) (rows:List (List D)) (cs:Array Value),r9 tb Γ gs σ O k parts f=some m->f.den c.env=.sl rows->rows.length=k->(∀r∈rows,r.length=sz)->(k+parts.length)*sz<=cs.size ->
   Rs w (MM c.M0 bm tm σ) rows.flatten (cs.toList.take (k*sz)) ->
   ∃cs' o,Instr.fill (fun i=>some (i*sz,sz)) cs (parts.map fun p=>(p.1,a.eval p.2))=some cs'/\m.den c.env=.sl o/\o.length=k+parts.length/\(∀r∈o,r.length=sz)/\cs'.size=cs.size /\
    Rs w (MM c.M0 bm tm σ) o.flatten (cs'.toList.take ((k+parts.length)*sz))
 |[],k,f,m,rows,cs,h,b,Q,S,A,T=>by simp only[r9,aS]at h;subst h;exact⟨cs,rows,rfl,b,by simpa using Q,S,rfl,by simpa using T⟩
 |(i,x)::r,k,f,m,rows,cs,h,b,Q,S,A,T=>by
  simp only[r9]at h;split at h
  ·rename_i U;subst U;split at h
   ·rename_i d e hx;have u:=(dN hs hx).1 hg;have B:i*sz+sz<=cs.size:=by have:(i+1)*sz<=(i+(((i,x)::r).length))*sz:=mw _ (by simp);rw[iK,oG]at this;omega
    have C:∀(row:List D) (v:List Value) (nx:E),nx.den c.env=.sl (rows++[row])->row.length=sz->v.length=sz->Rs w (MM c.M0 bm tm σ) row v->(a.eval x).cells.toList=v->r9 tb Γ gs σ O (i+1) r nx=some m ->
      ∃cs' o,Instr.fill (fun i=>some (i*sz,sz)) cs (((i,x)::r).map fun p=>(p.1,a.eval p.2))=some cs'/\m.den c.env=.sl o/\o.length=i+((i,x)::r).length/\(∀r∈o,r.length=sz)/\cs'.size=cs.size /\
       Rs w (MM c.M0 bm tm σ) o.flatten (cs'.toList.take ((i+((i,x)::r).length)*sz)):=by
     intro row v nx V G s g H y;have W:(iF cs (i*sz) v).toList.take ((i+1)*sz)=cs.toList.take (i*sz)++v:=by
      rw[Ha,iK,oG];have:=aoe v cs.toList (i*sz) (by simp;omega)
      rwa[s]at this
     obtain⟨cs',o,d,f,p,l,n,I⟩:=aiP hs j hg z r (i+1) nx m (rows++[row]) (iF cs (i*sz) v) y V (by simp[Q]) (fun q p=>(iJ.1 p).elim (S q) fun h=>by simp at h;subst h;exact G)
      (by rw[Kr];simp only[dR]at A;rwa[show i+1+r.length=i+(r.length+1) by omega])
      (by rw[W,List.flatten_append];simpa using T.append g)
     refine⟨cs',o,?_,f,by simp only[dR];omega,l,by rw[n,Kr],by
      simp only[dR];rwa[show i+(r.length+1)=i+1+r.length by omega]⟩
     simp only[jA];have X:(a.eval x).cells.size=sz:=by rw[<-uV,H,s]
     rw[aaO (off:=i*sz) (sz:=sz) rfl X B,H];exact d
    split at h
    ·rename_i t Y;split at h
     ·rename_i d;have I:sz=1:=by rw[<-z,d];rfl
      have Z:=eG j e _ Y;obtain⟨f,l⟩:=Bd Z u.rd;exact C [e.den c.env] [a.eval x] _ (by simp[E.den,b]) (by simp[I]) (by simp[I]) (Rs.one u.rd) (by rw[f]) h
     ·simp at h
    ·rename_i f Y;split at h
     ·rename_i d;obtain⟨l,J,f⟩:=lV (eG j e _ Y);have L:=u.rd;rw[J]at L;obtain⟨o,m,g⟩:=L;have N:=g.length;have n:=f.length;rw[<-d,z]at n;exact C l o.toList _ (by simp[E.den,b,J]) n (by rw[N,n]) g (by rw[m];rfl) h
     ·simp at h
    ·simp at h
   ·simp at h
  ·simp at h
def anF(n:cX P tb tb=true)(hs:aN c F σ bm tm a w)(Z:bV tb.tab Γ c.env){o:Oper}{T len m:Nat}{parts:Array (Nat×Operand)}(ho:o.op=.buildSlice T len parts){ti:TI}(aK:tb.get T=some ti)(hv:ti.vt=.one (.c (.sl m))){e:E}
  (l:parts.toList.length=len) (k:TX tb m len=true) (he:r9 tb Γ gs σ m 0 parts.toList (.jf m)=some e) (hg:cP c.env gs) :
  ∃w' cells,(execOp a.eval o).run P w=.ok (.value (.slice (some ⟨w.heap.size,0,none⟩) len len)) w'/\Below w.heap.size w w'/\w'.heap[w.heap.size]? =some (.cells cells m (0,0))/\len*(tb.tab m).length<=cells.size /\
   ∀M':Addr->Prop,(∀p,M' p->MM c.M0 bm tm σ p)->R w' M' (e.den c.env) (.slice (some ⟨w.heap.size,0,none⟩) len len):=by
 unfold TX at k;split at k
 ·rename_i f q;split at k
  ·rename_i v1 v;simp only[aX,du]at k;obtain⟨j,Q,S,_⟩:=tH n q v;have d:f.cells=v1.cells:=by simp[TI.cells,v]
   rw[d]at k;have y:tb.tab m=v1.cells:=by simp[TB.tab,q,TI.cells,v]
   obtain⟨_,d,_,_,_,_,U,A⟩:=fX n aK hv;simp only[iI]at A;subst A;obtain⟨W,A⟩:∃z,j.zero=some z:=by
    cases v1 with
    |c t=>obtain⟨d,f,g,_,_,⟨z,H,_⟩,_⟩:=fX n q v;rw[Q]at g;simp at g;subst g;exact⟨z,H⟩
    |agg f=>obtain⟨d,j,f,g,_,_,H,_⟩:=pX n q v;rw[Q]at g;simp at g;subst g;exact⟨_,H⟩
   have I:len*v1.cells.length<=65536:=k.1;have d:len<=65536:=dK (Nat.le_mul_of_pos_right _ k.2) I;have B:∀(z:Array Value),z.size=len*v1.cells.length->∃f d,Instr.fill (fun i=>some (i*v1.cells.length,v1.cells.length)) z (parts.toList.map fun p=>(p.1,a.eval p.2))=some f/\e.den c.env=.sl d/\d.length=len/\(∀r∈d,r.length=v1.cells.length)/\Rs w (MM c.M0 bm tm σ) d.flatten f.toList/\f.size=len*v1.cells.length:=by intro z H;obtain⟨f,d,J,L,N,O,C,G⟩:=aiP hs Z hg (by rw[y]) parts.toList 0 (.jf m) e [] z he rfl rfl (by simp) (by rw[nJ,l,H];exact bM _) (by simp[Rs]);refine⟨f,d,J,L,by rw[N,l];omega,O,?_,by rw[C,H]⟩;rw[nJ,l, <-H, <-C, <-uV,uY]at G;exact G
   have V:∃f d,(Instr.buildSlice T len (parts.map fun x=>(x.1,a.eval x.2))).run P w=.ok (.slice (some ⟨w.heap.size,0,none⟩) len len) (w.alloc (.cells f m))/\e.den c.env=.sl d/\d.length=len/\(∀r∈d,r.length=v1.cells.length)/\Rs w (MM c.M0 bm tm σ) d.flatten f.toList/\f.size=len*v1.cells.length:=by
    by_cases g:len*v1.cells.length=0
    ·obtain⟨f,d,J,L,N,O,C,G⟩:=B #[] (by simp[g]);refine⟨f,d,?_,L,N,O,C,G⟩;have j:Array.range 0=#[]:=rfl;simp only[Instr.buildSlice,lS,run_underlying U,run_sizeOf Q,S,uZ,g,j];simp[J,newRow]
    ·obtain⟨f,d,J,L,N,O,C,G⟩:=B ((Array.range (len*v1.cells.length)).map fun x=>W.cells[x%W.cells.size]!) (by simp);refine⟨f,d,?_,L,N,O,C,G⟩;have W:¬(len*v1.cells.length>2^24):=by omega
     simp only[Instr.buildSlice,lS,run_underlying U,run_sizeOf Q,S,uZ,aw W,aw g,zeroValue,run_typeInfo Q,A,De,Sem.run_ite];simp[J,newRow]
   obtain⟨f,d,J,L,N,O,C,G⟩:=V;have d:Below w.heap.size w (w.alloc (.cells f m)):=(dQ _ _).alloc (bM _) _;refine⟨_,f,by simp only[execOp,ho];rw[lS,J];rfl,d,vg w _,by rw[G,y];exact bM _,fun M' X=> ?_⟩;rw[L];refine⟨_,_,_,rfl,N.symm,bM _,by unfold maxLen;omega,(fun h=>by cases h),fun b f s Y=> ?_⟩;simp only[aS,kC]at Y;obtain⟨rfl,rfl,rfl⟩:=Y;refine⟨fun _=>rfl,Q1 C (bQ.below d fun p _ h=>X p h) fun i u d=>⟨?_,fun f=> ?_⟩⟩
   ·rw[SR];simpa using d
   ·have:=hs.YC _ (X _ f);simp at this
  ·simp at k
 ·simp at k
def aGD(x:cX P tb tb=true)(s:aN c F σ bm tm a w)(i:bV tb.tab Γ c.env){n:Nat}{o:Oper}{T len:Nat}{parts:Array (Nat×Operand)}(ho:o.op=.buildSlice T len parts){ti:TI}(t:tb.get T=some ti){f:bq}
  (h:TM tb Γ gs o.dst σ ti len parts.toList=some f):jX P c F gs σ bm tm a w n o f:=by
 unfold TM at h;split at h
 ·rename_i A v;split at h
  ·rename_i d;obtain⟨l,k⟩:=d;simp only[kN]at h;obtain⟨e,m,rfl⟩:=h;refine⟨_,rfl,rfl,fun g b=> ?_,fun b _=> ?_⟩
   ·cases z:Nat.beq len 0<;>rw[z]at b<;>simp[cE,K.has]at b
   ·obtain⟨p,cells,q,r,_,_,u⟩:=anF x s i ho t v l k m b;refine⟨_,p,q,r,fj b ?_⟩;have j:=u _ fun _ h=>h;cases z:Nat.beq len 0 with
    |true=> have y:len=0:=gI z;subst y;exact⟨j,_,rfl⟩
    |false=>exact j
  ·simp at h
 ·simp at h
end
end
end Go.Proofs.YtoomhbopolalnabGreatDoor
