/- Walk: impl's takeDown; impl's StopPart. -/
import Derived.Test.YtoomhbopolalnaaGreatDoorS26
import Derived.ShutString
import Derived.Deep.Slices
import Derived.Test.YtoomhbopolalnaaGreatDoorTie
import Derived.Test.YtoomhbopolalnaaGreatDoorCards
import Derived.HandedShaped
import Derived.Stop.LaidErr
set_option linter.all false
set_option maxRecDepth 100000
namespace Go.Proofs.YtoomhbopolalnaaGreatDoor
variable {M:Addr->Prop}{l:List Entry}{n:Nat}{P:Program}{v:Value}{w:World}
section
open Go.RowKit Go
variable [GC]
def ahD(r:cG l=true){i k:Nat}(a:i<l.length)(b:k<l.length):hasB (jc (lL l (nth l k).name) (nth l k).name) (nth l i).name=(decide ((i:Int)=(k:Int))||fJ l i k):=by
 have c:(nth l i).name∈lL l (nth l k).name↔fJ l i k=true:=by rw[<-Nt,aD8 r b,GI r a]
 rw[uX,Nt,DX,c,jY,dr];constructor
 ·rintro (h|h)
  ·exact .inr h
  ·exact .inl (by rw[wC r a b h])
 ·rintro (h|h)
  ·exact .inr (by rw[show i=k by omega])
  ·exact .inl h
def aDW{f:Nat->Nat->Bool}(h:R w M (jK n f) v){i:Nat}(k:i<n):∃b o cap u,v=.slice (some ⟨b,o,none⟩) n cap/\w.cell? ⟨b,o+i*1,none⟩=some u/\R w M (dJ n (f i)) u:=by
 have l:(rowsOf (fun i=>dJ n (f i)) n).length=n:=by have:=I5 n f;unfold jK cK at this;simpa using this
 obtain⟨a,cap,d,_,e⟩:=mQ (n:=1) (fun r g=>by unfold rowsOf at g;obtain⟨j,_,rfl⟩:=fN.1 g;rfl) (show R w M (.sl (rowsOf (fun i=>dJ n (f i)) n)) v from h);rw[l]at d;obtain⟨b,o,s,rfl,m,⟨p,_,rfl,q,t⟩,c⟩:=e i [dJ n (f i)] (by unfold rowsOf;rw[iq,IC k];rfl);exact⟨b,o,cap,p,d,by have:=c 0 _ rfl;simpa using this,q⟩
def aFy{f:Nat->Bool}(h:R w M (dJ n f) v){i:Nat}(k:i<n):∃b o cap,v=.slice (some ⟨b,o,none⟩) n cap/\w.cell? ⟨b,o+i*1,none⟩=some (.bool (f i)):=by
 have l:(rowsOf (fun j=>D.bool (f j)) n).length=n:=by have:=lT n f;unfold dJ cK at this;simpa using this
 obtain⟨a,cap,d,_,e⟩:=mQ (n:=1) (fun r g=>by unfold rowsOf at g;obtain⟨j,_,rfl⟩:=fN.1 g;rfl) (show R w M (.sl (rowsOf (fun j=>.bool (f j)) n)) v from h);rw[l]at d;obtain⟨b,o,s,rfl,u,⟨p,_,rfl,m,q⟩,c⟩:=e i [.bool (f i)] (by unfold rowsOf;rw[iq,IC k];rfl);obtain rfl:=m;exact⟨b,o,cap,d,by have:=c 0 _ rfl;simpa using this⟩
def UN(M:Addr->Prop)(N:Nat->Prop)(w:World)(rows:List ByteArray)(v:Value):Prop:=(rows=[]/\v=.slice none 0 0)\/UR M N w rows v
section
variable {M:Addr->Prop}{N:Nat->Prop}{w w':World}{rows:List ByteArray}{v:Value}
def UN.heap(h:UN M N w rows v)(s:w.heap.size<=w'.heap.size)(hb:∀i,i<w.heap.size->¬N i->w'.heap[i]? =w.heap[i]?):UN M N w' rows v:=h.imp id fun h=>h.heap s hb
def UN.read(h:UN M N w rows v):R w (BM M N) (ak rows) v:=by
 rcases h with⟨rfl,rfl⟩|h
 ·exact⟨none,0,0,rfl,rfl,bK _,fO _,fun _=>rfl,fun b o s h=>by cases h⟩
 ·exact h.read
def UN.oc(h:UN M N w rows v):v.oneCell'=true:=by
 rcases h with⟨_,rfl⟩|h
 ·rfl
 ·exact h.oc
def aJQ{s:ByteArray}{ty:TypeId}(h:UN M N w rows v)(c:s.size<=maxLen)(l:rows.length<1048576)(d:∀x,N x->x<w.heap.size)(e:∀q,M q->q.block<w.heap.size) :
  ∃b w',(Builtin.append_ #[26,26] ty #[.slice (some ⟨w.heap.size,0,none⟩) 1 1,v]).run az (w.alloc (.cells #[.string s] 9))=.ok b w'/\UN M N w' (s::rows) b/\Below w.heap.size w w':=by
 rcases h with⟨rfl,rfl⟩|h
 ·obtain⟨f,i,g,z,y⟩:=vD (P:=az) (e:=9) (z:=.string ⟨#[]⟩) (size:=1) (bytes:=16) (by kernel_rfl);refine⟨_,_,Y5 fz i (bK _),.inr ⟨w.heap.size,1,rfl,fun o n=>n.elim (fun n=>by have:w.heap.size<w.heap.size:=e _ n;omega) (fun n=>by have:w.heap.size<w.heap.size:=d _ n;omega),by rw[eB];omega,bK _,by decide,fun j t a=> ?_⟩,gh _ _ _⟩
  match j,a with
  |0,a=> cases a;refine⟨?_,c⟩;have:=FI (w:=w) (xs:=[.string s]) (T:=9) 0 _ rfl;rw[tY]at this;exact this
  |j+1,a=>simp at a
 ·obtain⟨b,w',q1,q2,q3⟩:=aod (ty:=ty) h c l d e;exact⟨b,w',q1,.inr q2,q3⟩
end
def aut{Q:Exit->Act->World->Prop}{E:List (Nat×Value)}{c:Code}(E':List (Nat×Value))(J:World->Prop)(h1:CW n P c (fun e a w=>e=.normal/\Env n a E'/\J w) E w)(h2:∀w,J w->NX n (Q .normal) E' w):CW n P c Q E w:=fun a h=>
 AY (h1 a h) fun e b w' q=>by obtain⟨rfl,d,f⟩:=q;exact h2 w' f b d
def afI{E:List (Nat×Value)}{E':List (Nat×Value)}{J:World->Prop}(h:tf E E')(b:J w):NX n ((fun e a w=>e=Exit.normal/\Env n a E'/\J w) .normal) E w:=fun a c=>⟨rfl,c.sub h,b⟩
def aEL{a:Int}{b:Bool}(h:R w M (.aU [.int .i64 a,.bool b]) v):v=.tuple #[.int .i64 a,.bool b]:=by obtain⟨t,rfl,c,r0,e,⟨rfl,_⟩,d,r1,rfl,rfl,rfl⟩:=h;rw[<-iT.1 (show t.toList=#[Value.int .i64 a,.bool b].toList from e)]
def aCa:(az.info? 69).map (·.size)=some 3:=by kernel_rfl
def aCe:(az.info? 69).bind (·.zero)=some (.agg #[.slice none 0 0,.slice none 0 0,.slice none 0 0]):=by kernel_rfl
def azu:mC az 69 2=some 2:=by kernel_rfl
def azh:vI az 67=some 1:=by kernel_rfl
def azg:vI az 66=some 1:=by kernel_rfl
def aKy(h:R w M (lB l) v):∃v0 v1 a,v=.agg #[v0,v1,a]/\(∀u∈(#[v0,v1,a]:Array Value).toList,u.oneCell'=true)/\R w M (jK l.length (fJ l)) a:=by obtain⟨s,rfl,v0,r0,e,d,v1,r1,rfl,f,a,r2,rfl,b,rfl⟩:=h;refine⟨v0,v1,a,by rw[<-iT.1 (show s.toList=#[v0,v1,a].toList from e)],?_,b⟩;have o:=mf (show R w M (.sl _) v0 from d);have g:=mf (show R w M (.sl _) v1 from f);have i:=mf (show R w M (.sl _) a from b);intro u c;simp at c;rcases c with rfl|rfl|rfl<;>assumption
def KV.fr{L:Nat}{bx:List (Nat×TypeId×Array Value)}{N:Nat->Prop}{W:World}{b:Nat}{g:Host}{a p u vs l:Value}(S:SB L bx M N w W b g a p u vs l):∀x,KV p l x->N x/\x<W.heap.size:=fun x h=>h.elim (fun e=>S.H.p.lt x e) fun e=>S.H.l.lt x e
set_option maxHeartbeats 4000000 in
def aKt(F3:LQ){L:Nat}{bx:List (Nat×TypeId×Array Value)}{M:Addr->Prop}{N:Nat->Prop}{w W:World}{f:Nat}{h:Host}{r F vu vs G:Value}{s:ByteArray}(hG:dZ w M)(S:SB L bx M N w W f h r F vu vs G)(hO:uS h)(hh:ny h)(hf:0<=cN h.entries s) :
  Calls az 18 #[PH f,.int .i64 ((cD h s:Nat):Int)] W fun e w'=>e=.returned (.tuple #[])/\∃b,SB L bx M N w w' f (kD h s) r F b vs G:=by
 have hr:=hO.rz;obtain⟨k,b,O,u⟩:=vK hf;have c:cD h s=k:=by unfold cD;rw[b];rfl
 rw[c];have d:=KG hO;have hok:=JA (tA hO) (fun x b=>(d x b).2) (jc (lL h.entries s) s);obtain⟨l,y,rfl⟩:∃l y,vu=.slice l h.up.length y:=by obtain⟨a,cap,e,_⟩:=mQ (mI (n:=1) (fun _=>rfl) h.up) S.U;rw[dq]at e;exact⟨a,cap,e⟩
 refine oz (E:=[(0,PH f),(1,.int .i64 (k:Int))]) Tryz.func18 rfl Tryz.ntmps18 (by simp) (by simp) ?_;refine aO ?_;refine ah aI ?_;refine ah (sC rfl rfl) ?_;refine ah (br rY) ?_;refine ah (bB pj (v:=r) ((S.q6.cell 0).trans rfl)) ?_;refine dE (aG.calls (aG.fZ (Zl h.entries hh.el)) S.H.cF (vs:=[r]) ⟨_,[],rfl,S.H.e,rfl⟩) ?_;rintro _ z ⟨g,rfl,c,Q⟩;refine⟨_,rfl,?_⟩;obtain⟨v0,v1,n,rfl,g,I⟩:=aKy c;have o:=S.below Q;have j:W.heap.size<=z.heap.size:=Q.size;have j:=KV.fr S;clear S c;refine ah (eV rfl aCe) ?_;refine bW rfl (cs:=#[v0,v1,n]) rfl (aA.new z _ _) g aCa fun c q4 T=> ?_;have U:=Mt T;have g:c.heap.size=z.heap.size+1:=by rw[T.size,eB]
 have c:=o.below U;have p:=dH (N':=N) I U fun x b=>.inl b;have na:¬KV F G z.heap.size:=fun hk=>by have:=(j _ hk).2;omega
 clear o I U T Q;refine bq ?_;refine aO ?_;refine ah bO ?_;refine bq ?_;have g:=hh.ul;refine CW.seq (aO ?_);refine ah aI ?_;refine ah (sC rfl rfl) ?_;refine ah (br qi) ?_;refine ah (bB fz (v:=.slice l h.up.length y) ((c.q6.cell 2).trans rfl)) ?_;refine ah (Aa rfl rfl rfl rfl fz rfl) ?_;refine ah (iA (r:=(h.up.length:Int)-1) (hb:=by rw[lS])) ?_;refine ah bO ?_;refine bq ?_;refine bA (E':=[(0,PH f),(1,.int .i64 (k:Int)),(4,PH z.heap.size),(5,.slice none 0 0),(6,.int .i64 ((h.up.length:Int)-1))]) ?_;obtain⟨down,o⟩:∃down,jc (lL h.entries s) s=down:=⟨_,rfl⟩;rw[o]at hok;have g:kD h s={h with parts:=(dc h down h.up.length).1,up:=(dc h down h.up.length).2}:=by unfold kD;rw[o]
 refine CW.block (CW.loop (fun m q wr=>∃(j:Nat) (v6:Value),m+j=h.up.length/\q=[(0,PH f),(1,.int .i64 (k:Int)),(4,PH z.heap.size),(5,v6),(6,.int .i64 ((m:Int)-1))] /\
  SB L bx M N w wr f {h with parts:=(dc h down j).1} r F (.slice l h.up.length y) vs G/\R wr (BM M N) (jK h.entries.length (fJ h.entries)) n/\aA wr z.heap.size 69 #[v0,v1,n]/\UN M N wr (dc h down j).2 v6) h.up.length ⟨0,_,rfl,rfl,c,p,q4,.inl ⟨rfl,rfl⟩⟩ ?_)
 clear c p q4;rintro m q wr ⟨j,v6,c,rfl,S,mt,q4,un⟩;obtain⟨U,c⟩:=Dp h down j;refine CW.seq (aO ?_);refine ah aI ?_;rcases ue m with c|c
 ·
  subst c;obtain rfl:j=h.up.length:=by omega
  refine ah (iB (b:=false) (hb:=by simp[bg])) ?_;refine WL.nil (aM (CW.no (CW.exit (rM (rM (CO (aM ?_)))))));refine CW.region ?_;refine ah aI ?_;refine ah aI ?_;refine ah (sC rfl rfl) ?_;refine ah (br qi) ?_;refine qG (pM rfl rfl rfl (by kernel_rfl) un.oc ((S.q6.cell 2).trans rfl) (S.q6.frozen 2)) ?_;have n:aA (wr.setCell ⟨f,0+2,none⟩ v6) f 29 (aC r F v6 vs G):=S.q6.xK 2 v6;have c:bU wr (wr.setCell ⟨f,0+2,none⟩ v6) f:=(bU.refl wr f).set (0+2) v6;refine WL.nil (LK rfl ⟨rfl,v6,?_⟩);rw[g];exact S.box hG c (fun x b=>b) (fun x b=>(KV.fr S x b).1) S.nb S.n6 ⟨rfl,rfl⟩ S.H.e un.read S.H.s n
 obtain⟨g,rfl⟩:∃g,m=g+1:=⟨m-1,by omega⟩;have A:g<h.up.length:=by omega
 have c:(((g+1:Nat):Int)-1)=((g:Nat):Int):=by omega
 rw[c];have I:h.up.length-1-j=g:=by omega
 refine ah (iB (b:=true) (hb:=by simp[bg])) ?_;refine WL.nil (aM (eG (CW.skip (aM ?_))));obtain⟨B,C,p,n,c,V⟩:=OZ (show R wr (BM M N) (ak h.up) (.slice l h.up.length y)from S.U) A;obtain⟨x,b⟩:∃x,nth h.up g=x:=⟨_,rfl⟩;rw[b]at c V;have l:x∈h.up:=by rw[<-b];exact gF A
 obtain⟨p,Q⟩:=d x l;obtain⟨i,t,Y,Z⟩:=vK p;have J:cD h x=i:=by unfold cD;rw[t];rfl
 rw[J]at Q;simp only[fA,wW]at n;obtain⟨rfl,rfl⟩:=n;refine CW.seq (CW.block ?_);refine CW.seq ?_;refine CW.any (fun X=>aA X f 29 (aC r F (.slice (some ⟨B,C,none⟩) h.up.length y) vs G)/\X.cell? ⟨B,C+g*1,none⟩=some (.string x)) 12 mo fun l n d=>⟨⟨S.q6.below d S.q6.lt,(d.cell (p:=⟨B,C+g*1,none⟩) (gf c)).trans c⟩,?_⟩;have l:=S.below d;have q:=(d.cell (p:=⟨B,C+g*1,none⟩) (gf c)).trans c;have m4:=dH (N':=N) mt d fun x b=>.inl b;have q5:=q4.below d q4.lt;have u4:=un.heap d.size fun i T _=>d.block i T;clear S mt q4 un c d n;refine aX 0 rfl (fun X n=>aI) ⟨l.q6,q⟩ ?_;refine aX 1 rfl (fun X n=>sC rfl rfl) ⟨l.q6,q⟩ ?_;refine aX 2 rfl (fun X n=>br rY) ⟨l.q6,q⟩ ?_;refine aX 3 rfl (fun X n=>bB pj (v:=r) ((n.1.cell 0).trans rfl)) ⟨l.q6,q⟩ ?_;refine aX 4 rfl (fun X n=>aI) ⟨l.q6,q⟩ ?_;refine aX 5 rfl (fun X n=>sC rfl rfl) ⟨l.q6,q⟩ ?_;refine aX 6 rfl (fun X n=>br qi) ⟨l.q6,q⟩ ?_;refine aX 7 rfl (fun X n=>bB fz (v:=.slice (some ⟨B,C,none⟩) h.up.length y) ((n.1.cell 2).trans rfl)) ⟨l.q6,q⟩ ?_;refine aX 8 rfl (fun X n=>aI) ⟨l.q6,q⟩ ?_;refine aX 9 rfl (fun X n=>oO A zE) ⟨l.q6,q⟩ ?_;refine aX 10 rfl (fun X n=>bB iy (v:=.string x) n.2) ⟨l.q6,q⟩ ?_;refine p9 11 rfl (aG.calls (MD h.entries x) l.H.cF (vs:=[r,.string x]) ⟨_,_,rfl,l.H.e,_,[],rfl,⟨rfl,V⟩,rfl⟩) ?_;rintro _ w5 ⟨_,rfl,c,p⟩;obtain⟨rfl, -⟩:=c;rw[t];have t:=l.below p;have c5:=(p.cell (p:=⟨B,C+g*1,none⟩) (gf q)).trans q;have m5:=dH (N':=N) m4 p fun x b=>.inl b;have c:=q5.below p q5.lt;have u5:=u4.heap p.size fun i T _=>p.block i T;clear l m4 q5 u4 q p;refine⟨_,rfl,fun _=>⟨t.q6,c5⟩,?_⟩;refine gI 12 rfl bO (fun _=>⟨t.q6,c5⟩) ?_;refine ij (by kernel_rfl) (aM ?_);refine bA (E':=[(0,PH f),(1,.int .i64 (k:Int)),(4,PH z.heap.size),(5,v6),(6,.int .i64 ((g:Nat):Int)),(7,.int .i64 (i:Int))]) ?_;have d:hasB down x=(decide ((i:Int)=(k:Int))||fJ h.entries i k):=by rw[<-o, <-Z, <-u];exact ahD hr Y O
 refine CW.seq (aut [(0,PH f),(1,.int .i64 (k:Int)),(4,PH z.heap.size),(5,v6),(6,.int .i64 ((g:Nat):Int)),(7,.int .i64 (i:Int)),(47,.bool (hasB down x))] (fun X=>X=w5) (CW.region ?_) fun X n=>aM ?_)
 ·refine ah aI ?_;refine ah aI ?_;refine ah (iB (b:=decide ((i:Int)=(k:Int))) (hb:=rfl)) ?_;refine ah aI ?_;rcases l:decide ((i:Int)=(k:Int))with _|_
  ·obtain⟨z,o,Z,u,rfl,p,q⟩:=aDW m5 Y;obtain⟨rb,ro,rc,rfl,u⟩:=aFy q O;refine iL (b:=false) (br azu) ?_;refine iL (b:=false) (bB Tryz.underlying67 (v:=.slice (some ⟨z,o,none⟩) h.entries.length Z) ((c.cell 2).trans rfl)) ?_;refine iL (b:=false) aI ?_;refine iL (b:=false) (oO Y azh) ?_;refine iL (b:=false) (bB Tryz.underlying66 (v:=.slice (some ⟨rb,ro,none⟩) h.entries.length rc) p) ?_;refine iL (b:=false) aI ?_;refine iL (b:=false) (oO O azg) ?_;refine iL (b:=false) (bB AX (v:=.bool (fJ h.entries i k)) u) ?_;refine ah (sD rfl rfl rfl) ?_;exact WL.nil (afI ⟨rfl,rfl,rfl,rfl,rfl,rfl,by rw[d,l];rfl,trivial⟩ rfl)
  ·refine fL (b:=true) ?_;refine fL (b:=true) ?_;refine fL (b:=true) ?_;refine fL (b:=true) ?_;refine fL (b:=true) ?_;refine fL (b:=true) ?_;refine fL (b:=true) ?_;refine fL (b:=true) ?_;refine ah (ru rfl rfl rfl) ?_;exact WL.nil (afI ⟨rfl,rfl,rfl,rfl,rfl,rfl,by rw[d,l];rfl,trivial⟩ rfl)
 subst n;rcases z:hasB down x with _|_
 ·
  have u:dc h down (j+1)=((dc h down j).1,x::(dc h down j).2):=by simp only[dc,I,b,z];rfl
  obtain⟨p,d,n,l,o⟩:=vD (P:=az) (e:=9) (z:=.string ⟨#[]⟩) (size:=1) (bytes:=16) (by kernel_rfl);refine CW.no (CW.region ?_);refine ah aI ?_;refine ah (sC rfl rfl) ?_;refine ah (br qi) ?_;refine ah (bB fz (v:=(.slice (some ⟨B,C,none⟩) h.up.length y)) ((t.q6.cell 2).trans rfl)) ?_;refine ah aI ?_;refine ah (oO A zE) ?_;refine ah (bB iy (v:=.string x) c5) ?_;refine ah (Vk rfl rfl rfl fz d l n rfl) ?_;refine ah aI ?_;obtain⟨d,p,l,n,Z⟩:=aJQ (ty:=26) u5 V (by omega) t.H.nb t.H.mb;refine ah (rn rfl rfl rfl l) ?_;refine ah bO ?_;have o:SB L bx M N w p f {h with parts:=(dc h down (j+1)).1} r F (.slice (some ⟨B,C,none⟩) h.up.length y) vs G:=by rw[u];exact t.below Z
  have p:=dH (N':=N) m5 Z fun x b=>.inl b;have q:=c.below Z c.lt;rw[<-show(dc h down (j+1)).2=x::(dc h down j).2 by rw[u]]at n;refine WL.nil (sU (aM (CW.region ?_)));refine ah aI ?_;refine ah (iA (r:=((g:Nat):Int)-1) (hb:=by rw[lS])) ?_;refine ah bO ?_;exact WL.nil (NX.ag g ⟨j+1,d,by omega,rfl,o,p,q,n⟩)
 ·
  have u:dc h down (j+1)=((dc h down j).1.set i (mZ (nth (dc h down j).1 i) dR),(dc h down j).2):=by simp only[dc,I,b,z,J];rfl
  have J:i<(dc h down j).1.length:=by rw[U];exact Q
  refine eG (CW.region ?_);refine ah aI ?_;refine ah aI ?_;refine dE (aKs F3 t.H t.q6 (fun hk=>(t.kv _ hk).2 rfl) (.inr rfl) J (B6 (hok j (by omega) _ (gF J)))) ?_;rintro _ z ⟨rfl,l,d⟩;have A:=t.fr l d rfl;refine⟨_,rfl,?_⟩;have l:=KV.fr t;have o:SB L bx M N w z f {h with parts:=(dc h down (j+1)).1} r F (.slice (some ⟨B,C,none⟩) h.up.length y) vs G:=by rw[u];exact A
  have p:=abW (N':=N) m5 d (fun x b=>(l x b).1) fun x b=>.inl b;have q:=(d.block _ c.lt na).trans c;have n:UN M N z (dc h down (j+1)).2 v6:=by rw[u];exact u5.heap d.size fun i T b=>d.block i T fun hk=>b (l i hk).1
  refine WL.nil (sU (aM (CW.region ?_)));refine ah aI ?_;refine ah (iA (r:=((g:Nat):Int)-1) (hb:=by rw[lS])) ?_;refine ah bO ?_;exact WL.nil (NX.ag g ⟨j+1,v6,by omega,rfl,o,p,q,n⟩)
def De(h:Host)(s:ByteArray):Int:=if tz h&&decide (h.log.length<24)then cN h.entries s else 0
def aw7(h:Host)(s:ByteArray)(a:ny h):aG az 16 none [enc h,.str s] (.aU [.int .i64 (De h s),.bool (gV h s)]) []:=by
 refine bZ aoM aHZ ⟨pT h,trivial,trivial⟩ fun f=> ?_;unfold aoM;refine aH (awT h a.el a.isH) ?_;apply aj<;>intro c<;>simp only[eS,bo]at c
 ·refine ay ?_;have b:(tz h&&decide (h.log.length<24))=false:=by
   cases a:tz h with
   |false=>rfl
   |true=>rw[a]at c;simp[ak]at c;simp;omega
  have m:gV h s=false:=by
   unfold gV;cases a:tz h with
   |false=>rfl
   |true=>rw[a]at b;simp at b;simp[b]
  have g:De h s=0:=by unfold De;rw[b];rfl
  rw[g,m];rfl
 ·have b:(tz h&&decide (h.log.length<24))=true:=by
   cases a:tz h with
   |false=>rw[a]at c;simp at c
   |true=>rw[a]at c;simp[ak]at c;simp;omega
  refine aH (MD h.entries s) ?_;refine ay ?_;simp only[eS,bo];have m:gV h s=decide (0<=cN h.entries s):=by rw[aY]at b;unfold gV;rw[b.1,b.2];by_cases d:cN h.entries s<0<;>simp[d]<;>omega
  have g:De h s=cN h.entries s:=by unfold De;rw[b];rfl
  rw[g,m]
set_option maxHeartbeats 4000000 in
def aKl(Q:LQ){M:Addr->Prop}{w:World}{h:Host}{s:ByteArray}{v:Value}(G:dZ w M)(T:R w M (enc h) v)(U:s.size<=maxLen)(a:ny h) :
  Calls az 6 #[v,.string s] w fun e w'=>∃r,e=.returned r/\R w' M (.aU [enc (ku h s),.bool (nj h s)]) r/\Below w.heap.size w w':=by
 obtain⟨ae,ap,I,d,al,rfl,b,c,V,has,f⟩:=Gl T;refine oz (E:=[(0,.agg (aC ae ap I d al)),(1,.string s)]) Tryz.func6 rfl Tryz.ntmps6 (by simp) (by simp) ?_;refine aO ?_;refine CV B0.nil fun _ B=> ?_;refine CU B oM fun b B=> ?_;refine ah bO ?_;refine bq ?_;refine bA (E':=[(1,.string s),(2,PH w.heap.size),(4,PH (w.heap.size+1))]) ?_;refine aO ?_;refine ah (bG cX B.q0 bI) ?_;refine dE (at7 B G T fun b X Y=>aKi X Y a.el a.ef (Mb a.ul (by decide)) a.sl a.pl (fun p b=>⟨(a.pc p b).1,dV (a.pc p b).2 (by decide)⟩) a.ll a.lr) ?_;rintro _ J ⟨f,g,u,i,l,rfl,one,mk⟩;refine⟨_,rfl,?_⟩;refine ah (eV rfl oM) ?_;refine bW rfl (cs:=aC f g u i l) rfl (xG J) one bI fun b c o=> ?_;obtain⟨j,S⟩:=mk b c o;have S:=S.sb G;obtain⟨N,k⟩:∃N:Nat->Prop,N=fun x=>j x/\u.ownBlock≠some x:=⟨_,rfl⟩;rw[<-k]at S;have m:SB 2 [(0,29,aC ae ap I d al),(1,29,#[.slice none 0 0,.slice none 0 0,.slice none 0 0,.slice none 0 0,.slice none 0 0])] M N w b J.heap.size h f g u i l:=S;clear mk one c o S B;refine bq ?_;refine bA (E':=[(1,.string s),(2,PH w.heap.size),(4,PH (w.heap.size+1)),(6,PH J.heap.size)]) ?_;refine aO ?_;refine ah (bG cX m.b0 bI) ?_;refine ah aI ?_;refine dE (aG.calls (aw7 h s a) m.H.cF (vs:=[.agg (aC ae ap I d al),.string s]) ⟨_,_,rfl,m.kp T,_,[],rfl,⟨rfl,U⟩,rfl⟩) ?_;rintro _ b ⟨c,rfl,n,q⟩;obtain rfl:=aEL n;refine⟨_,rfl,?_⟩;have c:=m.below q;clear m q n;refine ah aI ?_;refine ah eA ?_;refine ah eA ?_;refine ah bO ?_;refine ah bO ?_;refine bq ?_;refine bA (E':=[(1,.string s),(2,PH w.heap.size),(4,PH (w.heap.size+1)),(6,PH J.heap.size),(7,.int .i64 (De h s)),(8,.bool (gV h s))]) ?_;have no:∀(W:World),nj h s=false->R W M (enc h) (.agg (aC f g u i l))->R W M (.aU [enc (ku h s),.bool (nj h s)]) (.tuple #[.agg (aC f g u i l),.bool false]):=fun W t j=>by
  have Z:ku h s=h:=by unfold ku;simp[t]
  rw[Z,t];exact⟨_,rfl,_,_,rfl,j,_,_,rfl,rfl,rfl⟩
 refine CW.seq (aO ?_);refine ah aI ?_;refine ah rp ?_;refine ah aI ?_;rcases L:gV h s with _|_
 ·refine fL (b:=true) ?_;refine fL (b:=true) ?_;refine fL (b:=true) ?_;refine fL (b:=true) ?_;refine fL (b:=true) ?_;refine ah (ru rfl rfl rfl) ?_;refine bq (eG (aO ?_));refine ah (bG cX c.q6 bI) ?_;refine bW rfl (cs:=aC f g u i l) rfl c.b1 c.one bI fun m z y=> ?_;refine ah bO ?_;obtain⟨j,b,_⟩:=c.ans G (by decide) y;exact bq (CW.ret (NX.ret (rL rfl rfl rfl z cX rfl bI ⟨_,rfl,no _ (by unfold nj;rw[L];rfl) j,b⟩)))
 refine iL (b:=false) (br qi) ?_;refine iL (b:=false) (bB fz (v:=I) ((c.b0.cell 2).trans rfl)) ?_;refine iL (b:=false) aI ?_;refine CX (b:=false) (c.ask (Zj h.up s) ⟨_,_,rfl,c.kp V,_,[],rfl,⟨rfl,U⟩,rfl⟩) ?_;rintro _ d ⟨rfl,k⟩;refine⟨_,rfl,?_⟩;clear c;refine iL (b:=false) rp ?_;refine ah (sD rfl rfl rfl) ?_;rcases A:hasB h.up s with _|_
 ·refine bq (eG (aO ?_));refine ah (bG cX k.q6 bI) ?_;refine bW rfl (cs:=aC f g u i l) rfl k.b1 k.one bI fun m z y=> ?_;refine ah bO ?_;obtain⟨j,b,_⟩:=k.ans G (by decide) y;exact bq (CW.ret (NX.ret (rL rfl rfl rfl z cX rfl bI ⟨_,rfl,no _ (by unfold nj;rw[L,A];rfl) j,b⟩)))
 refine bq (CW.no (CW.skip (aM ?_)));obtain⟨d,C,c,l⟩:=BR L;have F:De h s=((cD h s:Nat):Int):=by unfold De;rw[DC.2 d,Mn c];exact(IA C).symm
 rw[F];refine aO ?_;refine ah aI ?_;refine dE (aKt Q G k d a C) ?_;rintro _ d ⟨rfl,c,l⟩;refine⟨_,rfl,?_⟩;clear k;refine bq (aO ?_);refine ah aI ?_;refine ah (kI (vs:=[(0,.int .i64 2),(1,.string s)]) (R7 2 s)) ?_;refine dE (aKu G l (k:=2) (by decide) U (by show h.log.length<1048576;omega)) ?_;rintro _ k ⟨rfl,n,d,O⟩;refine⟨_,rfl,?_⟩;clear l;refine bq (aO ?_);refine ah (bG cX O.q6 bI) ?_;refine bW rfl (cs:=aC f g c i d) rfl O.b1 O.one bI fun m z y=> ?_;refine ah bO ?_;obtain⟨j,b,_⟩:=O.ans G (by decide) y;have t:nj h s=true:=by unfold nj;rw[L,A];rfl
 have Z:ku h s=qo (kD h s) (jj 2 s):=by unfold ku;rw[aD t]
 refine bq (CW.ret (rL rfl rfl rfl z cX rfl bI ⟨_,rfl,?_,b⟩));rw[Z,t];exact⟨_,rfl,_,_,rfl,j,_,_,rfl,rfl,rfl⟩
def aw4(C:LQ)(h:Host)(s:ByteArray)(a:ny h):aG az 6 none [enc h,.str s] (.aU [enc (ku h s),.bool (nj h s)]) [] :=
 CL (by kernel_rfl) fun w M e G b=>by obtain⟨v,_,rfl,c,f,_,rfl,⟨rfl,d⟩,rfl⟩:=b;exact aKl C G c d a
def aFe(h:cG l=true){i k:Nat}(a:i<l.length)(b:k<l.length):hasB (pO l (nth l i).name) (nth l k).name=fJ l i k:=by rw[acG h a,GI h b]
def aEi{α:Type}[Inhabited α](l:List α){i:Nat}(h:i<l.length):nth l i=l[i]:=by simp[nth,kQ,h]
def aib(h:Host)(d:List ByteArray):∀j,j<=h.up.length->(dc h d j).2=(h.up.drop (h.up.length-j)).filter fun x=> !hasB d x
 |0,_=>by simp[dc]
 |j+1,b=>by
  have ih:=aib h d j (by omega);have a:h.up.drop (h.up.length-(j+1))=nth h.up (h.up.length-1-j)::h.up.drop (h.up.length-j):=by rw[show h.up.length-(j+1)=h.up.length-1-j by omega,age (by omega),aEi _ (by omega),show h.up.length-1-j+1=h.up.length-j by omega]
  rw[a,List.filter_cons];unfold dc;simp only;cases c:hasB d (nth h.up (h.up.length-1-j))<;>simp[ih]
def aEm{α:Type}[Inhabited α](l:List α)(p:α){a i:Nat}(h:a≠i):nth (l.set a p) i=nth l i:=by simp only[nth,List.getD];rw[ID h]
def aia(h:Host)(d:List ByteArray){i:Nat}(n:∀x∈h.up,hasB d x=true->cD h x≠i):∀j,j<=h.up.length->nth (dc h d j).1 i=nth h.parts i
 |0,_=>rfl
 |j+1,a=>by
  have ih:=aia h d n j (by omega);unfold dc;simp only;cases b:hasB d (nth h.up (h.up.length-1-j))with
  |false=>simpa using ih
  |true=> have:=n _ (gF (by omega)) b;simp only[sZ];rw[aEm _ _ this];exact ih
def JB(h:Host)(s:ByteArray)(i:Nat):Bool:=decide ((nth h.entries i).name=s)||hasB (pO h.entries (nth h.entries i).name) s
def aGQ{h:Host}{s:ByteArray}(ho:nj h s=true){i:Nat}(b:i<h.entries.length) :
  hasB (ku h s).up (nth h.entries i).name=(hasB h.up (nth h.entries i).name&& !JB h s i)/\(JB h s i=false->nth (ku h s).parts i=nth h.parts i):=by
 have m:ku h s=qo (kD h s) (jj 2 s):=by unfold ku;rw[aD ho]
 have n:gV h s=true:=by unfold nj at ho;rw[aY]at ho;exact ho.1
 obtain⟨O,f, -, -⟩:=BR n;obtain⟨k,o,l,c⟩:=vK f;have r:=O.rz;have d:hasB (jc (lL h.entries s) s) (nth h.entries i).name=JB h s i:=by
  rw[<-c,ahD r b l];unfold JB;rw[aFe r b l];congr 1;rw[YZ];constructor
  ·intro e;rw[show i=k by omega]
  ·intro e;rw[wC r b l e]
 have u:(ku h s).up=h.up.filter fun x=> !hasB (jc (lL h.entries s) s) x:=by rw[m];show(dc h _ h.up.length).2=_;rw[aib h _ _ (bK _),Nat.sub_self,Fc]
 refine⟨?_,fun p=> ?_⟩
 ·rw[u,uX,Nt,AV,aY,Nt,d]
 ·rw[m];refine aia h _ (fun x q g e=> ?_) _ (bK _);obtain⟨t,_⟩:=KG O x q;obtain⟨a,y,z,j⟩:=vK t;have:cD h x=a:=by unfold cD;rw[y];rfl
  rw[this]at e;subst e;rw[<-j]at g;rw[d,p]at g;cases g
def aGR{h:Host}{s:ByteArray}:(ku h s).parts.length=h.parts.length/\(ku h s).shut=h.shut:=by
 unfold ku;split
 ·exact⟨(Dp h _ _).1,rfl⟩
 ·exact⟨rfl,rfl⟩
end
section
open Go.RowKit
set_option maxRecDepth 1000000
def rbq:RB:=pN.filter fun x=> !Nat.beq x.1 85
def ao6:VC:=.rq aru (.rq arv (.rq (.call [(rJ,false)] 122 none [aV] ba []) (.ite (.or rJ Ht) Wz (.rq adW (.rq (.call [] 124 none [nU] aF []) (.rq (.call [] 119 none [cz,dM] ba []) (.ite Hz (.ret (.bn KU (.cat uO (.cat lA (.cat tN (.cat Pu (.cat Pt fU)))))) []) (.rq (.call [] 125 (some [Wv,(.cell bD 1),(.cell bD 2),(.cell bD 3),(.cell bD 4),WA]) [(.len WA),aV] (.one KC) tM) (.ret (.bn (.bn gB (.cat adT (.cat (.aq sN) (.cat WV (.cat (.aq pX) (.cat (.aq oV) (.cat (.aq uP) fU))))))) gN) [])))))))))
def aJW:rH az aJ rbq 85 none=ao6:=by kernel_rfl
def anY:List VT:=[(.one (.agg [.str,.bool,.bool,(.sl 107),(.int .i64),(.sl 75)])),(.one Cn)]
def aIl:rG az aJ 85 none=anY:=by kernel_rfl
def ao7:VC:=.ite (.an (.an bM (.sc .neq cW K1)) (.sc .neq cW K2)) (.ret WW HG) (.ite (.sc .eql cW arX) (.ite bD (.ret WW [aV,qz,gH,bP,cz,dM]) (.rq arY (.ret HK arZ))) (.ite (.sc .eql cW PN) (.ite rI (.ret (.cat zi Ak) HG) (.ret HK [aV,qz,bM,bP,cz,dM])) (.ite Xm (.ite Xm ar0 ar2) (.ite XB ar0 ar2))))
def aJX:rH az aJ rbq 153 (some [.str,.bool,.bool,(.sl 107),(.int .i64),(.sl 75)])=ao7:=by kernel_rfl
def anZ:List VT:=[(.one Cn),cq,ba,ba,(.one (.c (.sl 107))),aF,(.one (.c (.sl 75)))]
def aIm:rG az aJ 153 (some [.str,.bool,.bool,(.sl 107),(.int .i64),(.sl 75)])=anZ:=by kernel_rfl
end
section
open Go.RowKit Go
variable [GC]
def axm(p:Part){m:ByteArray}(a:m=mStart\/m=dR):aG az 153 (some (aB.cells p)) [enc (bL m)] (enc (eZ p.core (bL m)).2) (aB.cells (⟨(eZ p.core (bL m)).1,p.ai⟩:Part)):=by
 refine XX (bc:=some (aB.cells p)) aJX rfl aIm Ck mo rfl (by unfold anZ;exact⟨Co _,trivial,trivial,trivial,xO _,rfl,anR _,trivial⟩) (fun h=>by cases h) fun _ _=> ?_;unfold ao7;obtain⟨⟨kind,o,b,cells,count⟩,ai⟩:=p;cases b
 ·refine MP (by kernel_rfl) ?_;rcases a with rfl|rfl
  ·refine Jj (by kernel_rfl) ?_;cases o
   ·refine MP (by kernel_rfl) ?_;refine FK rfl (axb count) rfl ?_;exact⟨rfl,rfl⟩
   ·refine Jj (by kernel_rfl) ?_;exact⟨rfl,rfl⟩
  ·refine MP (by kernel_rfl) (Jj (by kernel_rfl) ?_);cases o
   ·exact Jj (by kernel_rfl) ⟨rfl,rfl⟩
   ·exact MP (by kernel_rfl) ⟨rfl,rfl⟩
 ·rcases a with rfl|rfl<;>exact Jj (by kernel_rfl) ⟨rfl,rfl⟩
def RunT(p:Part)(m:ByteArray)(k:Nat):Prop:=aG az 125 (some (aB.cells p)) [.int .i64 (k:Int),enc (bL m)] (enc (bi k p (bL m)).2) (aB.cells (bi k p (bL m)).1)
def aD9(w:World)(t b c d:TypeId)(c0 c1 c2 e:Array Value){a:World}(h:a=(((w.alloc (.cells c0 t)).alloc (.cells c1 b)).alloc (.cells c2 c)).alloc (.cells e d)) :
  Below w.heap.size w a/\aA a w.heap.size t c0/\aA a (w.heap.size+1) b c1/\aA a (w.heap.size+1+1) c c2/\aA a (w.heap.size+1+1+1) d e:=by
 subst h;refine⟨by go_grown,(((aA.new w _ _).alloc _).alloc _).alloc _,?_,?_,?_⟩
 ·have:=aA.new (w.alloc (.cells c0 t)) b c1;simp only[eB]at this;exact(this.alloc _).alloc _
 ·have:=aA.new ((w.alloc (.cells c0 t)).alloc (.cells c1 b)) c c2;simp only[eB]at this;exact this.alloc _
 ·have:=aA.new (((w.alloc (.cells c0 t)).alloc (.cells c1 b)).alloc (.cells c2 c)) d e;simp only[eB]at this;exact this
set_option maxHeartbeats 4000000 in
def anq(p:Part){m:ByteArray}(hm:m=mStart\/m=dR){k:Nat}(IH:∀j,j+1=k->RunT p m j)(hk:k<=p.ai.length)(hn:∀i,i<k->(nth p.ai i).name≠pQ):RunT p m k:=by
 refine⟨by kernel_rfl,fun w M g d Q B U=> ?_⟩;obtain⟨y,T,Y,Z,l,C⟩:=U _ rfl;obtain⟨v1,q,rfl,F,d,n,rfl,I,rfl⟩:=B;obtain⟨rfl, -⟩:=F;obtain⟨rfl,d,n,o⟩:=Zv I;have d:g<w.heap.size:=(aA.lt (t:=T) (cs:=y.toArray) Y);obtain⟨n,J⟩:∃n,n=(((w.alloc (.cells #[.pointer (some ⟨g,0,none⟩)] 154)).alloc (.cells #[.int .i64 (k:Int)] 3)).alloc (.cells #[.string m,.string cL,.int .i64 0,.string cL] 31)).alloc (.cells cQ 110):=⟨_,rfl⟩;obtain⟨HW,b0,b1,b2,b3⟩:=aD9 _ _ _ _ _ _ _ _ _ J;have key:∀{A:World} {f:FuncId} {r:D} {L:List D} {o:List D} {al:List Value},Below w.heap.size w A->aA A (w.heap.size+1+1+1) 110 cQ->aG az f (some (aB.cells p)) o r L->Rs A (BM M (· =w.heap.size+1+1+1)) o al ->
   Calls az f (.pointer (some ⟨g,0,none⟩)::al).toArray A fun e t=>∃v,e=.returned v/\R t (BM M (· =w.heap.size+1+1+1)) r v/\Fr w.heap.size (some g) w t/\aA t (w.heap.size+1+1+1) 110 cQ /\
    (∃y T,t.heap[g]? =some (.cells y.toArray T (0,0))/\Rs t (BM M (· =w.heap.size+1+1+1)) L y):=fun {A f r L o al} n G S O=>by
  have o:bR w M A (BM M (· =w.heap.size+1+1+1)):=bR.below n fun q z h=>h.elim id fun e=>absurd e (by have:=z;omega);refine(S.2 A (BM M (· =w.heap.size+1+1+1)) g al (Q.below n fun q V=>V.elim (fun h=>ek (Q.1 q h) n.size) fun h=>by have:=G.lt;omega) O
   (fun O e=>by cases e;exact⟨y,T,(n.block g d).trans Y,Rs.keep o _ _ Z,l,fun q e=>.inl (C q e)⟩)).mono fun e t h=> ?_
  obtain⟨v,F,l,X,C⟩:=h;refine⟨v,F,l,⟨X.os.trans n.os,X.tape.trans n.tape,X.output.trans n.output,dV n.size X.size,fun i O S=>(X.block i (by have:=n.size;omega) S).trans (n.block i O)⟩,(X.block _ G.lt (fun e=>by have e:w.heap.size+1+1+1=g:=jy e;omega)).trans G,C rfl⟩
 have X:∀{t C:World} {r:gK} {L:List D},Fr w.heap.size (some g) w t->bU t C (w.heap.size+1+1+1)->R t (BM M (· =w.heap.size+1+1+1)) (enc r) (.agg (eY r)) ->
   (∃y T,t.heap[g]? =some (.cells y.toArray T (0,0))/\Rs t (BM M (· =w.heap.size+1+1+1)) L y)->R C M (enc r) (.agg (eY r))/\Fr w.heap.size (some g) w C/\(true=true->∃y T,C.heap[g]? =some (.cells y.toArray T (0,0))/\Rs C M L y):=fun {t C r L} l Q B F=>by
  have o:bR t (BM M (· =w.heap.size+1+1+1)) C M:=fun q u y hn=>⟨(BM.one (M:=M) (N:=(· =w.heap.size+1+1+1)) Q rfl q u y hn).1,fun h=>hn (.inl h)⟩;obtain⟨y,G,L,V⟩:=F;exact⟨R.keep o _ _ B,⟨Q.os.trans l.os,Q.tape.trans l.tape,Q.output.trans l.output,dV l.size (lF Q.size.symm),fun i O S=>(Q.block i (by omega)).trans (l.block i O S)⟩,fun _=>⟨y,G,(Q.block g (by omega)).trans L,Rs.keep o _ _ V⟩⟩
 refine oz (E:=[(0,.pointer (some ⟨g,0,none⟩)),(1,.int .i64 (k:Int)),(2,lH (bL m))]) Tryz.func125 rfl Tryz.ntmps125 (by simp) (by simp) ?_;refine aO ?_;refine ah uJ ?_;refine ah uJ ?_;refine ah uJ ?_;refine ah (eV rfl mW) ?_;refine bq ?_;show CW _ az _ _ _ ((((w.alloc (.cells #[.pointer (some ⟨g,0,none⟩)] 154)).alloc (.cells #[.int .i64 (k:Int)] 3)).alloc (.cells #[.string m,.string cL,.int .i64 0,.string cL] 31)).alloc (.cells cQ 110));refine CW.sub (E':=[(3,.pointer (some ⟨w.heap.size,0,none⟩)),(4,.pointer (some ⟨w.heap.size+1,0,none⟩)),(5,.pointer (some ⟨w.heap.size+1+1,0,none⟩)),(6,.pointer (some ⟨w.heap.size+1+1+1,0,none⟩))]) ⟨rfl,by simp only[eB];rfl,by simp only[eB];rfl,by simp only[eB];rfl,trivial⟩ ?_;rw[<-J];clear J U;cases k with
 |zero=> refine CW.seq (aO ?_);refine ah (bB kS (b1.cell 0)) ?_;refine ah (iB (b:=true) (hb:=rfl)) ?_;refine WL.nil (aM (eG ?_));refine CW.seq (CW.tail 4 mo (by kernel_rfl) fun A Q B=> ?_);replace b0:=b0.below B b0.lt;replace b2:=b2.below B b2.lt;replace b3:=b3.below B b3.lt;have n:=bt HW B;refine wS rfl rfl (bB YN (b0.cell 0)) (by decide) ?_;refine wS rfl rfl (sC rfl rfl) (by decide) ?_;refine wS rfl rfl (br M8) (by decide) ?_;refine wS rfl rfl (bG uf b2 uE) (by decide) ?_;refine awm ?_;refine WL.c rfl rfl (pL (args:=#[.pointer (some ⟨g,0,none⟩),lH (bL m)]) axW rfl rfl rfl) (by decide) (key n b3 (axm p hm) ⟨_,[],rfl,R.keep (bR.below n fun q z h=>h.elim id fun e=>absurd e (by have:=z;omega)) _ _ I,rfl⟩) ?_;rintro _ t ⟨v,rfl,y,S,R5,U⟩;obtain rfl:=Vr y;refine⟨_,rfl,?_⟩;refine bW rfl rfl R5 (jF _) cw fun C R9 O9=> ?_;refine WL.nil (aM (CW.ret ?_));exact NX.ret (LL rfl rfl R9 gC rfl cw ⟨_,rfl,X S O9 y U⟩)
 |succ k=>
  have O:gm (bL m)=false:=by rcases hm with rfl|rfl<;>decide +kernel
  have l:∀s,mStart≠s/\dR≠s->decide (m=s)=false:=fun s h=>Y0 fun e=>hm.elim (fun q=>h.1 (q.symm.trans e)) fun q=>h.2 (q.symm.trans e);have L:∀{c:Bool} {s:ByteArray},mStart≠s/\dR≠s->some (Value.bool (c&&gz .eql m s))=some (.bool false):=fun h=>by rw[oA,l _ h,Yo]
  have hy:∀{c:Bool},some (Value.bool (c&&gm (bL m)))=some (.bool false):=by rw[O];simp
  have J:=hn k (by omega);have e:bi (k+1) p (bL m)=bi k p (bL m):=by have o:∀s,mStart≠s/\dR≠s->¬(bL m).method=s:=fun s h=>of_decide_eq_false (l s h);rw[bi,aw fun h=>o jQ (by decide +kernel) h.2,aw (by simp[O]),aw (by simp[O]),aw fun h=>o jP (by decide +kernel) h.2,aw fun h=>o jD (by decide +kernel) h.2,aw fun h=>o jo (by decide +kernel) h.2,aw J]
  rw[e];obtain⟨F,_,l, -,G,_,rfl, -,O,_,rfl, -,V,_,rfl, -,W,_,rfl, -,u5,_,rfl,o,rfl⟩:=id Z;subst l;obtain⟨a,len,cap,rfl,l,F,G,V,W⟩:=o;rw[dq]at l;obtain⟨⟨b,o,s⟩,rfl⟩:∃x,a=some x:=by cases a with|none=>have:=V rfl;omega|some x=>exact⟨x,rfl⟩
  obtain⟨F,l⟩:=W b o s rfl;obtain rfl:=F (by omega);obtain⟨⟨O,F, -,rfl, -⟩, -⟩:=l.get (n:=2) (fun r h=>by obtain⟨x, -,rfl⟩:=fN.1 h;rfl) (get_map p.ai (show k<p.ai.length by omega));have O:dQ .sub .i64 ((k+1:Nat):Int) 1=(k:Int):=by unfold maxLen at G;rw[lS];omega
  refine CW.seq (aO ?_);refine ah (bB kS (b1.cell 0)) ?_;refine ah (iB (b:=false) (hb:=by simp[bg];omega)) ?_;refine WL.nil (aM (CW.no (CW.skip (aM ?_))));refine CW.seq (auu mo (by kernel_rfl) fun A Q B=> ?_);replace b0:=b0.below B b0.lt;replace b1:=b1.below B b1.lt;replace b2:=b2.below B b2.lt;replace b3:=b3.below B b3.lt;have n:=bt HW B;replace F:=Di n F;have l:=aA.cell (show aA A g T _ from(n.block g d).trans Y) 5;refine wS rfl rfl (bB YN (b0.cell 0)) (by decide) ?_;refine wS rfl rfl (sC rfl rfl) (by decide) ?_;refine wS rfl rfl (br Bi) (by decide) ?_;refine wS rfl rfl (bB zy l) (by decide) ?_;refine wS rfl rfl (bB kS (b1.cell 0)) (by decide) ?_;refine wS rfl rfl (iA (hb:=O)) (by decide) ?_;refine wS rfl rfl (yR rfl rfl rfl (by omega) (by omega) Dm) (by decide) ?_;refine wS rfl rfl bO (by decide) ?_;refine awl (aM ?_);have r:=b2.cell 0;refine bA (E':=[(3,.pointer (some ⟨w.heap.size,0,none⟩)),(4,.pointer (some ⟨w.heap.size+1,0,none⟩)),(5,.pointer (some ⟨w.heap.size+1+1,0,none⟩)),(6,.pointer (some ⟨w.heap.size+1+1+1,0,none⟩)),(7,.pointer (some ⟨b,o+k*2,none⟩))]) ?_;refine aO ?_;refine ah (aE7 (ps:=#[.pointer (some ⟨w.heap.size,0,none⟩),.pointer (some ⟨w.heap.size+1,0,none⟩)]) rfl rfl) ?_;refine ah bO ?_;refine bq ?_;refine CW.seq (CW.region (anp rfl rfl rfl rfl rfl rfl rfl rfl rfl rfl rfl rfl rfl rfl rfl rfl rfl rfl rfl rfl rfl rfl rfl rfl rfl rfl rfl (by decide) rfl (fun _ _ _ _=>rfl) (by decide) iy rfl vL r ?_));intro Y d l;refine aM (CW.sub (E':=Ei w b o k (bL m)) ⟨(d 3 (by decide)).trans rfl,(d 4 (by decide)).trans rfl,(d 5 (by decide)).trans rfl,(d 6 (by decide)).trans rfl,(d 7 (by decide)).trans rfl,(d 8 (by decide)).trans rfl,l.trans (by rw[oA,oA];rfl),trivial⟩ ?_);refine CW.seq (CW.block ?_);refine CW.seq (CW.region (VL rfl rfl rfl rfl rfl rfl rfl rfl rfl rfl rfl rfl rfl rfl rfl rfl rfl rfl rfl rfl rfl rfl rfl rfl rfl rfl rfl rfl rfl rfl rfl rfl rfl (by decide) (fun _ _ _ _ _ _=>rfl) (by decide) rfl Dq iy rfl F vL r ?_));intro Y d l;refine aM (CW.sub (E':=(36,.bool false)::Ei w b o k (bL m)) ⟨l.trans (L (by decide +kernel)),(d 3 (by decide)).trans rfl,(d 4 (by decide)).trans rfl,(d 5 (by decide)).trans rfl,(d 6 (by decide)).trans rfl,(d 7 (by decide)).trans rfl,(d 8 (by decide)).trans rfl,(d 9 (by decide)).trans rfl,trivial⟩ (CW.no ?_))
  refine CW.seq (CW.region (ano rfl rfl rfl rfl rfl rfl rfl rfl rfl rfl rfl rfl rfl rfl rfl rfl rfl rfl rfl rfl rfl rfl rfl rfl rfl rfl rfl (by decide) (fun _ _ _ _ _ _=>rfl) (by decide) rfl Dq iy rfl F ?_));intro Y d l;refine aM (CW.sub (E':=(52,.bool false)::Ei w b o k (bL m)) ⟨l.trans hy,(d 3 (by decide)).trans rfl,(d 4 (by decide)).trans rfl,(d 5 (by decide)).trans rfl,(d 6 (by decide)).trans rfl,(d 7 (by decide)).trans rfl,(d 8 (by decide)).trans rfl,(d 9 (by decide)).trans rfl,trivial⟩ (CW.no ?_));refine CW.seq (CW.region (ano rfl rfl rfl rfl rfl rfl rfl rfl rfl rfl rfl rfl rfl rfl rfl rfl rfl rfl rfl rfl rfl rfl rfl rfl rfl rfl rfl (by decide) (fun _ _ _ _ _ _=>rfl) (by decide) rfl Dq iy rfl F ?_));intro Y d l;refine aM (CW.sub (E':=(75,.bool false)::Ei w b o k (bL m)) ⟨l.trans hy,(d 3 (by decide)).trans rfl,(d 4 (by decide)).trans rfl,(d 5 (by decide)).trans rfl,(d 6 (by decide)).trans rfl,(d 7 (by decide)).trans rfl,(d 8 (by decide)).trans rfl,(d 9 (by decide)).trans rfl,trivial⟩ (CW.no ?_));refine CW.seq (CW.region (VL rfl rfl rfl rfl rfl rfl rfl rfl rfl rfl rfl rfl rfl rfl rfl rfl rfl rfl rfl rfl rfl rfl rfl rfl rfl rfl rfl rfl rfl rfl rfl rfl rfl (by decide) (fun _ _ _ _ _ _=>rfl) (by decide) rfl Dq iy rfl F vL r ?_));intro Y d l;refine aM (CW.sub (E':=(100,.bool false)::Ei w b o k (bL m)) ⟨l.trans (L (by decide +kernel)),(d 3 (by decide)).trans rfl,(d 4 (by decide)).trans rfl,(d 5 (by decide)).trans rfl,(d 6 (by decide)).trans rfl,(d 7 (by decide)).trans rfl,(d 8 (by decide)).trans rfl,(d 9 (by decide)).trans rfl,trivial⟩ (CW.no ?_));refine CW.seq (CW.region (VL rfl rfl rfl rfl rfl rfl rfl rfl rfl rfl rfl rfl rfl rfl rfl rfl rfl rfl rfl rfl rfl rfl rfl rfl rfl rfl rfl rfl rfl rfl rfl rfl rfl (by decide) (fun _ _ _ _ _ _=>rfl) (by decide) rfl Dq iy rfl F vL r ?_));intro Y d l;refine aM (CW.sub (E':=(112,.bool false)::Ei w b o k (bL m)) ⟨l.trans (L (by decide +kernel)),(d 3 (by decide)).trans rfl,(d 4 (by decide)).trans rfl,(d 5 (by decide)).trans rfl,(d 6 (by decide)).trans rfl,(d 7 (by decide)).trans rfl,(d 8 (by decide)).trans rfl,(d 9 (by decide)).trans rfl,trivial⟩ (CW.no ?_))
  refine CW.seq (CW.region (VL rfl rfl rfl rfl rfl rfl rfl rfl rfl rfl rfl rfl rfl rfl rfl rfl rfl rfl rfl rfl rfl rfl rfl rfl rfl rfl rfl rfl rfl rfl rfl rfl rfl (by decide) (fun _ _ _ _ _ _=>rfl) (by decide) rfl Dq iy rfl F vL r ?_));intro Y d l;refine aM (CW.sub (E':=(146,.bool false)::Ei w b o k (bL m)) ⟨l.trans (L (by decide +kernel)),(d 3 (by decide)).trans rfl,(d 4 (by decide)).trans rfl,(d 5 (by decide)).trans rfl,(d 6 (by decide)).trans rfl,(d 7 (by decide)).trans rfl,(d 8 (by decide)).trans rfl,(d 9 (by decide)).trans rfl,trivial⟩ (CW.no ?_));refine aO ?_;refine ah aI ?_;refine ah (sC rfl rfl) ?_;refine ah (br Dq) ?_;refine ah (bB iy F) ?_;refine ah (aE5 rfl rfl rfl (show _=false from(oA _ _).trans (Y0 J))) ?_;refine ah bO ?_;refine WL.nil (aM (bA (E':=(161,.bool false)::Ei w b o k (bL m)) (CW.no (CW.skip (sU (aM ?_))))));refine aO ?_;refine ah (bB YN (b0.cell 0)) ?_;refine ah (bB kS (b1.cell 0)) ?_;refine ah (iA (hb:=O)) ?_;refine ah (bG uf b2 uE) ?_;refine WL.c rfl rfl (pL (args:=#[.pointer (some ⟨g,0,none⟩),.int .i64 ((k:Nat):Int),lH (bL m)]) axX rfl rfl rfl) (by decide) (key n b3 (IH k rfl) ⟨_,_,rfl,⟨rfl,by show(-9223372036854775808:Int)<=k;omega,by show(k:Int)<=9223372036854775807;unfold maxLen at G;omega⟩,_,[],rfl,R.keep (bR.below n fun q z h=>h.elim id fun e=>absurd e (by have:=z;omega)) _ _ I,rfl⟩) ?_;rintro _ t ⟨v,rfl,y,S,R5,U⟩;obtain rfl:=Vr y;refine⟨_,rfl,?_⟩;refine bW rfl rfl R5 (jF _) cw fun C R9 O9=> ?_;refine WL.nil (aM (CW.ret ?_));exact LL rfl rfl R9 gC rfl cw ⟨_,rfl,X S O9 y U⟩
def aFb(p:Part){m:ByteArray}(b:m=mStart\/m=dR)(n:∀i,i<p.ai.length->(nth p.ai i).name≠pQ)(k:Nat):k<=p.ai.length->RunT p m k:=by
 induction k with
 |zero=>exact fun a=>anq p b (fun j h=>by omega) a fun i c=>by omega
 |succ k ih=>
  exact fun a=>anq p b (fun j h=>by
   have e:j=k:=by omega
   subst e;exact ih (by omega)) a fun i c=>n i (by omega)
def aCY{s:ByteArray}(h:pG s=true)(hg:cm (qR s) 1=true):s≠pQ/\∀f:Nat,f<64->cm f (mJ s)=true->cm f 1=true:=by
 obtain⟨i,rfl,a,b⟩:=akH h;rw[b]at hg;have key:∀i:Fin 9,cm (GD.getD i.val 0:Nat) 1=true->nth ai i.val≠pQ/\∀f:Fin 64,cm (f.val:Nat) (DL.getD i.val 0:Nat)=true->cm (f.val:Nat) 1=true:=by decide +kernel
 refine⟨(key i hg).1,fun f c h=> ?_⟩;rw[a]at h;exact(key i hg).2 ⟨f,c⟩ h
def alr{p:Part}(a:dw p=true):∀k,k<=p.ai.length->cm (fQ p k) 1=true->∀i,i<k->(nth p.ai i).name≠pQ
 |0,_,_=>fun i b=>by omega
 |k+1,d,h=>by
  unfold dw at a;simp only[aY,kC]at a;have l:=a.2 k (by omega);unfold qY at l;simp only[aY]at l;have f:fQ p (k+1)=qR (nth p.ai k).name:=by unfold fQ;simp
  rw[f]at h;obtain⟨z,c⟩:=aCY l.1.1.1 h;intro i b;by_cases e:i=k
  ·rw[e];exact z
  ·exact alr (by unfold dw;simp only[aY,kC];exact a) k (by omega) (c _ (zF p k) l.1.1.2) i (by omega)
def aFJ:LQ:=fun p m d b=>by
 refine XX aJW rfl aIl Ck mo rfl (by unfold anY;exact⟨jS _,Co _,trivial⟩) (fun _=>rfl) fun _ _=> ?_;unfold ao6;refine fD (Zi p (dV d.1 (by decide)) (dV d.2 (by decide))) (hty:=jS _) ?_;refine aH (Zf p) ?_;refine aH (agM (bL m)) ?_;have e:gy (bL m)=true:=by rcases b with rfl|rfl<;>decide +kernel
 have f:bY m=1:=by rcases b with rfl|rfl<;>decide +kernel
 have n:m≠jQ/\m≠jP/\m≠jD/\m≠jo/\m≠kX:=by rcases b with rfl|rfl<;>decide +kernel
 apply aj<;>intro c<;>simp only[eS,e]at c
 ·exact⟨by unfold fX;rw[aD (.inl (by simpa using c))];rfl,rfl⟩
 ·have a:dw p=true:=by simpa using c
  refine aH (MC p) ?_;refine aH (aw5 m) ?_ (ha:=by(simp only[gS,fB,bL];try exact rfl));refine aH (Sw (fc p) (bY m)) ?_;have g:fX p (bL m)=if cm (fc p) (bY m)=false then(p,rep 1 0 (bY m) (fc p))else bi p.ai.length p (bL m):=by unfold fX;rw[aw (by simp[a,e])];rfl
  rw[g];apply aj<;>intro h<;>simp only[eS]at h
  ·exact⟨by rw[aD (by simpa using h)];rfl,rfl⟩
  ·have h:cm (fc p) (bY m)=true:=by simpa using h
   rw[aw (by simp[h])];refine⟨enc (bi p.ai.length p (bL m)).2,aB.cells (bi p.ai.length p (bL m)).1,wG _,jS _,fun _=> ?_,?_⟩
   ·show aG _ _ (some (aB.cells p)) [.int .i64 (cK (ak p.ai)),enc (bL m)] _ _;rw[show cK (ak p.ai)=(p.ai.length:Int) by simp[cK,ak]];exact aFb p b (alr a _ (bK _) (f▸h)) _ (bK _)
   ·exact⟨rfl,rfl⟩
end
section
open Go.RowKit Go.ChangeShapes Go.WideShapes Go.ChangeAt
variable [GC]
def opn(tb:TB):Nat->Nat->Bool
 |0,_=>false
 |d+1,T=>match tb.get T with
  |none=>false
  |some ti=>match ti.vt with
   |.one (.c (.sl e))=>opn tb d e&&Nat.blt 0 (tb.tab e).length
   |.one (.c _)=>true
   |.one (.agg t)=>A9 tb 0 t ti.fs&&ti.fs.all (fun x=>opn tb d x.2)
   |.aU _=>false
def alF{tb:TB}{d T:Nat}(h:opn tb d T=true):∃ti v,tb.get T=some ti/\ti.vt=.one v/\tb.tab T=v.cells:=by
 cases d with
 |zero=>simp[opn]at h
 |succ d=>
  simp only[opn]at h;split at h
  ·simp at h
  ·rename_i ti t;cases a:ti.vt with
   |aU _=>rw[a]at h;simp at h
   |one v=>exact⟨ti,v,t,a,by simp[TB.tab,t,TI.cells,a]⟩
def at0(tb:TB)(T:Nat):VT:=match tb.get T with|some t=>t.vt|none=>.aU []
def M0:Addr->Prop:=fun _=>False
section
variable {H:Type}{enc:TypeId×Value->H}{P:Program}{w:World}{base:Nat}{spare:Nat->Bool}{held:Bool}{tb:TB}
def aFC{ds:List D}{cs:List Value}{b o:Nat}(h:Rs w M ds cs)(c:∀j u,cs[j]? =some u->w.cell? ⟨b,o+j,none⟩=some u)(a:∀p,¬M p):Rw w M ds b o :=
 CR fun i d e=>by obtain⟨v,f,g⟩:=h.get e;exact⟨v,c i v f,a _,g⟩
def ahj(c:cY P tb tb=true){d T:Nat}(h:opn tb d T=true):P.cellsOf T=(tb.tab T).length:=by obtain⟨t,v,a,b,e⟩:=alF h;obtain⟨i,f,s,_⟩:=tL c a b;simp[Program.cellsOf,f,s,e]
def alE{cs:List Value}:∀(f:List (Nat×Nat)) (o:Nat) (s:List CT),A9 tb o s f=true ->
  (∀p∈f,∃ds,bE tb.tab (tb.tab p.2) ds/\Rs w M0 ds ((cs.drop p.1).take (tb.tab p.2).length))->cs.length=o+s.length->∃ds,bE tb.tab s ds/\Rs w M0 ds (cs.drop o)
 |[],o,s,h,_,l=>by simp only[A9,List.isEmpty_iff]at h;subst h;refine⟨[],trivial,?_⟩;rw[IB (by simp at l;omega)];rfl
 |(k,t)::r,o,s,h,c,l=>by
  simp only[A9,aY]at h;obtain⟨h1,h2⟩:=h;have h1:=gL h1;subst h1;cases b:tb.get t with
  |none=>rw[b]at h2;simp at h2
  |some i=>
   rw[b]at h2;simp only[aY,dr]at h2;obtain⟨h2,e⟩:=h2;have a:tb.tab t=i.cells:=by simp[TB.tab,b]
   obtain⟨ds,q1,q2⟩:=c (o,t) (by simp);simp only[a]at q1 q2;have g:i.cells.length<=s.length:=by have:=congrArg List.length h2;rw[mO]at this;omega
   obtain⟨d,q3,q4⟩:=alE r (o+i.cells.length) (s.drop i.cells.length) e (fun p j=>c p (by simp[j])) (by rw[LZ];omega);refine⟨ds++d,?_,?_⟩
   ·have:s=i.cells++s.drop i.cells.length:=(Fg i.cells.length s).symm.trans (by rw[h2]);rw[this];exact q1.append q3
   ·have:cs.drop o=(cs.drop o).take i.cells.length++cs.drop (o+i.cells.length):=by rw[<-C5,Fg]
    rw[this];exact q2.append q4
def acr(g:cY P tb tb=true):∀(d T:Nat),opn tb d T=true->∀(I:Nat) (cs:List Value) (x:DataW H×List MemPlace),DataW.trod enc P w base spare held I T cs=some x->∃ds,bE tb.tab (tb.tab T) ds/\Rs w M0 ds cs
 |0,_,h,_,_,_,_=>by simp[opn]at h
 |d+1,T,h,I,cs,x,hx=>by
  simp only[opn]at h;split at h
  ·simp at h
  ·rename_i ti O;have X:tb.tab T=ti.cells:=by simp[TB.tab,O]
   rw[X];cases Y:ti.vt with
   |aU _=>rw[Y]at h;simp at h
   |one v=>
    rw[Y]at h;simp only[TI.cells,Y];cases v with
    |c t=>
     obtain⟨i,ds,_,_,_,_,A,G⟩:=fW g O Y;cases t with
     |mem=>exact G.elim
     |fn=>exact G.elim
     |bool=> simp only[iF]at G;subst G;obtain⟨b,rfl,_⟩:=DataW.trod_bool A hx;exact⟨[.bool b],⟨trivial,trivial⟩,Rs.one rfl⟩
     |int k=> simp only[iF]at G;subst G;obtain⟨n,rfl,_,j⟩:=DataW.trod_int A hx;exact⟨[.int k n],⟨rfl,trivial⟩,Rs.one ⟨rfl,by simpa[Lit.wf]using j⟩⟩
     |str=> simp only[iF]at G;subst G;obtain⟨s,rfl,_,j⟩:=DataW.trod_string A hx;exact⟨[.str s],⟨trivial,trivial⟩,Rs.one ⟨rfl,j⟩⟩
     |sl e=>
      simp only[iF]at G;subst G;simp only[aY]at h;obtain⟨J,B⟩:=h;have B:0<(tb.tab e).length:=gR B;have L:=ahj g J;rcases Go.Deep.open_slice A hx with⟨Q,_⟩|⟨a,len,cap,m,n,l,o,p,_,G,T,j,_,z⟩
      ·exact⟨[.sl []],⟨trivial,trivial⟩,by rw[Q];exact Rs.one ⟨none,0,0,rfl,rfl,bK _,fO _,fun _=>rfl,fun b o s V=>by cases V⟩⟩
      ·have l:len<=m:=by rw[j];split<;>omega
       have Z:∀i,i<len->∃q:List Value×List D,w.cells? base (a.add (i*P.cellsOf e)) (P.cellsOf e)=some q.1/\bE tb.tab (tb.tab e) q.2/\Rs w M0 q.2 q.1:=fun i l=>by obtain⟨j,I,r⟩:=z i (by omega);obtain⟨y,C,F⟩:=acr g d e J _ _ _ r;exact⟨(j,y),I,C,F⟩
       have j:∃f:Nat->List Value×List D,∀i,i<len->w.cells? base (a.add (i*P.cellsOf e)) (P.cellsOf e)=some (f i).1/\bE tb.tab (tb.tab e) (f i).2/\Rs w M0 (f i).2 (f i).1:=by refine⟨fun i=>if z:i<len then(Z i z).choose else([],[]),fun i z=> ?_⟩;simp only[z,dif_pos];exact(Z i z).choose_spec
       obtain⟨f,J⟩:=j;have C:∀i,i<len->∀j u,(f i).1[j]? =some u->w.cell? ((a.add (i*P.cellsOf e)).add j)=some u:=fun i l j u A=>by
        obtain⟨_,r,F⟩:=World.cells?_some (J i l).1;have S:j<P.cellsOf e:=by rw[<-r];exact(db.1 A).1
        rw[F j S,A]
       have F:0<len->a.spot=none:=fun Q=>by
        have S:0<(f 0).1.length:=by rw[(J 0 Q).2.2.length,(J 0 Q).2.1.length];exact B
        have hx:=C 0 Q 0 _ (bX S);rw[Nat.zero_mul]at hx;exact World.cell?_spot (a:=a) (by simpa[Addr.add]using hx)
       refine⟨[.sl ((List.range len).map fun i=>(f i).2)],⟨?_,trivial⟩,?_⟩
       ·refine sV fun r U=> ?_;obtain⟨i,z,rfl⟩:=fN.1 U;exact(J i (by simpa using z)).2.1
       ·rw[p];refine Rs.one ⟨some a,len,cap,rfl,by simp,G,T,(fun h=>by cases h),fun b o s V=>⟨fun Q=> ?_,?_⟩⟩
        ·have:=F Q;simp only[aS]at V;subst V;exact this
        ·simp only[aS]at V;subst V;refine AO (n:=(tb.tab e).length) (fun r U=> ?_) fun i r U=> ?_
         ·obtain⟨i,z,rfl⟩:=fN.1 U;exact(J i (by simpa using z)).2.1.length
         ·have l:i<len:=by have:=(db.1 U).1;simpa using this
          have o:r=(f i).2:=by simp[l]at U;exact U.symm
          subst o;refine aFC (J i l).2.2 (fun j u A=> ?_) (fun _ h=>h);have o:=C i l j u A;have l:=F (by omega);simp only at l;subst l;rw[L]at o
          rwa[addr_add,addr_add]at o
    |agg B=>
     simp only[aY]at h;obtain⟨I,j⟩:=h;obtain⟨i,fields,p,z,l,_,_,_,A,o⟩:=pU g O Y;obtain⟨C,m,_,_,G,r,J⟩:=DataW.trod_struct A hx;have p:cs.length=B.length:=by rw[G];simp[Program.cellsOf,z,l]
     have key:∀p∈ti.fs,∃ds,bE tb.tab (tb.tab p.2) ds/\Rs w M0 ds ((cs.drop p.1).take (tb.tab p.2).length):=by
      intro p z;have l:=fM.1 j p z;obtain⟨k,A⟩:=List.getElem?_of_mem z;have j:∃W,fields.toList[k]? =some W/\W.offset=p.1/\W.type=p.2:=Tk o A;obtain⟨W,o,z,A⟩:=j;have L:fields[k]? =some W:=by simpa using o
      have j:k<C.length:=by rw[r];exact(rQ.1 L).1
      have o:=(J k W L).trans (bX j);rw[z,A,ahj g l]at o;exact acr g d p.2 l _ _ _ o
     have:=alE (w:=w) ti.fs 0 B I key (by omega);simpa[V1.cells]using this
def aED(a:cY P tb tb=true){r:Reach}{b0 T:Nat}{v:Value}{o:DataW H}{p:List MemPlace}(m:opn tb 12 T=true)(f:Value.okWide P w r b0 T v)(h:DataW.Trod enc P w base spare held T v o p) :
  ∃x,bH tb.tab (at0 tb T) x/\R w M0 x v:=by
 obtain⟨l,y⟩:=h;obtain⟨s,g,k⟩:=acr a 12 T m l _ _ y;obtain⟨C,v1,i,b,j⟩:=alF m;rw[j]at g;unfold at0;rw[i];simp only[b];cases v1 with
 |c t=>
  obtain⟨_,d,_,_,_,_,u,n⟩:=fW a i b;have z:v.cells.toList=[v]:=by
   cases t<;>simp only[iF]at n<;>subst n
   ·obtain⟨_,rfl⟩:=okWide_bool u f;rfl
   ·obtain⟨_,rfl⟩:=okWide_int u f;rfl
   ·obtain⟨_,rfl⟩:=okWide_string u f;rfl
   ·obtain⟨_,_,_,rfl⟩:=okWide_slice u f;rfl
  rw[z]at k
  match s,g with
  |[x],g=> obtain⟨F,q,e,A,G⟩:=k;simp only[C4]at e;obtain⟨rfl,rfl⟩:=e;exact⟨x,g.1,A⟩
 |agg I=> obtain⟨_,fields,_,_,_,_,_,_,u,_⟩:=pU a i b;obtain⟨B,rfl,_⟩:=okWide_struct u f;exact⟨.agg s,g,B,rfl,k⟩
end
theorem law_run{P:Program}{f:FuncId}{ds:List D}{vs:List Value}{w:World}(h:aG P f none ds (.bool true) [])(G:dZ w M0)(r:Rs w M0 ds vs):Calls P f vs.toArray w fun e w'=>e=.returned (.bool true)/\Below w.heap.size w w':=by refine(h.2 w M0 0 vs G r (fun s c=>by cases c)).mono ?_;rintro e w' ⟨v,rfl,a,b,_⟩;simp only[R]at a;subst a;exact⟨rfl,b.Ek⟩
end
section
open Go.RowKit Go Go.ChangeShapes
def az0{H:Type}{enc:TypeId×Value->H}{a:Assume}{C:Checked}{os:Os}{f:FuncId}{fn:Func}{s:ChangeSpec}{c:List PathCond}{apart fresh h again:Bool}{X:World->Array Value->Prop}
  (x:∀(w w':World) (args:Array Value),w.heap=w'.heap->X w args->X w' args)
  (own:ownKnob C.prog.godebug=none) (r:os.Started) (I:C.prog.inits.idxOf? f=none) (m:C.prog.funcs[f]? =some fn)
  (n:∃(w:World) (p:Tape) (i:Input),w.os=os/\(w.forCall p i).Shaped C.prog/\i.vars=[]/\Input.okWide C.prog (w.forCall p i) .any w.heap.size f i /\
   ((s.pre enc C.prog fn c apart (w.forCall p i).memory i.args/\X (w.forCall p i).memory i.args)/\sizedMet enc C.prog fn (OpenSpec.ofChange s) apart (w.forCall p i).memory i.args)/\a.holds C.prog (lone (Frame.enter C.prog f i.args .normal) [] (w.forCall p i)))
  (o:∀(W:World) (base:Nat) (args:Array Value) (ds gs:List (DataW H)) (b:List MemPlace),
   (∀(j:Nat) t v,fn.params[j]? =some t->args[j]? =some v->Value.okWide C.prog W .any base t v) ->
   DataW.Whole enc C.prog fn.params.toList s.vars apart W args.toList ds gs b ->
   c.all (PathCond.test C.prog ⟨fn.params.toList,ds,s.plain.varTypes C.prog,gs⟩)=true ->
   (DataW.weightsEach C.prog (fn.params.toList++s.plain.varTypes C.prog) (ds++gs)).all (· <=reachBytes)=true->W.ShapedOpen C.prog->X W args ->
   a.holds C.prog (lone (Frame.enter C.prog f args .normal) [] W) ->
   Calls C.prog f args W fun e u=>∃v,e=.returned v/\s.post enc C.prog fn apart fresh h again W args v u) :
  ReturnsInHanded a C os f .any (fun w args=>(s.pre enc C.prog fn c apart w args/\X w args)/\sizedMet enc C.prog fn (OpenSpec.ofChange s) apart w args) (s.post enc C.prog fn apart fresh h again):=by
 refine returnsInHanded_of_calls own r I n fun w p i _ d _ q g y=> ?_;obtain⟨_,_,_,z,k,_,_,_,_,l⟩:=q;cases jy (k.symm.trans m);obtain⟨⟨⟨ds,gs,b,q1,q2⟩,q3⟩,q4⟩:=g;refine(o (w.forCall p i) w.heap.size i.args ds gs b l (DataW.Whole.of_heap (w':=w.forCall p i) (by rfl) q1) q2 (q4.weights q1) d (x _ _ _ (by rfl) q3) y).mono fun e u ⟨v,A,B⟩=> ?_;cases A;exact ChangeSpec.post_blind B
def aGN{ps:Array TypeId}(h:ps.all (fun t=> !P.wantsStandIn t)=true):∀(j:Nat) t,ps[j]? =some t->P.wantsStandIn t=false:=fun j t a=>by rw[QG]at h;have:=h t (Array.mem_of_getElem? a);simpa using this
end
section
open Go
def aCn:ownKnob az.godebug=none:=by kernel_rfl
def akv:laidOutB az=true:=by kernel_rfl
def aCo:mapsRowed az=true:=by kernel_rfl
def aCp:(az.stops==[])=true:=by kernel_rfl
def aCk:(az.stopKnobs==[])=true:=by kernel_rfl
def aCj:(Rows.fnStopsOnlyRow.plainKeys==az.plainKeys)=true:=by kernel_rfl
def aCi:az.stopsHeard=true:=by kernel_rfl
def aCh:az.mayEnter=true:=by kernel_rfl
def aCl:(Rows.fnStopsOnlyRow.lifted==az.liftsFinal)=true:=by kernel_rfl
def aCm:(az.make==some Rows.fnStopsOnlyRow.make)=true:=by kernel_rfl
def jh{a b:Bool}(ha:a=true)(hb:b=true):(a&&b)=true:=by rw[ha,hb];rfl
end
end Go.Proofs.YtoomhbopolalnaaGreatDoor
