/- General lemmas on worlds, cells and results, used by all walks of this seat. Nothing is assumed. -/
import Derived.Test.YtoomhbopolalnaaGreatDoorProg
import Derived.Handy
import Derived.BigQuiet
import Derived.Lib.Hide
import Derived.StillTailTactics
import Derived.Deep.RegionHeld3
set_option linter.all false
namespace Go.Proofs.YtoomhbopolalnaaGreatDoor
variable {P:Program}{v:Value}{a w:World}
section
def tY:=@Addr.add_lit
def kB:=@Addr.mk.injEq
def CY:=@And.left
def QG:=@Array.all_eq_true_iff_forall_mem
def sW:=@Array.getD_eq_getD_getElem?
def QH:=@Array.getElem?_append_left
def Ix:=@Array.getElem?_eq_getElem
def Fa:=@Array.getElem?_eq_none
def rQ:=@Array.getElem?_eq_some_iff
def Iy:=@Array.getElem?_modify
def CZ:=@Array.getElem?_setIfInBounds
def Yk:=@Array.getElem?_setIfInBounds_ne
def sX:=@Array.getElem?_toList
def uW:=@Array.length_toList
def Yl:=@Array.mapM_eq_mapM_toList
def Ym:=@Array.size_append
def Yn:=@Array.size_replicate
def iT:=@Array.toList_inj
def QI:=@Array.toList_map
def agb:=@Array.toList_setIfInBounds
def LX:=@RowKit.Below.heap_alloc
def dP:=@RowKit.Below.refl
def Fb:=@Bool.and_eq_false_iff
def aY:=@Bool.and_eq_true
def Yo:=@Bool.and_false
def uX:=@Bool.eq_iff_iff
def xZ:=@Bool.false_eq_true
def QJ:=@Bool.false_or
def qH:=@Bool.not_eq_true'
def Iz:=@Bool.not_false
def jY:=@Bool.or_eq_true
def qI:=@Bool.true_and
def QK:=@ByteArray.ext
def AP:=@ByteArray.size_append
def Yp:=@Classical.byContradiction
def QL:=@Function.comp_def
def QM:=@Int.le_refl
def LY:=@Int.lt_or_le
def Yr:=@Int.tmod_nonneg
def gX:=@Int.toNat_natCast
def IA:=@Int.toNat_of_nonneg
def Yq:=@IntKind.wrap_i64
def wT:=@Lib.hid
def fM:=@List.all_eq_true
def Ys:=@List.any_eq_false
def uY:=@List.any_eq_true
def iU:=@List.append_assoc
def qJ:=@List.append_nil
def Yt:=@List.append_of_mem
def C4:=@List.cons.injEq
def gY:=@List.cons_append
def Yu:=@List.contains_eq_mem
def agc:=@List.countP_eq_length_filter
def agd:=@List.drop_append_of_le_length
def C5:=@List.drop_drop
def age:=@List.drop_eq_getElem_cons
def IB:=@List.drop_eq_nil_of_le
def Fc:=@List.drop_zero
def mM:=@List.eq_nil_of_length_eq_zero
def zx:=@List.ext_getElem?
def Yv:=@List.flatMap_cons
def Yw:=@List.flatten_cons
def tZ:=@List.getD_cons_succ
def ud:=@List.getD_cons_zero
def kQ:=@List.getD_eq_getElem?_getD
def mN:=@List.getElem?_append_left
def og:=@List.getElem?_append_right
def Yx:=@List.getElem?_cons_succ
def x9:=@List.getElem?_drop
def bX:=@List.getElem?_eq_getElem
def nB:=@List.getElem?_eq_none
def db:=@List.getElem?_eq_some_iff
def iq:=@List.getElem?_map
def IC:=@List.getElem?_range
def C6:=@List.getElem?_set
def ID:=@List.getElem?_set_ne
def QN:=@List.getElem?_set_self
def qe:=@List.getElem?_take
def uZ:=@List.getElem_mem
def AQ:=@List.getElem_of_mem
def jI:=@List.length_append
def dU:=@List.length_cons
def LZ:=@List.length_drop
def IE:=@List.length_dropLast
def Yy:=@List.length_filter_le
def dq:=@List.length_map
def pg:=@List.length_nil
def Yz:=@List.length_pos_iff
def QP:=@List.length_replicate
def vc:=@List.length_set
def mO:=@List.length_take
def YA:=@List.mapM_cons
def AR:=@List.map_append
def Fe:=@List.map_congr_left
def jJ:=@List.map_cons
def QQ:=@List.map_map
def rR:=@List.map_nil
def QR:=@List.map_set
def Ff:=@List.map_take
def iV:=@List.mem_append
def fw:=@List.mem_cons
def AV:=@List.mem_filter
def L0:=@List.mem_iff_getElem
def fN:=@List.mem_map
def agf:=@List.mem_of_find?_eq_some
def jx:=@List.mem_of_getElem?
def QS:=@List.mem_of_mem_drop
def QT:=@List.mem_of_mem_take
def sY:=@List.mem_or_eq_of_mem_set
def om:=@List.mem_range
def mP:=@List.mem_singleton
def agh:=@List.mem_zipIdx_iff_getElem?
def iw:=@List.nil_append
def QU:=@List.nodup_cons
def vf:=@List.not_mem_nil
def YB:=@List.pairwise_iff_getElem
def L3:=@List.range'_succ
def QV:=@List.range_eq_range'
def YC:=@List.range_succ
def Ma:=@List.take_add_one
def Fg:=@List.take_append_drop
def wU:=@List.take_length
def AW:=@List.take_of_length_le
def QW:=@List.take_succ_cons
def YD:=@List.take_succ_eq_append_getElem
def QX:=@List.take_zero
def wV:=@Nat.add_assoc
def C8:=@Nat.add_comm
def iG:=@Nat.add_mul
def rS:=@Nat.add_zero
def gL:=@Nat.eq_of_beq_eq_true
def ue:=@Nat.eq_zero_or_pos
def gR:=@Nat.le_of_ble_eq_true
def lF:=@Nat.le_of_eq
def bK:=@Nat.le_refl
def dV:=@Nat.le_trans
def QY:=@Nat.lt_irrefl
def Mb:=@Nat.lt_of_le_of_lt
def ek:=@Nat.lt_of_lt_of_le
def dO:=@Nat.lt_or_ge
def YE:=@Nat.lt_or_gt_of_ne
def QZ:=@Nat.lt_succ_self
def Fh:=@Nat.lt_trichotomy
def Q0:=@Nat.min_eq_left
def YF:=@Nat.mul_le_mul
def mr:=@Nat.mul_le_mul_right
def oo:=@Nat.one_mul
def nC:=@Nat.zero_add
def fO:=@Nat.zero_le
def yc:=@Ne.symm
def YG:=@Oper.upon_skip
def Mc:=@Oper.upon_value
def jZ:=@Option.getD_some
def Md:=@Option.isSome_iff_exists
def YH:=@Option.isSome_none
def kR:=@Option.map_eq_some_iff
def YI:=@Option.map_none
def j0:=@Option.map_some
def jy:=@Option.some.inj
def aS:=@Option.some.injEq
def gq:=@Prod.mk.injEq
def vg:=@Result.andThen_ok
def YJ:=@Result.ok.injEq
def mw:=@Sem.run_bind
def C9:=@Sem.run_pure
def Q1:=@Tryz.func185
def Q2:=@Tryz.func192
def Q3:=@Tryz.func202
def Q4:=@Tryz.func217
def Q5:=@Tryz.func218
def Q6:=@Tryz.func219
def Q7:=@Tryz.func220
def Q8:=@Tryz.func229
def Q9:=@Tryz.func230
def Ra:=@Tryz.func231
def Rb:=@Tryz.func232
def Rc:=@Tryz.func233
def Rd:=@Tryz.func236
def Re:=@Tryz.func237
def IG:=@Tryz.isAgg0
def II:=@Tryz.isAgg143
def Rf:=@Tryz.isAgg2
def Me:=@Tryz.isAgg20
def Rg:=@Tryz.isAgg214
def Rh:=@Tryz.isAgg215
def Ri:=@Tryz.isAgg218
def Mf:=@Tryz.isAgg22
def IJ:=@Tryz.isAgg223
def Rj:=@Tryz.isAgg233
def Rk:=@Tryz.isAgg234
def Rl:=@Tryz.isAgg245
def Rm:=@Tryz.isAgg246
def Fj:=@Tryz.isAgg3
def Fk:=@Tryz.isAgg4
def Fl:=@Tryz.isAgg5
def Fm:=@Tryz.isAgg9
def IK:=@Tryz.sizeOf0
def IL:=@Tryz.sizeOf143
def YK:=@Tryz.sizeOf193
def YL:=@Tryz.sizeOf194
def Rn:=@Tryz.sizeOf2
def Mg:=@Tryz.sizeOf20
def YM:=@Tryz.sizeOf204
def Ro:=@Tryz.sizeOf214
def Rp:=@Tryz.sizeOf215
def Rt:=@Tryz.sizeOf218
def Mh:=@Tryz.sizeOf22
def IM:=@Tryz.sizeOf223
def Ru:=@Tryz.sizeOf233
def Rv:=@Tryz.sizeOf234
def Rx:=@Tryz.sizeOf245
def Ry:=@Tryz.sizeOf246
def Fo:=@Tryz.sizeOf3
def Fp:=@Tryz.sizeOf4
def Fq:=@Tryz.sizeOf5
def Fs:=@Tryz.sizeOf9
def IP:=@Tryz.underlying0
def gC:=@Tryz.underlying110
def IQ:=@Tryz.underlying143
def YN:=@Tryz.underlying154
def YO:=@Tryz.underlying193
def YP:=@Tryz.underlying194
def Rz:=@Tryz.underlying2
def Mi:=@Tryz.underlying20
def YQ:=@Tryz.underlying204
def YR:=@Tryz.underlying21
def RA:=@Tryz.underlying214
def RC:=@Tryz.underlying215
def RD:=@Tryz.underlying218
def Mj:=@Tryz.underlying22
def IU:=@Tryz.underlying223
def RE:=@Tryz.underlying233
def RF:=@Tryz.underlying234
def pj:=@Tryz.underlying24
def RG:=@Tryz.underlying245
def RH:=@Tryz.underlying246
def qf:=@Tryz.underlying25
def fz:=@Tryz.underlying26
def vz:=@Tryz.underlying27
def cX:=@Tryz.underlying29
def kS:=@Tryz.underlying3
def uf:=@Tryz.underlying31
def YS:=@Tryz.underlying33
def AX:=@Tryz.underlying4
def YT:=@Tryz.underlying48
def zy:=@Tryz.underlying49
def Ft:=@Tryz.underlying5
def dF:=@Tryz.underlying51
def iy:=@Tryz.underlying9
def IV:=@Tryz.zeroValue0
def IW:=@Tryz.zeroValue143
def YU:=@Tryz.zeroValue193
def YV:=@Tryz.zeroValue194
def RI:=@Tryz.zeroValue2
def Mk:=@Tryz.zeroValue20
def YW:=@Tryz.zeroValue204
def YX:=@Tryz.zeroValue21
def RJ:=@Tryz.zeroValue214
def RL:=@Tryz.zeroValue215
def RM:=@Tryz.zeroValue218
def Ml:=@Tryz.zeroValue22
def IX:=@Tryz.zeroValue223
def RN:=@Tryz.zeroValue233
def RO:=@Tryz.zeroValue245
def RP:=@Tryz.zeroValue246
def Fu:=@Tryz.zeroValue3
def Fv:=@Tryz.zeroValue4
def Fw:=@Tryz.zeroValue5
def Fy:=@Tryz.zeroValue9
def fA:=@Value.slice.injEq
def RQ:=@World.cell?_alloc_new
def Da:=@World.cell?_of_block
def eB:=@World.size_alloc
def Mm:=@and_assoc
def yd:=@and_true
def YY:=@beq_eq_false_iff_ne
def vA:=@beq_iff_eq
def gf:=@Go.block_lt_of_cell
def ye:=@Go.cell_of_row
def yf:=@cond_false
def gD:=@cond_true
def YZ:=@decide_eq_decide
def Y0:=@decide_eq_false
def qK:=@decide_eq_false_iff_not
def Mn:=@decide_eq_true
def dr:=@decide_eq_true_eq
def Db:=@forall_eq
def Fz:=@forall_eq_or_imp
def vB:=@Go.heap_alloc_new
def vC:=@if_false
def aw:=@if_neg
def aD:=@if_pos
def sZ:=@if_true
def vD:=@Go.info_parts
def RR:=@of_decide_eq_true
def yg:=@or_false
def Y3:=@Go.run_equalIn_bool'
def IY:=@Go.run_loadCells_list
def IZ:=@Go.run_loadVar_row
def wW:=@true_and
def AY:=@Go.wp_mono
def I0:=@Go.wrap_within
open Go.RowKit
def Di{p:Addr}(hb:Below w.heap.size w a)(h:w.cell? p=some v):a.cell? p=some v:=by rw[hb.cell (gf h)];exact h
def bt{b:World}(h:Below w.heap.size w a)(k:Below a.heap.size a b):Below w.heap.size w b:=h.trans (k.mono h.size)
def aFm{id:Nat}{Q:Exit->Act->World->Prop}{a:Act}{l:List Oper}(n:Nat)(m:P.follows .mixedOrders=true)(B:Region.lexTailB .any l.toArray n=true)
  (h:wpStill P l.toArray w.drew (fun b=>wpList P l.toArray Q (l.drop n) b w.drew) (l.take n) a):(Code.region id l.toArray true).wp P Q a w:=wp_region_still_tail n m B h
def aA(w:World)(g:Nat)(t:TypeId)(cs:Array Value):Prop:=w.heap[g]? =some (.cells cs t (0,0))
section
variable {w w':World}{g:Nat}{t:TypeId}{cs:Array Value}
def aA.lt(h:aA w g t cs):g<w.heap.size:=by
 rcases dO g w.heap.size with l|e
 ·exact l
 ·unfold aA at h;rw[Fa e]at h;cases h
def aA.cell(h:aA w g t cs)(i:Nat):w.cell? ⟨g,i,none⟩=cs[i]? :=ye w g i cs t (0,0) h
def aA.frozen(h:aA w g t cs)(i:Nat):w.frozen? ⟨g,i,none⟩=false:=by unfold aA at h;simp[World.frozen?,h]
def aA.new(w:World)(t:TypeId)(cs:Array Value):aA (w.alloc (.cells cs t)) w.heap.size t cs:=vB w _
def aA.alloc(h:aA w g t cs)(o:Obj):aA (w.alloc o) g t cs:=(LX w o g h.lt).trans h
def aA.xK(h:aA w g t cs)(i:Nat)(u:Value):aA (w.setCell ⟨g,i,none⟩ u) g t (cs.setIfInBounds i u):=by unfold aA at h ⊢;simp[World.setCell,Iy,h]
def aA.far(h:aA w g t cs){p:Addr}(a:g≠p.block)(u:Value):aA (w.setCell p u) g t cs:=(Below.heap_setCell w p u g a).trans h
def aA.below{B:Nat}(h:aA w g t cs)(hb:Below B w w')(hg:g<B):aA w' g t cs:=(hb.block g hg).trans h
def aA.grown{row:Option Nat}(h:aA w g t cs)(hb:w.grownBy w' row)(hg:some g≠row):aA w' g t cs:=(hb.block g h.lt hg).trans h
end
def aFr{fn:Func}{p:Tmp}{ty:TypeId}(h:fn.results=#[.cell p ty])(tmps:Array Value)(w:World){g:Nat}{t:TypeId}{cs:Array Value}(d:TypeDesc)
  (a:tmps.getD p undef=.pointer (some ⟨g,0,none⟩)) (hg:aA w g t cs) (u:P.underlying ty=some d) (hd:(match d with|.struct _|.array _ _=>true|_=>false)=true) (i:(P.info? ty).map (·.size)=some cs.size) :
  (results fn tmps).run P w=.ok (.agg cs) w:=results_cell_row h tmps w g t cs (0,0) d a hg u hd i
end
variable {M M':Addr->Prop}{w':World}
section
open Go.RowKit
class GC where
 inv:World->Prop
 ng:Nat
 keep:∀{w w':World},(∀k,k<ng->w'.heap[k]? =w.heap[k]?)->inv w->inv w'
section
variable [GC]
def NG:Nat:=GC.ng
def qa(w:World):Prop:=GC.inv w
def qa.keep(h:∀k,k<NG->w'.heap[k]? =w.heap[k]?)(a:qa w):qa w':=GC.keep h a
end
def XY(w:World)(g:Nat)(p:Array Value->Prop):Prop:=∃cs t f,w.heap[g]? =some (.cells cs t f)/\p cs
inductive D where
 |bool (b:Bool)
 |int (k:IntKind) (n:Int)
 |str (s:ByteArray)
 |agg (l:List D)
 |aU (l:List D)
 |sl (rows:List (List D))
 |mem (n:Nat)
 |fn (f:Nat) (cB:List (List D))
 |un
instance :Inhabited D:=⟨.un⟩
mutual
def R(w:World)(M:Addr->Prop):D->Value->Prop
 |.bool b,v=>v=.bool b
 |.int k n,v=>v=.int k n/\k.min<=n/\n<=k.max
 |.str s,v=>v=.string s/\s.size<=maxLen
 |.agg l,v=>∃cs:Array Value,v=.agg cs/\Rs w M l cs.toList
 |.aU l,v=>∃cs:Array Value,v=.tuple cs/\Rs w M l cs.toList
 |.sl rows,v=>∃a len cap,v=.slice a len cap/\len=rows.length/\len<=cap/\cap<=maxLen/\(a=none->cap=0) /\
  ∀b o s,a=some ⟨b,o,s⟩->(0<len->s=none)/\jg w M rows b o
 |.mem n,v=>∃a cap,v=.slice a n cap/\n<=cap/\cap<=maxLen/\(a=none->cap=0)/\∀b o s,a=some ⟨b,o,s⟩->0<n->s=none
 |.fn f c,v=>∃ps:Array Value,v=.func (.func f) #[] ps/\nA w M c ps.toList
 |.un,_=>False
def Rs(w:World)(M:Addr->Prop):List D->List Value->Prop
 |[],vs=>vs=[]
 |d::l,vs=>∃v r,vs=v::r/\R w M d v/\Rs w M l r
def Rw(w:World)(M:Addr->Prop):List D->Nat->Nat->Prop
 |[],_,_=>True
 |d::l,b,o=>(∃v,w.cell? ⟨b,o,none⟩=some v/\¬M ⟨b,o,none⟩/\R w M d v)/\Rw w M l b (o+1)
def jg(w:World)(M:Addr->Prop):List (List D)->Nat->Nat->Prop
 |[],_,_=>True
 |r::l,b,o=>Rw w M r b o/\jg w M l b (o+r.length)
def nA(w:World)(M:Addr->Prop):List (List D)->List Value->Prop
 |[],vs=>vs=[]
 |r::l,vs=>∃b q,vs=.pointer (some ⟨b,0,none⟩)::q/\Rw w M r b 0/\nA w M l q
end
def bR(w:World)(M:Addr->Prop)(w':World)(M':Addr->Prop):Prop:=∀p v,w.cell? p=some v->¬M p->w'.cell? p=some v/\¬M' p
section
variable {w w':World}{M M':Addr->Prop}
mutual
def R.keep(h:bR w M w' M'):∀(d:D) (v:Value),R w M d v->R w' M' d v
 |.bool _,_,r=>r
 |.int _ _,_,r=>r
 |.str _,_,r=>r
 |.agg l,v,⟨cs,e,r⟩=>⟨cs,e,Rs.keep h l _ r⟩
 |.aU l,v,⟨cs,e,r⟩=>⟨cs,e,Rs.keep h l _ r⟩
 |.sl rows,v,⟨a,len,cap,e,h1,h2,i,j,f⟩=>⟨a,len,cap,e,h1,h2,i,j,fun b o s ha=>⟨(f b o s ha).1,jg.keep h rows b o (f b o s ha).2⟩⟩
 |.mem _,_,r=>r
 |.fn _ c,v,⟨ps,e,r⟩=>⟨ps,e,nA.keep h c _ r⟩
 |.un,_,r=>r
def Rs.keep(h:bR w M w' M'):∀(l:List D) (vs:List Value),Rs w M l vs->Rs w' M' l vs
 |[],_,a=>a
 |d::l,vs,⟨v,r,e,h1,h2⟩=>⟨v,r,e,R.keep h d v h1,Rs.keep h l r h2⟩
def Rw.keep(h:bR w M w' M'):∀(l:List D) (b o:Nat),Rw w M l b o->Rw w' M' l b o
 |[],_,_,_=>trivial
 |d::l,b,o,⟨⟨v,h1,h2,a⟩,c⟩=>⟨⟨v,(h _ _ h1 h2).1,(h _ _ h1 h2).2,R.keep h d v a⟩,Rw.keep h l b (o+1) c⟩
def jg.keep(h:bR w M w' M'):∀(l:List (List D)) (b o:Nat),jg w M l b o->jg w' M' l b o
 |[],_,_,_=>trivial
 |r::l,b,o,⟨h1,h2⟩=>⟨Rw.keep h r b o h1,jg.keep h l b (o+r.length) h2⟩
def nA.keep(h:bR w M w' M'):∀(l:List (List D)) (vs:List Value),nA w M l vs->nA w' M' l vs
 |[],_,a=>a
 |r::l,vs,⟨b,q,e,h1,h2⟩=>⟨b,q,e,Rw.keep h r b 0 h1,nA.keep h l q h2⟩
end
def nA.snoc{r:List D}{b:Nat}(h:Rw w M r b 0):∀{l:List (List D)} {vs:List Value},nA w M l vs->nA w M (l++[r]) (vs++[.pointer (some ⟨b,0,none⟩)])
 |[],_,a=>by subst a;exact⟨b,[],rfl,h,rfl⟩
 |d::l,vs,⟨c,q,e,h1,h2⟩=>by subst e;exact⟨c,q++[_],rfl,h1,nA.snoc h h2⟩
def nA.length:∀{l:List (List D)} {vs:List Value},nA w M l vs->vs.length=l.length
 |[],_,h=>by subst h;rfl
 |_::l,_,⟨_,_,e,_,h2⟩=>by subst e;simp[nA.length h2]
def nA.get:∀{l:List (List D)} {vs:List Value},nA w M l vs->∀{i:Nat} {r:List D},l[i]? =some r->∃b,vs[i]? =some (.pointer (some ⟨b,0,none⟩))/\Rw w M r b 0
 |[],_,_,i,r,h=>by simp at h
 |r::l,_,⟨b,q,e,h1,h2⟩,0,a,h=>by subst e;simp at h;subst h;exact⟨b,rfl,h1⟩
 |r::l,_,⟨b,q,e,h1,h2⟩,i+1,a,h=>by subst e;simp at h;obtain⟨u,c,d⟩:=nA.get h2 h;exact⟨u,by simpa using c,d⟩
def Rs.length:∀{l:List D} {vs:List Value},Rs w M l vs->vs.length=l.length
 |[],_,h=>by subst h;rfl
 |d::l,vs,⟨v,r,e,h1,h2⟩=>by subst e;simp[Rs.length h2]
def Rs.get:∀{l:List D} {vs:List Value},Rs w M l vs->∀{i:Nat} {d:D},l[i]? =some d->∃v,vs[i]? =some v/\R w M d v
 |[],_,_,i,d,hd=>by simp at hd
 |d::l,vs,⟨v,r,e,h1,h2⟩,0,a,hd=>by subst e;simp at hd;subst hd;exact⟨v,rfl,h1⟩
 |d::l,vs,⟨v,r,e,h1,h2⟩,i+1,a,hd=>by subst e;simp at hd;obtain⟨u,h,b⟩:=Rs.get h2 hd;exact⟨u,by simpa using h,b⟩
def Rs.append:∀{l b:List D} {vs s:List Value},Rs w M l vs->Rs w M b s->Rs w M (l++b) (vs++s)
 |[],_,_,_,h,a=>by subst h;simpa using a
 |d::l,_,vs,s,⟨v,r,e,h1,h2⟩,a=>by subst e;exact⟨v,r++s,rfl,h1,Rs.append h2 a⟩
def Rs.drop:∀{l:List D} {vs:List Value},Rs w M l vs->∀n,Rs w M (l.drop n) (vs.drop n)
 |_,_,h,0=>by simpa using h
 |[],_,h,n+1=>by subst h;simp[Rs]
 |d::l,vs,⟨v,r,e,h1,h2⟩,n+1=>by subst e;simpa using Rs.drop h2 n
def Rs.take:∀{l:List D} {vs:List Value},Rs w M l vs->∀n,Rs w M (l.take n) (vs.take n)
 |_,_,h,0=>by simp[Rs]
 |[],_,h,n+1=>by subst h;simp[Rs]
 |d::l,vs,⟨v,r,e,h1,h2⟩,n+1=>by subst e;exact⟨v,r.take n,by simp,h1,Rs.take h2 n⟩
def Rs.one{d:D}(h:R w M d v):Rs w M [d] [v]:=⟨v,[],rfl,h,rfl⟩
def Rw.get:∀{l:List D} {b o:Nat},Rw w M l b o->∀{i:Nat} {d:D},l[i]? =some d->∃v,w.cell? ⟨b,o+i,none⟩=some v/\¬M ⟨b,o+i,none⟩/\R w M d v
 |[],_,_,_,i,d,hd=>by simp at hd
 |d::l,b,o,⟨h1,h2⟩,0,a,hd=>by simp at hd;subst hd;simpa using h1
 |d::l,b,o,⟨h1,h2⟩,i+1,a,hd=>by
  simp at hd;have:=Rw.get h2 hd
  rwa[show o+1+i=o+(i+1) by omega]at this
def Rw.drop:∀{l:List D} {b o:Nat},Rw w M l b o->∀n,Rw w M (l.drop n) b (o+n)
 |_,_,_,h,0=>by simpa using h
 |[],_,_,h,n+1=>by simp[Rw]
 |d::l,b,o,⟨h1,h2⟩,n+1=>by have:=Rw.drop h2 n;simpa[wV,C8 1 n]using this
def Rw.take:∀{l:List D} {b o:Nat},Rw w M l b o->∀n,Rw w M (l.take n) b o
 |_,_,_,h,0=>by simp[Rw]
 |[],_,_,h,n+1=>by simp[Rw]
 |d::l,b,o,⟨h1,h2⟩,n+1=>⟨h1,Rw.take h2 n⟩
def CR:∀{l:List D} {b o:Nat},(∀i d,l[i]? =some d->∃v,w.cell? ⟨b,o+i,none⟩=some v/\¬M ⟨b,o+i,none⟩/\R w M d v)->Rw w M l b o
 |[],_,_,_=>trivial
 |d::l,b,o,h=>⟨by simpa using h 0 d rfl,CR fun i a hd=>by
  have:=h (i+1) a (by simpa using hd)
  rwa[show o+(i+1)=o+1+i by omega]at this⟩
def Rw.cells:∀{l:List D} {b o:Nat},Rw w M l b o->∃vs:List Value,vs.length=l.length/\Rs w M l vs/\∀i u,vs[i]? =some u->w.cell? ⟨b,o+i,none⟩=some u
 |[],_,_,_=>⟨[],rfl,rfl,fun i u h=>by simp at h⟩
 |d::l,b,o,⟨⟨v,h1,h2,c⟩,f⟩=>by
  obtain⟨vs,e,r,j⟩:=Rw.cells f;refine⟨v::vs,by simp[e],⟨v,vs,rfl,c,r⟩,fun i u a=> ?_⟩;cases i with
  |zero=>simp at a;subst a;simpa using h1
  |succ i=>simp at a;have:=j i u a;rwa[show o+1+i=o+(i+1) by omega]at this
def jg.get{n:Nat}:∀{rows:List (List D)} {b o:Nat},jg w M rows b o->(∀r∈rows,r.length=n)->∀{i:Nat} {r:List D},rows[i]? =some r->Rw w M r b (o+i*n)
 |[],_,_,_,_,i,r,h=>by simp at h
 |r::l,b,o,⟨h1,h2⟩,a,0,c,h=>by simp at h;subst h;simpa using h1
 |r::l,b,o,⟨h1,h2⟩,a,i+1,c,h=>by
  simp at h;have e:=a r (by simp);have:=jg.get h2 (fun x d=>a x (by simp[d])) h;rw[e]at this
  rwa[show o+n+i*n=o+(i+1)*n by rw[iG];omega]at this
def AO{n:Nat}:∀{rows:List (List D)} {b o:Nat},(∀r∈rows,r.length=n)->(∀i r,rows[i]? =some r->Rw w M r b (o+i*n))->jg w M rows b o
 |[],_,_,_,_=>trivial
 |r::l,b,o,a,h=>⟨by simpa using h 0 r rfl,AO (fun x hx=>a x (by simp[hx])) fun i c d=>by
  have:=h (i+1) c (by simpa using d);rw[a r (by simp)]
  rwa[show o+(i+1)*n=o+n+i*n by rw[iG];omega]at this⟩
end
section
variable [GC]
def dZ(w:World)(M:Addr->Prop):Prop:=(∀p,M p->p.block<w.heap.size)/\qa w/\NG<=w.heap.size
def dZ.below(h:dZ w M)(hb:Below w.heap.size w w')(a:∀p,M' p->p.block<w'.heap.size):dZ w' M' :=
 ⟨a,h.2.1.keep fun k b=>hb.block k (ek b h.2.2),dV h.2.2 hb.size⟩
end
def bR.below(hb:Below w.heap.size w w')(b:∀p,p.block<w.heap.size->M' p->M p):bR w M w' M' :=
 fun p v a m=>⟨by rw[hb.cell (gf a)];exact a,fun h=>m (b p (gf a) h)⟩
inductive CT where
 |bool|int (k:IntKind)|str|sl (e:Nat)|mem|fn
 deriving DecidableEq
mutual
def cI(tab:Nat->List CT):CT->D->Prop
 |.bool,.bool _=>True
 |.int k,.int a _=>k=a
 |.str,.str _=>True
 |.sl e,.sl rows=>da tab (tab e) rows
 |.mem,.mem _=>True
 |.fn,.fn _ _=>True
 |_,_=>False
def bE(tab:Nat->List CT):List CT->List D->Prop
 |[],[]=>True
 |t::s,d::ds=>cI tab t d/\bE tab s ds
 |_,_=>False
def da(tab:Nat->List CT):List CT->List (List D)->Prop
 |_,[]=>True
 |s,r::rs=>bE tab s r/\da tab s rs
end
def bE.length{tab:Nat->List CT}:∀{s:List CT} {l:List D},bE tab s l->l.length=s.length
 |[],[],_=>rfl
 |t::s,d::ds,h=>by simp[bE]at h;simp[bE.length h.2]
 |[],_::_,h=>by simp[bE]at h
 |_::_,[],h=>by simp[bE]at h
def da.mem{tab:Nat->List CT}{s:List CT}:∀{rows:List (List D)},da tab s rows->∀r∈rows,bE tab s r
 |[],_,r,a=>by simp at a
 |r::l,h,b,a=>by
  simp[da]at h;rcases fw.1 a with e|e
  ·subst e;exact h.1
  ·exact da.mem h.2 b e
def sV{tab:Nat->List CT}{s:List CT}:∀{rows:List (List D)},(∀r∈rows,bE tab s r)->da tab s rows
 |[],_=>by simp[da]
 |r::l,h=>by simp only[da];exact⟨h r (by simp),sV fun x hx=>h x (by simp[hx])⟩
def da.len{tab:Nat->List CT}{s:List CT}{rows:List (List D)}(h:da tab s rows):∀r∈rows,r.length=s.length:=fun r a=>(h.mem r a).length
def bE.get{tab:Nat->List CT}:∀{s:List CT} {l:List D},bE tab s l->∀{i:Nat} {t:CT},s[i]? =some t->∃d,l[i]? =some d/\cI tab t d
 |[],_,_,i,t,a=>by simp at a
 |t::s,d::ds,h,0,b,a=>by simp[bE]at h;simp at a;subst a;exact⟨d,rfl,h.1⟩
 |t::s,d::ds,h,i+1,b,a=>by simp[bE]at h;simp at a;obtain⟨x,hx,h2⟩:=bE.get h.2 a;exact⟨x,by simpa using hx,h2⟩
 |_::_,[],h,_,_,_=>by simp[bE]at h
def bE.append{tab:Nat->List CT}:∀{a s:List CT} {l c:List D},bE tab a l->bE tab s c->bE tab (a++s) (l++c)
 |[],_,[],_,_,b=>by simpa using b
 |t::a,_,d::ds,_,h,b=>by simp[bE]at h;simp only[gY,bE];exact⟨h.1,bE.append h.2 b⟩
 |[],_,_::_,_,h,_=>by simp[bE]at h
 |_::_,_,[],_,h,_=>by simp[bE]at h
def bE.drop{tab:Nat->List CT}:∀{s:List CT} {l:List D},bE tab s l->∀n,bE tab (s.drop n) (l.drop n)
 |_,_,h,0=>by simpa using h
 |[],[],h,n+1=>by simp[bE]
 |t::s,d::ds,h,n+1=>by simp[bE]at h;simpa using bE.drop h.2 n
 |[],_::_,h,_+1=>by simp[bE]at h
 |_::_,[],h,_+1=>by simp[bE]at h
def bE.take{tab:Nat->List CT}:∀{s:List CT} {l:List D},bE tab s l->∀n,bE tab (s.take n) (l.take n)
 |_,_,h,0=>by simp[bE]
 |[],[],h,n+1=>by simp[bE]
 |t::s,d::ds,h,n+1=>by simp[bE]at h;simp only[QW,bE];exact⟨h.1,bE.take h.2 n⟩
 |[],_::_,h,_+1=>by simp[bE]at h
 |_::_,[],h,_+1=>by simp[bE]at h
mutual
def Fits:D->Prop
 |.int k n=>k.min<=n/\n<=k.max
 |.str s=>s.size<=maxLen
 |.agg l=>dC l
 |.aU l=>dC l
 |.sl rows=>rows.length<=maxLen/\Ij rows
 |_=>True
def dC:List D->Prop
 |[]=>True
 |d::l=>Fits d/\dC l
def Ij:List (List D)->Prop
 |[]=>True
 |r::l=>dC r/\Ij l
end
section
variable {w:World}{M:Addr->Prop}
mutual
def LO:∀(d:D) (v:Value),R w M d v->Fits d
 |.bool _,_,_=>trivial
 |.int _ _,_,h=>h.2
 |.str _,_,h=>h.2
 |.agg l,v,⟨cs,e,r⟩=>Iq l _ r
 |.aU l,v,⟨cs,e,r⟩=>Iq l _ r
 |.sl rows,v,⟨a,len,cap,e,h1,h2,i,c,f⟩=>⟨by omega,by
  rcases a with _|⟨b,o,s⟩
  ·have:rows=[]:=mM (by have:=c rfl;omega);subst this;trivial
  ·exact afW rows b o (f b o s rfl).2⟩
 |.mem _,_,_=>trivial
 |.fn _ _,_,_=>trivial
 |.un,_,h=>h.elim
def Iq:∀(l:List D) (vs:List Value),Rs w M l vs->dC l
 |[],_,_=>trivial
 |d::l,vs,⟨v,r,e,h1,h2⟩=>⟨LO d v h1,Iq l r h2⟩
def Yd:∀(l:List D) (b o:Nat),Rw w M l b o->dC l
 |[],_,_,_=>trivial
 |d::l,b,o,⟨⟨v,h1,h2,h⟩,a⟩=>⟨LO d v h,Yd l b (o+1) a⟩
def afW:∀(l:List (List D)) (b o:Nat),jg w M l b o->Ij l
 |[],_,_,_=>trivial
 |r::l,b,o,⟨h1,h2⟩=>⟨Yd r b o h1,afW l b (o+r.length) h2⟩
end
end
def D.ck:D->Int|.int _ n=>n|_=>0
def D.kJ:D->Bool|.bool b=>b|_=>false
def D.Cl:D->ByteArray|.str s=>s|_=>.empty
def D.kZ:D->List D|.agg l=>l|_=>[]
def D.VM:D->List D|.aU l=>l|_=>[]
def D.lO:D->List (List D)|.sl r=>r|_=>[]
@[simp] def gQ (k:IntKind) (n:Int):(D.int k n).ck=n:=rfl
@[simp] def Az (b:Bool):(D.bool b).kJ=b:=rfl
@[simp] def zn (s:ByteArray):(D.str s).Cl=s:=rfl
@[simp] def ml (l:List D):(D.agg l).kZ=l:=rfl
@[simp] def auw (l:List D):(D.aU l).VM=l:=rfl
@[simp] def AB (l:List (List D)):(D.sl l).lO=l:=rfl
def eF:CT->D
 |.bool=>.bool false|.int k=>.int k 0|.str=>.str .empty|.sl _=>.sl []|.mem=>.mem 0|.fn=>.fn 0 []
def cK:D->Int
 |.str s=>s.size
 |.sl r=>r.length
 |.mem n=>n
 |_=>0
def dQ(op:BinOp)(k:IntKind)(x y:Int):Int :=
 match op with
 |.add=>k.wrap (x+y)|.sub=>k.wrap (x-y)|.mul=>k.wrap (x*y)
 |.quo=>k.wrap (x.tdiv y)|.rem=>x.tmod y
 |.and=>k.wrap (BitVec.ofInt k.bits x &&& BitVec.ofInt k.bits y).toNat
 |.or=>k.wrap (BitVec.ofInt k.bits x |||BitVec.ofInt k.bits y).toNat
 |.xor=>k.wrap (BitVec.ofInt k.bits x ^^^ BitVec.ofInt k.bits y).toNat
 |.andNot=>k.wrap (BitVec.ofInt k.bits x &&& ~~~(BitVec.ofInt k.bits y)).toNat
 |.shl=>k.wrap (x*2^(min y.toNat k.bits))
 |.shr=>x.fdiv (2^(min y.toNat k.bits))
 |_=>0
def bg(op:BinOp)(x y:Int):Bool :=
 match op with
 |.eql=>x==y|.neq=>x != y|.lss=>decide (x<y)|.leq=>decide (x<=y)|.gtr=>decide (x>y)|.geq=>decide (x>=y)
 |_=>false
def gz(op:BinOp)(x y:ByteArray):Bool :=
 match op with
 |.eql=>x.toList==y.toList|.neq=> !(x.toList==y.toList)
 |.lss=>Op.bytesLess x.toList y.toList
 |.leq=>Op.bytesLess x.toList y.toList||x.toList==y.toList
 |.gtr=> !(Op.bytesLess x.toList y.toList||x.toList==y.toList)
 |.geq=> !Op.bytesLess x.toList y.toList
 |_=>false
def rV(d:D)(lo h:Int):D :=
 match d with
 |.str s=>.str (s.extract lo.toNat h.toNat)
 |.sl r=>.sl ((r.drop lo.toNat).take (h.toNat-lo.toNat))
 |_=>.un
def Dl:D->D->Bool
 |.bool a,.bool b=>a==b
 |.int _ a,.int _ b=>a==b
 |.str a,.str b=>a.toList==b.toList
 |_,_=>false
def kU:List D->List D->Bool
 |[],[]=>true
 |a::l,b::r=>Dl a b&&kU l r
 |_,_=>false
def Mz(d:D):ByteArray:=strOfNums (d.lO.map fun r=>(r.headD .un).ck)
inductive E where
 |var (i:Nat)
 |lb (x:Bool)|li (k:IntKind) (n:Int)|ls (x:ByteArray)|ja (e:Nat)
 |ar (op:BinOp) (k:IntKind) (x y:E)
 |ic (op:BinOp) (x y:E)
 |sc (op:BinOp) (x y:E)
 |tJ (x y:E)|uM (x y:E)
 |bc (x y:E)
 |ae (x y:E)
 |no (x:E)
 |an (x y:E)|or (x y:E)
 |conv (k:IntKind) (x:E)
 |len (x:E)
 |I7 (x:E)
 |ite (c x y:E)
 |row (ts:List CT) (x i:E)
 |at (x i:E)
 |cell (x:E) (j:Nat)
 |sub (x:E) (j n:Nat)
 |proj (x:E) (j:Nat)
 |E8|aq (x:E)|cat (x y:E)
 |zb|bn (x y:E)
 |cut (x lo hi:E)
 |app (x y:E)
 |put (x r:E)
 |bN (x i:E)
 |inc (x lo hi:E)
 |few (x y:E)
 |Kt (t:CT) (x i:E)
 |mem (l:E)
 |rep (e:Nat) (ts:List CT) (n:E)
 |aW (x i r:E) (off:Nat)
 |fn0 (f:Nat)
 |FX (x r:E)
 deriving DecidableEq
def xJ{α:Type}:List α->Nat->List α->List α
 |cs,_,[]=>cs
 |cs,off,x::r=>xJ (cs.set off x) (off+1) r
def oT(rows:List (List D))(i off:Nat)(l:List D):List (List D):=rows.set i (xJ (rows.getD i []) off l)
def af8:D->D->D
 |.fn f c,r=>.fn f (c++[r.kZ])
 |_,_=>.un
def E.den(env:List D):E->D
 |.fn0 f=>.fn f []
 |.FX x r=>af8 (x.den env) (r.den env)
 |.mem l=>.mem (l.den env).ck.toNat
 |.rep _ s n=>.sl (List.replicate (n.den env).ck.toNat (s.map eF))
 |.aW x i r off=>.sl (oT (x.den env).lO (i.den env).ck.toNat off (r.den env).kZ)
 |.Kt t x i=>((x.den env).kZ[(i.den env).ck.toNat]?).getD (eF t)
 |.var i=>env.getD i .un
 |.lb x=>.bool x|.li k n=>.int k n|.ls x=>.str x|.ja _=>.sl []
 |.ar op k x y=>.int k (dQ op k (x.den env).ck (y.den env).ck)
 |.ic op x y=>.bool (bg op (x.den env).ck (y.den env).ck)
 |.sc op x y=>.bool (gz op (x.den env).Cl (y.den env).Cl)
 |.tJ x y=>.str ((x.den env).Cl++(y.den env).Cl)
 |.uM x y=>.bool (decide ((x.den env).Cl.size+(y.den env).Cl.size<=maxLen))
 |.bc x y=>.bool ((x.den env).kJ==(y.den env).kJ)
 |.ae x y=>.bool (kU (x.den env).kZ (y.den env).kZ)
 |.no x=>.bool (!(x.den env).kJ)
 |.an x y=>.bool ((x.den env).kJ&&(y.den env).kJ)
 |.or x y=>.bool ((x.den env).kJ||(y.den env).kJ)
 |.conv k x=>.int k (k.wrap (x.den env).ck)
 |.len x=>.int .i64 (cK (x.den env))
 |.I7 x=>.str (Mz (x.den env))
 |.ite c x y=>bif (c.den env).kJ then x.den env else y.den env
 |.row s x i=>.agg (((x.den env).lO[(i.den env).ck.toNat]?).getD (s.map eF))
 |.at x i=>.int .u8 ((((x.den env).Cl[(i.den env).ck.toNat]?).map (fun (c:UInt8)=>(c.toNat:Int))).getD 0)
 |.cell x j=>(x.den env).kZ.getD j .un
 |.sub x j n=>.agg (((x.den env).kZ.drop j).take n)
 |.proj x j=>(x.den env).VM.getD j .un
 |.E8=>.agg []
 |.aq x=>.agg [x.den env]
 |.cat x y=>.agg ((x.den env).kZ++(y.den env).kZ)
 |.zb=>.aU []
 |.bn x y=>.aU ((x.den env).VM++[y.den env])
 |.cut x lo h=>rV (x.den env) (lo.den env).ck (h.den env).ck
 |.app x y=>.sl ((x.den env).lO++(y.den env).lO)
 |.put x r=>.sl ((x.den env).lO++[(r.den env).kZ])
 |.bN x i=>.bool (decide (0<=(i.den env).ck/\(i.den env).ck<cK (x.den env)))
 |.inc x lo h=>.bool (decide (0<=(lo.den env).ck/\(lo.den env).ck<=(h.den env).ck/\(h.den env).ck<=cK (x.den env)))
 |.few x y=>.bool (decide ((x.den env).lO.length+(y.den env).lO.length<=4294967296))
inductive V1 where
 |c (t:CT)|agg (l:List CT)
 deriving DecidableEq
inductive VT where
 |one (v:V1)|aU (l:List V1)
 deriving DecidableEq
def V1.cells:V1->List CT|.c t=>[t]|.agg l=>l
def dI(tab:Nat->List CT):V1->D->Prop
 |.c t,d=>cI tab t d
 |.agg s,.agg l=>bE tab s l
 |.agg _,_=>False
def lD(tab:Nat->List CT):List V1->List D->Prop
 |[],[]=>True
 |v::vs,d::ds=>dI tab v d/\lD tab vs ds
 |_,_=>False
def bH(tab:Nat->List CT):VT->D->Prop
 |.one v,d=>dI tab v d
 |.aU vs,.aU l=>lD tab vs l
 |.aU _,_=>False
def lD.get{tab:Nat->List CT}:∀{vs:List V1} {l:List D},lD tab vs l->∀{i:Nat} {v:V1},vs[i]? =some v->∃d,l[i]? =some d/\dI tab v d
 |[],_,_,i,t,a=>by simp at a
 |t::s,d::ds,h,0,b,a=>by simp[lD]at h;simp at a;subst a;exact⟨d,rfl,h.1⟩
 |t::s,d::ds,h,i+1,b,a=>by simp[lD]at h;simp at a;obtain⟨x,hx,h2⟩:=lD.get h.2 a;exact⟨x,by simpa using hx,h2⟩
 |_::_,[],h,_,_,_=>by simp[lD]at h
def lD.snoc{tab:Nat->List CT}{v:V1}{d:D}(hd:dI tab v d):∀{vs:List V1} {l:List D},lD tab vs l->lD tab (vs++[v]) (l++[d])
 |[],[],_=>by simp[lD,hd]
 |t::s,e::ds,h=>by simp[lD]at h;simp only[gY,lD];exact⟨h.1,lD.snoc hd h.2⟩
 |[],_::_,h=>by simp[lD]at h
 |_::_,[],h=>by simp[lD]at h
def isInt:Option VT->Option IntKind
 |some (.one (.c (.int k)))=>some k
 |_=>none
def gU(t:CT)(o:Option VT):Bool:=o==some (.one (.c t))
def E.inf(tab:Nat->List CT)(Γ:List VT):E->Option VT
 |.mem l=>if(isInt (l.inf tab Γ)).isSome then some (.one (.c .mem))else none
 |.fn0 _=>some (.one (.c .fn))
 |.FX x r=>match x.inf tab Γ,r.inf tab Γ with|some (.one (.c .fn)),some (.one (.agg _))=>some (.one (.c .fn))|_,_=>none
 |.rep e s n=>if tab e=s/\(isInt (n.inf tab Γ)).isSome then some (.one (.c (.sl e)))else none
 |.aW x i r off=>match x.inf tab Γ,r.inf tab Γ with
  |some (.one (.c (.sl e))),some (.one (.agg us))=>if us=((tab e).drop off).take us.length/\(isInt (i.inf tab Γ)).isSome then some (.one (.c (.sl e)))else none
  |_,_=>none
 |.Kt t x i=>match x.inf tab Γ with|some (.one (.agg s))=>if s.all (fun u=>decide (u=t))=true/\(isInt (i.inf tab Γ)).isSome=true then some (.one (.c t))else none|_=>none
 |.var i=>Γ[i]?
 |.lb _=>some (.one (.c .bool))
 |.li k n=>if k.min<=n/\n<=k.max then some (.one (.c (.int k)))else none
 |.ls x=>if x.size<=maxLen then some (.one (.c .str))else none
 |.ja e=>some (.one (.c (.sl e)))
 |.ar _ k x y=>if(isInt (x.inf tab Γ)).isSome/\(isInt (y.inf tab Γ)).isSome then some (.one (.c (.int k)))else none
 |.ic _ x y=>if(isInt (x.inf tab Γ)).isSome/\(isInt (y.inf tab Γ)).isSome then some (.one (.c .bool))else none
 |.sc _ x y=>if gU .str (x.inf tab Γ)/\gU .str (y.inf tab Γ)then some (.one (.c .bool))else none
 |.tJ x y=>if gU .str (x.inf tab Γ)/\gU .str (y.inf tab Γ)then some (.one (.c .str))else none
 |.uM _ _=>some (.one (.c .bool))
 |.bc x y=>if gU .bool (x.inf tab Γ)/\gU .bool (y.inf tab Γ)then some (.one (.c .bool))else none
 |.ae _ _=>some (.one (.c .bool))
 |.no x=>if gU .bool (x.inf tab Γ)then some (.one (.c .bool))else none
 |.an x y|.or x y=>if gU .bool (x.inf tab Γ)/\gU .bool (y.inf tab Γ)then some (.one (.c .bool))else none
 |.conv k x=>if(isInt (x.inf tab Γ)).isSome then some (.one (.c (.int k)))else none
 |.len x=>match x.inf tab Γ with|some (.one (.c .str))|some (.one (.c (.sl _)))|some (.one (.c .mem))=>some (.one (.c (.int .i64)))|_=>none
 |.I7 x=>match x.inf tab Γ with|some (.one (.c (.sl e)))=>if tab e=[.int .u8]then some (.one (.c .str))else none|_=>none
 |.ite c x y=>if gU .bool (c.inf tab Γ)/\x.inf tab Γ=y.inf tab Γ then x.inf tab Γ else none
 |.row s x i=>match x.inf tab Γ with
  |some (.one (.c (.sl e)))=>if tab e=s/\(isInt (i.inf tab Γ)).isSome then some (.one (.agg s))else none
  |_=>none
 |.at x i=>if gU .str (x.inf tab Γ)/\(isInt (i.inf tab Γ)).isSome then some (.one (.c (.int .u8)))else none
 |.cell x j=>match x.inf tab Γ with|some (.one (.agg s))=>(s[j]?).map (fun t=>.one (.c t))|_=>none
 |.sub x j n=>match x.inf tab Γ with|some (.one (.agg s))=>if j+n<=s.length then some (.one (.agg ((s.drop j).take n)))else none|_=>none
 |.proj x j=>match x.inf tab Γ with|some (.aU vs)=>(vs[j]?).map .one|_=>none
 |.E8=>some (.one (.agg []))
 |.aq x=>match x.inf tab Γ with|some (.one (.c t))=>some (.one (.agg [t]))|_=>none
 |.cat x y=>match x.inf tab Γ,y.inf tab Γ with|some (.one (.agg a)),some (.one (.agg b))=>some (.one (.agg (a++b)))|_,_=>none
 |.zb=>some (.aU [])
 |.bn x y=>match x.inf tab Γ,y.inf tab Γ with|some (.aU a),some (.one b)=>some (.aU (a++[b]))|_,_=>none
 |.cut x lo h=>if(isInt (lo.inf tab Γ)).isSome/\(isInt (h.inf tab Γ)).isSome then
  match x.inf tab Γ with|some (.one (.c .str))=>some (.one (.c .str))|some (.one (.c (.sl e)))=>some (.one (.c (.sl e)))|_=>none
  else none
 |.app x y=>match x.inf tab Γ,y.inf tab Γ with|some (.one (.c (.sl e))),some (.one (.c (.sl f)))=>if e=f then some (.one (.c (.sl e)))else none|_,_=>none
 |.put x r=>match x.inf tab Γ,r.inf tab Γ with|some (.one (.c (.sl e))),some (.one (.agg s))=>if tab e=s then some (.one (.c (.sl e)))else none|_,_=>none
 |.bN _ _|.inc _ _ _|.few _ _=>some (.one (.c .bool))
def bV(tab:Nat->List CT)(Γ:List VT)(env:List D):Prop:=∀(i:Nat) (t:VT),Γ[i]? =some t->bH tab t (env.getD i .un)
def afw{tab:Nat->List CT}:∀s:List CT,bE tab s (s.map eF)
 |[]=>by simp[bE]
 |t::s=>by simp only[jJ,bE];refine⟨?_,afw s⟩;cases t<;>simp[eF,cI,da]
def zK{tab:Nat->List CT}{k:IntKind}{d:D}(h:cI tab (.int k) d):∃n,d=.int k n:=by cases d<;>simp[cI]at h;subst h;exact⟨_,rfl⟩
def yw{tab:Nat->List CT}{d:D}(h:cI tab .bool d):∃b,d=.bool b:=by cases d<;>simp[cI]at h;exact⟨_,rfl⟩
def Dv{tab:Nat->List CT}{d:D}(h:cI tab .str d):∃s,d=.str s:=by cases d<;>simp[cI]at h;exact⟨_,rfl⟩
def TE{tab:Nat->List CT}{d:D}(h:cI tab .fn d):∃f c,d=.fn f c:=by cases d<;>simp[cI]at h;exact⟨_,_,rfl⟩
def xj{tab:Nat->List CT}{e:Nat}{d:D}(h:cI tab (.sl e) d):∃r,d=.sl r/\da tab (tab e) r:=by cases d<;>simp[cI]at h;exact⟨_,rfl,h⟩
def lX{tab:Nat->List CT}{s:List CT}{d:D}(h:dI tab (.agg s) d):∃l,d=.agg l/\bE tab s l:=by cases d<;>simp[dI]at h;exact⟨_,rfl,h⟩
def aaJ{tab:Nat->List CT}{vs:List V1}{d:D}(h:bH tab (.aU vs) d):∃l,d=.aU l/\lD tab vs l:=by cases d<;>simp[bH]at h;exact⟨_,rfl,h⟩
def yI{o:Option VT}(h:(isInt o).isSome=true):∃k,o=some (.one (.c (.int k))):=by
 unfold isInt at h;split at h
 ·exact⟨_,rfl⟩
 ·simp at h
def vX{t:CT}{o:Option VT}(h:gU t o=true):o=some (.one (.c t)):=by simpa[gU]using h
def aft(tab:Nat->List CT)(t:CT):cI tab t (eF t):=by cases t<;>simp[eF,cI,da]
def amA{tab:Nat->List CT}:∀{s:List CT} {l:List D},l.length=s.length->(∀(i:Nat) (t:CT) (d:D),s[i]? =some t->l[i]? =some d->cI tab t d)->bE tab s l
 |[],[],_,_=>by simp[bE]
 |t::s,d::ds,a,h=>by simp only[bE];exact⟨h 0 t d rfl rfl,amA (by simpa using a) fun i b c h1 h2=>h (i+1) b c (by simpa using h1) (by simpa using h2)⟩
 |[],_::_,h,_=>by simp at h
 |_::_,[],h,_=>by simp at h
def UQ{α:Type}:∀(l:List α) (cs:List α) (off:Nat),(xJ cs off l).length=cs.length
 |[],_,_=>rfl
 |x::r,cs,off=>by simp[xJ,UQ r]
def VB{α:Type}:∀(l:List α) (cs:List α) (off i:Nat),(xJ cs off l)[i]? =if off<=i/\i<off+l.length/\i<cs.length then l[i-off]? else cs[i]?
 |[],cs,off,i=>by simp[xJ];omega
 |x::r,cs,off,i=>by
  rw[xJ,VB r];simp only[vc,dU,C6];by_cases e:off=i
  ·subst e;by_cases h:off<cs.length
   ·rw[aw (by omega),aD rfl,aD h,aD (by omega),Nat.sub_self];rfl
   ·rw[aw (by omega),aD rfl,aw h,aw (by omega),nB (by omega)]
  ·rw[aw e];by_cases h:off+1<=i/\i<off+1+r.length/\i<cs.length
   ·rw[aD h,aD (by omega),show i-off=(i-(off+1))+1 by omega];rfl
   ·rw[aw h,aw (by omega)]
def bE.get?{tab:Nat->List CT}{s:List CT}{l:List D}(h:bE tab s l){i:Nat}{t:CT}{d:D}(h1:s[i]? =some t)(h2:l[i]? =some d):cI tab t d:=by obtain⟨c,a,b⟩:=h.get h1;rw[h2]at a;cases a;exact b
def aGD{tab:Nat->List CT}{s us:List CT}{l r:List D}{off:Nat}(u:us=(s.drop off).take us.length)(b:bE tab s l)(c:bE tab us r):bE tab s (xJ l off r):=by
 refine amA (by rw[UQ,b.length]) fun i t d e a=> ?_;rw[VB]at a;split at a
 ·rename_i h;have:us[i-off]? =some t:=by rw[u,qe,x9,aD (by rw[<-c.length];omega),show off+(i-off)=i by omega,e]
  exact c.get? this a
 ·exact b.get? e a
def aJR{tab:Nat->List CT}{s us:List CT}{rows:List (List D)}{r:List D}{i off:Nat}(u:us=(s.drop off).take us.length)(l:da tab s rows)(b:bE tab us r):da tab s (oT rows i off r):=by
 refine sV fun z a=> ?_;unfold oT at a;rcases sY a with h|h
 ·exact l.mem z h
 ·subst h;by_cases c:i<rows.length
  ·refine aGD u (l.mem _ ?_) b;simp[List.getD,bX c]
  ·rw[List.set_eq_of_length_le (by omega)]at a;exact l.mem _ a
def eu{tab:Nat->List CT}{Γ:List VT}{env:List D}(h:bV tab Γ env):∀(e:E) (t:VT),e.inf tab Γ=some t->bH tab t (e.den env)
 |.Kt c x i,t,k=>by
  simp only[E.inf]at k;split at k
  ·rename_i I p;split at k
   ·rename_i v;simp at k;subst k;obtain⟨l,u,o⟩:=lX (eu h x _ p);simp only[E.den,u,ml,bH,dI];cases O:l[(i.den env).ck.toNat]? with
    |none=>exact aft tab c
    |some d=>
     have F:(i.den env).ck.toNat<I.length:=by rw[<-o.length];exact(db.1 O).1
     obtain⟨j,J,L⟩:=o.get (bX F);rw[O]at J;cases J;have:=fM.1 v.1 _ (uZ F);simp at this;rw[this]at L;exact L
   ·simp at k
  ·simp at k
 |.mem l,t,k=>by simp[E.inf]at k;obtain⟨_,rfl⟩:=k;simp[E.den,bH,dI,cI]
 |.fn0 f,t,k=>by simp[E.inf]at k;subst k;simp[E.den,bH,dI,cI]
 |.FX x r,t,k=>by
  simp only[E.inf]at k;split at k
  ·rename_i j P C;simp at k;subst k;obtain⟨f,Y,Q⟩:=TE (eu h x _ P);simp only[E.den,Q,af8,bH,dI,cI]
  ·simp at k
 |.rep e I n,t,k=>by
  simp only[E.inf]at k;split at k
  ·rename_i v;simp at k;subst k;simp only[E.den,bH,dI,cI];refine sV fun z G=> ?_;rw[List.eq_of_mem_replicate G,v.1];exact afw _
  ·simp at k
 |.aW x i r off,t,k=>by
  simp only[E.inf]at k;split at k
  ·rename_i e j P C;split at k
   ·rename_i v;simp at k;subst k;obtain⟨q,N,A⟩:=xj (eu h x _ P);obtain⟨l,u,o⟩:=lX (eu h r _ C);simp only[E.den,N,u,AB,ml,bH,dI,cI];exact aJR v.1 A o
   ·simp at k
  ·simp at k
 |.var i,t,k=>h i t k
 |.lb _,t,k=>by simp[E.inf]at k;subst k;simp[E.den,bH,dI,cI]
 |.li _ _,t,k=>by simp[E.inf]at k;obtain⟨_,rfl⟩:=k;simp[E.den,bH,dI,cI]
 |.ls _,t,k=>by simp[E.inf]at k;obtain⟨_,rfl⟩:=k;simp[E.den,bH,dI,cI]
 |.ja _,t,k=>by simp[E.inf]at k;subst k;simp[E.den,bH,dI,cI,da]
 |.ar _ _ _ _,t,k=>by simp[E.inf]at k;obtain⟨_,rfl⟩:=k;simp[E.den,bH,dI,cI]
 |.ic _ _ _,t,k=>by simp[E.inf]at k;obtain⟨_,rfl⟩:=k;simp[E.den,bH,dI,cI]
 |.sc _ _ _,t,k=>by simp[E.inf]at k;obtain⟨_,rfl⟩:=k;simp[E.den,bH,dI,cI]
 |.tJ _ _,t,k=>by simp[E.inf]at k;obtain⟨_,rfl⟩:=k;simp[E.den,bH,dI,cI]
 |.uM _ _,t,k=>by simp[E.inf]at k;subst k;simp[E.den,bH,dI,cI]
 |.bc _ _,t,k=>by simp[E.inf]at k;obtain⟨_,rfl⟩:=k;simp[E.den,bH,dI,cI]
 |.ae _ _,t,k=>by simp[E.inf]at k;subst k;simp[E.den,bH,dI,cI]
 |.no _,t,k=>by simp[E.inf]at k;obtain⟨_,rfl⟩:=k;simp[E.den,bH,dI,cI]
 |.an _ _,t,k=>by simp[E.inf]at k;obtain⟨_,rfl⟩:=k;simp[E.den,bH,dI,cI]
 |.or _ _,t,k=>by simp[E.inf]at k;obtain⟨_,rfl⟩:=k;simp[E.den,bH,dI,cI]
 |.conv _ _,t,k=>by simp[E.inf]at k;obtain⟨_,rfl⟩:=k;simp[E.den,bH,dI,cI]
 |.len x,t,k=>by simp only[E.inf]at k;split at k<;>first|(simp at k;done)|(simp at k;subst k;simp[E.den,bH,dI,cI])
 |.I7 x,t,k=>by
  simp only[E.inf]at k;split at k
  ·split at k
   ·simp at k;subst k;simp[E.den,bH,dI,cI]
   ·simp at k
  ·simp at k
 |.ite c x y,t,k=>by
  simp only[E.inf]at k;split at k
  ·rename_i v;have Z:=eu h x t k;have j:=eu h y t (v.2▸k);simp only[E.den];cases (c.den env).kJ<;>simpa
  ·simp at k
 |.row I x i,t,k=>by
  simp only[E.inf]at k;split at k
  ·rename_i e p;split at k
   ·rename_i v;simp at k;subst k;have Z:=eu h x _ p;obtain⟨r,C,B⟩:=xj Z;simp only[E.den,C,AB,bH,dI];rw[<-v.1];cases O:r[(i.den env).ck.toNat]? with
    |none=>simp;exact afw _
    |some z=>simp;exact B.mem z (jx O)
   ·simp at k
  ·simp at k
 |.at _ _,t,k=>by simp[E.inf]at k;obtain⟨_,rfl⟩:=k;simp[E.den,bH,dI,cI]
 |.cell x j,t,k=>by
  simp only[E.inf]at k;split at k
  ·rename_i I p;simp at k;obtain⟨c,v,rfl⟩:=k;obtain⟨l,u,o⟩:=lX (eu h x _ p);obtain⟨d,S,H⟩:=o.get v;simp[E.den,u,List.getD,S,bH,dI,H]
  ·simp at k
 |.sub x j n,t,k=>by
  simp only[E.inf]at k;split at k
  ·rename_i I p;split at k
   ·simp at k;subst k;obtain⟨l,u,o⟩:=lX (eu h x _ p);simp only[E.den,u,ml,bH,dI];exact(o.drop j).take n
   ·simp at k
  ·simp at k
 |.proj x j,t,k=>by
  simp only[E.inf]at k;split at k
  ·rename_i j p;simp at k;obtain⟨c,v,rfl⟩:=k;obtain⟨l,u,o⟩:=aaJ (eu h x _ p);obtain⟨d,S,H⟩:=o.get v;simp[E.den,u,List.getD,S,bH,H]
  ·simp at k
 |.E8,t,k=>by simp[E.inf]at k;subst k;simp[E.den,bH,dI,bE]
 |.aq x,t,k=>by
  simp only[E.inf]at k;split at k
  ·rename_i c p;simp at k;subst k;have:=eu h x _ p;simp only[E.den,bH,dI,bE];exact⟨this,trivial⟩
  ·simp at k
 |.cat x y,t,k=>by
  simp only[E.inf]at k;split at k
  ·rename_i a b T U;simp at k;subst k;obtain⟨l,u,o⟩:=lX (eu h x _ T);obtain⟨m,j,V⟩:=lX (eu h y _ U);simp only[E.den,u,j,ml,bH,dI];exact o.append V
  ·simp at k
 |.zb,t,k=>by simp[E.inf]at k;subst k;simp[E.den,bH,lD]
 |.bn x y,t,k=>by
  simp only[E.inf]at k;split at k
  ·rename_i a b T U;simp at k;subst k;obtain⟨l,u,o⟩:=aaJ (eu h x _ T);have j:=eu h y _ U;simp only[E.den,u,auw,bH];exact o.snoc j
  ·simp at k
 |.cut x j v,t,k=>by
  simp only[E.inf]at k;split at k
  ·split at k
   ·rename_i p;simp at k;subst k;obtain⟨s,j⟩:=Dv (eu h x _ p);simp[E.den,j,rV,bH,dI,cI]
   ·rename_i e p;simp at k;subst k;obtain⟨r,C,B⟩:=xj (eu h x _ p);simp only[E.den,C,rV,bH,dI,cI];exact sV fun z G=>B.mem z (QS (QT G))
   ·simp at k
  ·simp at k
 |.app x y,t,k=>by
  simp only[E.inf]at k;split at k
  ·rename_i e f p Q;split at k
   ·rename_i W;simp at k;subst k;subst W;obtain⟨r,C,B⟩:=xj (eu h x _ p);obtain⟨q,N,A⟩:=xj (eu h y _ Q);simp only[E.den,C,N,AB,bH,dI,cI];exact sV fun z G=>(iV.1 G).elim (B.mem z) (A.mem z)
   ·simp at k
  ·simp at k
 |.put x r,t,k=>by
  simp only[E.inf]at k;split at k
  ·rename_i e I p C;split at k
   ·rename_i X;simp at k;subst k;subst X;obtain⟨q,N,A⟩:=xj (eu h x _ p);obtain⟨l,u,o⟩:=lX (eu h r _ C);simp only[E.den,N,u,AB,ml,bH,dI,cI];exact sV fun z G=>(iV.1 G).elim (A.mem z) (fun e=>by simp at e;subst e;exact o)
   ·simp at k
  ·simp at k
 |.bN _ _,t,k=>by simp[E.inf]at k;subst k;simp[E.den,bH,dI,cI]
 |.inc _ _ _,t,k=>by simp[E.inf]at k;subst k;simp[E.den,bH,dI,cI]
 |.few _ _,t,k=>by simp[E.inf]at k;subst k;simp[E.den,bH,dI,cI]
structure TI where
 vt:VT
 fs:List (Nat×Nat)
 bytes:Nat
 eq:Bool:=false
abbrev TB:=List (Nat×TI)
def TB.get:TB->Nat->Option TI
 |[],_=>none
 |(t,i)::r,T=>bif Nat.beq t T then some i else TB.get r T
def TI.cells(i:TI):List CT:=match i.vt with|.one v=>v.cells|.aU _=>[]
def TB.tab(b:TB)(e:Nat):List CT:=match b.get e with|some i=>i.cells|none=>[]
def zeroV:CT->Value->Bool
 |.bool,.bool b=> !b
 |.int k,.int a n=>k==a&&n==0
 |.str,.string s=>s.size==0
 |.sl _,.slice none 0 0=>true
 |_,_=>false
def sR:List CT->List Value->Bool
 |[],[]=>true
 |t::s,v::vs=>zeroV t v&&sR s vs
 |_,_=>false
def XQ:V1->Option Value->Bool
 |.c t,some v=>zeroV t v
 |.agg s,some (.agg cs)=>sR s cs.toList
 |_,_=>false
def ux(b:TB):List (Nat×Nat)->List Field->Bool
 |[],[]=>true
 |(o,t)::r,f::s=>o==f.offset&&t==f.type&&(match b.get t with|some i=>(match i.vt with|.one _=>true|.aU _=>false)|none=>false)&&ux b r s
 |_,_=>false
def MR(b:TB)(v:V1)(f:List (Nat×Nat))(d:Option TypeDesc):Bool :=
 match v,d with
 |.c .bool,some .bool=>true
 |.c (.int k),some (.int a)=>k==a
 |.c .str,some .string=>true
 |.c (.sl e),some (.slice c)=>e==c
 |.agg _,some (.struct fields)=>ux b f fields.toList
 |_,_=>false
def A9(b:TB):Nat->List CT->List (Nat×Nat)->Bool
 |_,s,[]=>s.isEmpty
 |o,s,(a,t)::r=>Nat.beq o a&&match b.get t with
  |some i=>decide (s.take i.cells.length=i.cells)&&A9 b (o+i.cells.length) (s.drop i.cells.length) r
  |none=>false
def FP(P:Program)(b:TB):Nat->Nat->Bool
 |0,_=>false
 |d+1,T=>match b.get T with
  |none=>false
  |some ti=>match ti.vt with
   |.one (.c (.sl _))=>false
   |.one (.c _)=>true
   |.one (.agg s)=> !P.stoodInHeld T&&(P.fieldsOf T).toList.all (fun f=> !(f.name== "_"))&&ti.fs.all (fun x=>FP P b d x.2)&&A9 b 0 s ti.fs
   |.aU _=>false
def Kz(P:Program)(b:TB)(T:Nat)(ti:TI):Bool :=
 match ti.vt with
 |.aU _=>(match ti.fs with
  |[]=>true
  |[(n,e)]=>(match P.underlying T with|some (.array a c)=>Nat.beq n a&&Nat.beq e c|_=>false)&&(match P.info? T with|some i=>Nat.beq i.size n|none=>false)
  |_=>false)
 |.one v=>match P.info? T with
  |none=>false
  |some i=>i.size==v.cells.length&&i.bytes==ti.bytes&&XQ v i.zero&&MR b v ti.fs (P.underlying T)&&(!ti.eq||(FP P b 8 T&& !P.eqGuardType P.depth T))
def cY(P:Program)(b:TB):TB->Bool
 |[]=>true
 |(T,ti)::r=>Kz P b T ti&&cY P b r
abbrev Gd:=List (E×Bool)
inductive KK where
 |d|own (g:Nat)|full
 deriving DecidableEq
inductive K where
 |d|own (g:Nat)|full|ag (ks:List KK)
 deriving DecidableEq
def KK.k:KK->K
 |.d=>.d|.own g=>.own g|.full=>.full
def K.kk:K->KK
 |.own g=>.own g|.full=>.full|_=>.d
def K.nth:K->Nat->K
 |.ag ks,j=>(ks.getD j .d).k
 |_,_=>.d
def zZ(ks:List K):K:=bif ks.all (fun k=>decide (k.kk=.d))then .d else .ag (ks.map K.kk)
def adb(k:K)(off:Nat):Option V1->K
 |some (.c _)=>k.nth off
 |some (.agg s)=>zZ ((List.range s.length).map fun j=>k.nth (off+j))
 |none=>.d
def BZ:List V1->Nat->Nat
 |v::r,i+1=>v.cells.length+BZ r i
 |_,_=>0
structure LV where
 n:Nat
 body:Option (E×Option (Nat×List Nat)):=none
 deriving DecidableEq
inductive ST where
 |un
 |v (gs:Gd) (k:K) (e:E)
 |ptr (gs:Gd) (id off:Nat)
 |ro (gs:Gd) (e:E) (off:Nat)
 |box (cs:List (K×E))
 |live (n:LV)
 |gp (gs:Gd) (g:Nat) (x i:E)
 |mp (gs:Gd) (g n:Nat) (i:E) (off:Nat)
 |iv (gs:Gd) (g gv n:Nat) (i:E) (off:Nat) (l:E)
 |ip (gs:Gd) (g gv n:Nat) (i:E) (off:Nat) (j:E) (m o2:Nat)
 deriving DecidableEq
abbrev Sg:=List (Nat×ST)
def Sg.get:Sg->Nat->ST
 |[],_=>.un
 |(l,s)::r,x=>bif Nat.beq l x then s else Sg.get r x
def qQ(g gs:Gd):Bool:=g.all fun x=>gs.contains x
def under(gs:Gd):ST->Option ST
 |.v g k e=>bif qQ g gs then some (.v gs k e)else none
 |.ptr g id off=>bif qQ g gs then some (.ptr gs id off)else none
 |.ro g e off=>bif qQ g gs then some (.ro gs e off)else none
 |_=>none
def fT(gs:Gd)(s:Option ST):Option (K×E) :=
 match s.bind (under gs)with
 |some (.v _ k e)=>some (k,e)
 |_=>none
inductive Rq where
 |cond (gs:Gd) (c:E)
 |call (gs:Gd) (f:Nat) (bx:Option (List E)) (args:List E) (vt:VT) (nb:List CT)
 |cM (f:Nat) (bx:Option (List E)) (args:List E) (vt:VT) (nb:List CT) (rt:List (Nat×Nat))
 |new (f:Nat) (args:List E) (nb:List CT)
 |lH (gs:Gd) (e:E) (args:List E) (vt:VT)
 |xh (g:Nat) (vt:VT) (ix:Option (Gd×E×Nat))
structure bp where
 wr:List (Nat×ST)
 rq:List Rq
abbrev RB:=List (Nat×List (Nat×Nat))
def RB.get:RB->Nat->List (Nat×Nat)
 |[],_=>[]
 |(f,r)::q,x=>bif Nat.beq f x then r else RB.get q x
structure Cx where
 tb:TB
 nt:Nat
 rb:RB:=[]
def qu:Nat:=8
def uL:Nat->List (Nat×Nat)->Nat->KK
 |_,[],_=>.d
 |g,(q,_)::r,p=>bif Nat.beq q p then .own g else uL (g+1) r p
def ax7:VT->Nat
 |.one v=>v.cells.length
 |.aU vs=>(vs.map fun v=>v.cells.length).sum
def G7(g:Nat)(r:List (Nat×Nat)):VT->K
 |.one (.c _)=>(uL g r 0).k
 |vt=>.ag ((List.range (ax7 vt)).map (uL g r))
def mY:Nat->List (Nat×Nat)->List (Nat×ST)
 |_,[]=>[]
 |g,(_,m)::r=>(3*g+2,.live ⟨m,none⟩)::mY (g+1) r
def FJ(a:TB)(T:Nat):Value->Option ST
 |.bool b=>some (.v [] .d (.lb b))
 |.int k n=>if k.min<=n/\n<=k.max then some (.v [] .d (.li k n))else none
 |.string s=>if s.size<=maxLen then some (.v [] .d (.ls s))else none
 |.slice none 0 0=>match a.get T with
  |some ⟨.one (.c (.sl e)),_,_,_⟩=>some (.v [] .full (.ja e))
  |_=>none
 |_=>none
def aZ(b:TB)(σ:Nat->ST)(T:Nat):Operand->Option ST
 |.tmp t=>some (σ (3*t))
 |.const v=>FJ b T v
 |_=>none
def zI(tab:Nat->List CT)(Γ:List VT)(ops:Array Oper)(σ:Nat->ST)(o:Oper):Option Gd :=
 match o.guard with
 |none=>some []
 |some (j,b)=>match (ops[j]?).bind (·.dst)with
  |some d=>match σ (3*d)with
   |.v s _ c=>bif gU .bool (c.inf tab Γ)then some (s++[(c,b)])else none
   |_=>none
  |none=>none
def wv(dst:Option Nat)(st:ST):List (Nat×ST):=match dst with|some d=>[(3*d,st)]|none=>[]
def mk:List E->E
 |[]=>.E8
 |e::r=>.cat (.aq e) (mk r)
def pack(tab:Nat->List CT)(Γ:List VT)(es:List E):E :=
 match es with
 |.cell x i::r=>match x.inf tab Γ with
  |some (.one (.agg u))=>if es=(List.range' i es.length).map (.cell x)/\i+es.length<=u.length then(if i=0/\es.length=u.length then x else .sub x i es.length)else mk es
  |_=>mk es
 |_=>mk es
def apart(k:K)(n:Nat)(e:E):List (K×E):=(List.range n).map fun j=>(k.nth j,.cell e j)
def ni{α:Type}(cs:List α)(off:Nat):List α->List α
 |[]=>cs
 |x::r=>ni (cs.set off x) (off+1) r
def CG:CT->K×E
 |.bool=>(.d,.lb false)|.int k=>(.d,.li k 0)|.str=>(.d,.ls .empty)|.sl e=>(.full,.ja e)|.mem=>(.d,.mem (.li .i64 0))|.fn=>(.d,.fn0 0)
def Z3(gs:Gd)(dst:Option Nat)(s:Option ST):Option bp:=(s.bind (under gs)).map fun s=>⟨wv dst s,[]⟩
def Jt(tab:Nat->List CT)(Γ:List VT)(gs:Gd)(dst:Option Nat)(σ:Nat->ST)(ti:TI)(s:Option ST):Option bp :=
 match s.bind (under gs)with
 |some (.ptr _ id off)=>match σ (3*id+1)with
  |.box cs=>match ti.vt with
   |.one (.c _)=>match cs[off]? with
    |some (k,e)=>some ⟨wv dst (.v gs k e),[]⟩
    |none=>none
   |.one (.agg a)=>if off+a.length<=cs.length then some ⟨wv dst (.v gs (zZ (((cs.drop off).take a.length).map (·.1))) (pack tab Γ (((cs.drop off).take a.length).map (·.2)))),[]⟩else none
   |_=>none
  |_=>none
 |some (.ro _ e off)=>match e.inf tab Γ with
  |some (.one (.agg u))=>match ti.vt with
   |.one (.c _)=>if off<u.length then some ⟨wv dst (.v gs .d (.cell e off)),[]⟩else none
   |.one (.agg a)=>if off=0/\a.length=u.length then some ⟨wv dst (.v gs .d e),[]⟩
    else if off+a.length<=u.length then some ⟨wv dst (.v gs .d (.sub e off a.length)),[]⟩else none
   |_=>none
  |_=>none
 |_=>none
def Dj(tab:Nat->List CT)(Γ:List VT)(gs:Gd)(dst:Option Nat)(σ:Nat->ST)(ti:TI)(s:Option ST)(x:Option ST):Option bp :=
 match gs,dst,s.bind (under []),fT [] x with
 |[],none,some (.ptr _ id off),some (k,e)=>match σ (3*id+1)with
  |.box cs=>match ti.vt,e.inf tab Γ with
   |.one (.c _),some (.one (.c _))=>if off<cs.length then some ⟨[(3*id+1,.box (cs.set off (k,e)))],[]⟩else none
   |.one (.agg a),some (.one (.agg u))=>if a.length=u.length/\off+a.length<=cs.length then some ⟨[(3*id+1,.box (ni cs off (apart k a.length e)))],[]⟩else none
   |_,_=>none
  |_=>none
 |_,_,_,_=>none
def ZU(b:TB)(Γ:List VT)(gs:Gd)(dst:Option Nat)(ti:TI)(s:Option ST)(f:Nat):Option bp :=
 match ti.vt,ti.fs[f]? with
 |.one (.agg _),some (o,a)=>match b.get a with
  |some i=>if i.cells.length=0 then none else match i.vt with
   |.aU _=>none
   |.one _=>match s.bind (under gs)with
    |some (.ptr _ id off)=>some ⟨wv dst (.ptr gs id (off+o)),[]⟩
    |some (.ro _ e off)=>some ⟨wv dst (.ro gs e (off+o)),[]⟩
    |_=>none
  |none=>none
 |_,_=>none
def Tc(b:TB)(Γ:List VT)(gs:Gd)(dst:Option Nat)(ti:TI)(x i:Option ST):Option bp :=
 match ti.vt,fT gs x,fT gs i with
 |.one (.c (.sl e)),some (_,ex),some (_,a)=>match b.get e with
  |some c=>match c.vt with
   |.aU _=>none
   |.one _=>if gU (.sl e) (ex.inf b.tab Γ)/\(isInt (a.inf b.tab Γ)).isSome then some ⟨wv dst (.ro gs (.row (b.tab e) ex a) 0),[.cond gs (.bN ex a)]⟩else none
  |none=>none
 |_,_,_=>none
def ZR(tab:Nat->List CT)(Γ:List VT)(gs:Gd)(dst:Option Nat)(g:Nat)(x:Option ST):Option bp :=
 match gs,fT [] x with
 |[],some (k,e)=>match e.inf tab Γ with
  |some (.one (.c _))=>some ⟨wv dst (.ptr [] g 0)++[(3*g+1,.box [(k,e)])],[]⟩
  |some (.one (.agg s))=>some ⟨wv dst (.ptr [] g 0)++[(3*g+1,.box (apart k s.length e))],[]⟩
  |_=>none
 |_,_=>none
def ZO(gs:Gd)(dst:Option Nat)(g:Nat)(ti:TI):Option bp :=
 match gs,ti.vt with
 |[],.one v=>some ⟨wv dst (.ptr [] g 0)++[(3*g+1,.box (v.cells.map CG))],[]⟩
 |_,_=>none
def uw(b:TB)(Γ:List VT)(gs:Gd)(σ:Nat->ST)(s:List (Nat×Nat)):List (Nat×Operand)->List (K×E)->Option (List (K×E))
 |[],cs=>some cs
 |(f,x)::r,cs=>match s[f]? with
  |some (o,c)=>match b.get c,fT gs (aZ b σ c x)with
   |some i,some (k,e)=>match i.vt,e.inf b.tab Γ with
    |.one (.c _),some (.one (.c _))=>if o<cs.length then uw b Γ gs σ s r (cs.set o (k,e))else none
    |.one (.agg us),some (.one (.agg a))=>if us.length=a.length/\o+a.length<=cs.length then uw b Γ gs σ s r (ni cs o (apart k a.length e))else none
    |_,_=>none
   |_,_=>none
  |none=>none
def SV(b:TB)(Γ:List VT)(gs:Gd)(dst:Option Nat)(σ:Nat->ST)(ti:TI)(parts:List (Nat×Operand)):Option bp :=
 match ti.vt with
 |.one (.agg s)=>(uw b Γ gs σ ti.fs parts (s.map CG)).map fun cs=>⟨wv dst (.v gs (zZ (cs.map (·.1))) (pack b.tab Γ (cs.map (·.2)))),[]⟩
 |_=>none
def rX(b:TB)(Γ:List VT)(gs:Gd)(σ:Nat->ST)(l:Nat):Nat->List (Nat×Operand)->E->Option E
 |_,[],a=>some a
 |n,(i,x)::r,a=>if i=n then
  match fT gs (aZ b σ l x)with
  |some (_,e)=>match e.inf b.tab Γ with
   |some (.one (.c t))=>if b.tab l=[t]then rX b Γ gs σ l (n+1) r (.put a (.aq e))else none
   |some (.one (.agg s))=>if b.tab l=s then rX b Γ gs σ l (n+1) r (.put a e)else none
   |_=>none
  |none=>none
  else none
def Tf(b:TB)(e len:Nat):Bool :=
 match b.get e with
 |some i=>match i.vt with|.one _=>decide (len*i.cells.length<=65536)&&decide (0<i.cells.length)|_=>false
 |none=>false
def SX(b:TB)(Γ:List VT)(gs:Gd)(dst:Option Nat)(σ:Nat->ST)(ti:TI)(len:Nat)(parts:List (Nat×Operand)):Option bp :=
 match ti.vt with
 |.one (.c (.sl l))=>if parts.length=len/\Tf b l len=true then(rX b Γ gs σ l 0 parts (.ja l)).map fun e=>⟨wv dst (.v gs (bif Nat.beq len 0 then .full else .d) e),[]⟩else none
 |_=>none
def SW(b:TB)(Γ:List VT)(gs:Gd)(dst:Option Nat)(σ:Nat->ST)(g:Nat)(ti:TI)(len:Nat)(parts:List (Nat×Operand)):Option bp :=
 match gs,ti.vt with
 |[],.one (.c (.sl l))=>if parts.length=len/\Tf b l len=true then(rX b Γ [] σ l 0 parts (.ja l)).map fun e=>⟨wv dst (.v [] (.own g) e)++[(3*g+2,.live ⟨(b.tab l).length,none⟩)],[]⟩else none
 |_,_=>none
def UD:VT->Bool
 |.one (.c .str)|.one (.c (.sl _))=>true
 |_=>false
def akt:VT->Bool
 |.one (.c (.sl _))=>true
 |_=>false
def yK:CT->Bool
 |.sl _|.mem|.fn=>false
 |_=>true
def BP(s:List CT):Bool:=s.all yK
def VF(b:TB):VT->Bool
 |.one (.c (.sl e))=>(match b.get e with|some i=>(match i.vt with|.one _=>true|.aU _=>false)|none=>false)
 |_=>true
def Tg(b:TB)(Γ:List VT)(gs:Gd)(dst:Option Nat)(ti:TI)(x:Option ST)(lo i:Option (Option ST)):Option bp :=
 match fT gs x,(match lo with|none=>some (K.d,E.li .i64 0)|some s=>fT gs s)with
 |some (_,ex),some (_,e)=>match (match i with|none=>some (K.d,E.len ex)|some s=>fT gs s)with
  |some (_,h)=>if ex.inf b.tab Γ=some ti.vt/\(isInt (e.inf b.tab Γ)).isSome/\(isInt (h.inf b.tab Γ)).isSome/\UD ti.vt=true/\VF b ti.vt=true then
   some ⟨wv dst (.v gs .d (.cut ex e h)),[.cond gs (.inc ex e h)]⟩else none
  |none=>none
 |_,_=>none
def adn(b:TB)(s:TI):Bool:=match s.vt with
 |.one (.c (.sl e))=>(match b.get e with|some i=>(match i.vt with|.one (.c (.int .u8))=>true|_=>false)|none=>false)
 |_=>false
def ZS(tab:Nat->List CT)(Γ:List VT)(gs:Gd)(dst:Option Nat)(u8:Bool)(s ti:TI)(x:Option ST):Option bp :=
 match s.vt,ti.vt,fT gs x with
 |.one (.c (.int _)),.one (.c (.int k)),some (_,e)=>if(isInt (e.inf tab Γ)).isSome then some ⟨wv dst (.v gs .d (.conv k e)),[]⟩else none
 |.one (.c (.sl l)),.one (.c .str),some (_,e)=>if gU (.sl l) (e.inf tab Γ)/\u8=true/\tab l=[.int .u8]then some ⟨wv dst (.v gs .d (.I7 e)),[]⟩else none
 |_,_,_=>none
def ZT(tab:Nat->List CT)(Γ:List VT)(gs:Gd)(dst:Option Nat)(x:Option ST)(i:Nat):Option bp :=
 match fT gs x with
 |some (k,e)=>match e.inf tab Γ with
  |some (.aU v)=>if i<v.length then some ⟨wv dst (.v gs (adb k (BZ v i) v[i]?) (.proj e i)),[]⟩else none
  |_=>none
 |none=>none
def Z6(tab:Nat->List CT)(Γ:List VT)(gs:Gd)(dst:Option Nat)(x:Option ST):Option bp :=
 match fT gs x with
 |some (_,e)=>if gU .bool (e.inf tab Γ)then some ⟨wv dst (.v gs .d (.no e)),[]⟩else none
 |none=>none
def Z4(tab:Nat->List CT)(Γ:List VT)(gs:Gd)(dst:Option Nat)(x:Option ST):Option bp :=
 match fT gs x with
 |some (_,e)=>match e.inf tab Γ with
  |some (.one (.c (.int k)))=>some ⟨wv dst (.v gs .d (.ar .sub k (.li k 0) e)),[]⟩
  |_=>none
 |none=>none
def acB(tab:Nat->List CT)(Γ:List VT)(c e b:E):E :=
 if e=.lb true/\gU .bool (b.inf tab Γ)=true then .or c b else if b=.lb false/\gU .bool (e.inf tab Γ)=true then .an c e else .ite c e b
def Z7(tab:Nat->List CT)(Γ:List VT)(gs:Gd)(dst:Option Nat)(c a b:Option ST):Option bp :=
 match fT gs c with
 |some (_,e)=>if gU .bool (e.inf tab Γ)then
  match fT (gs++[(e,true)]) a,fT (gs++[(e,false)]) b with
  |some (_,d),some (_,f)=>some ⟨wv dst (.v gs .d (acB tab Γ e d f)),[]⟩
  |_,_=>none
  else none
 |none=>none
def ZZ(tab:Nat->List CT)(Γ:List VT)(gs:Gd)(dst:Option Nat)(ti:TI)(x:Option ST):Option bp :=
 match fT gs x with
 |some (_,e)=>if(e.inf tab Γ=some ti.vt/\UD ti.vt=true)\/(e.inf tab Γ=some (.one (.c .mem))/\akt ti.vt=true)then some ⟨wv dst (.v gs .d (.len e)),[]⟩else none
 |none=>none
def Jn(b:TB)(Γ:List VT)(gs:Gd)(dst:Option Nat)(σ:Nat->ST)(g:Nat)(ti i:TI)(x y:Option ST):Option bp :=
 match gs,ti.vt,i.vt with
 |[],.one (.c (.sl l)),.one (.c (.sl _))=>match fT [] x,fT [] y,b.get l with
  |some (k,ex),some (_,a),some e=>if gU (.sl l) (ex.inf b.tab Γ)/\gU (.sl l) (a.inf b.tab Γ)/\e.bytes<=1024/\0<e.bytes/\0<e.cells.length then
   match e.vt with
   |.aU _=>none
   |.one _=>match k with
    |.full=>some ⟨wv dst (.v [] (.own g) (.app ex a))++[(3*g+2,.live ⟨e.cells.length,none⟩)],[.cond [] (.few ex a)]⟩
    |.own h=>match σ (3*h+2)with
     |.live n=>if n=⟨e.cells.length,none⟩then some ⟨wv dst (.v [] (.own g) (.app ex a))++[(3*h+2,.un),(3*g+2,.live ⟨e.cells.length,none⟩)],[.cond [] (.few ex a)]⟩else none
     |_=>none
    |_=>none
   else none
  |_,_,_=>none
 |_,_,_=>none
def ZP(tab:Nat->List CT)(Γ:List VT)(gs:Gd)(dst:Option Nat)(ti:TI)(x i:Option ST):Option bp :=
 match ti.vt,fT gs x,fT gs i with
 |.one (.c .str),some (_,ex),some (_,e)=>if gU .str (ex.inf tab Γ)/\(isInt (e.inf tab Γ)).isSome then some ⟨wv dst (.v gs .d (.at ex e)),[.cond gs (.bN ex e)]⟩else none
 |_,_,_=>none
def Z5(gs:Gd)(dst:Option Nat)(s:Option ST):Option bp :=
 match s.bind (under gs)with
 |some (.ptr _ id off)=>some ⟨wv dst (.ptr gs id off),[]⟩
 |some (.ro _ e off)=>some ⟨wv dst (.ro gs e off),[]⟩
 |_=>none
def J6:BinOp->Bool
 |.add|.sub|.mul|.and|.or|.xor|.andNot=>true
 |_=>false
def Gy:BinOp->Bool
 |.eql|.neq|.lss|.leq|.gtr|.geq=>true
 |_=>false
def ZQ(tab:Nat->List CT)(Γ:List VT)(gs:Gd)(dst:Option Nat)(op:BinOp)(ti:Option TI)(x y:Option ST):Option bp :=
 match fT gs x,fT gs y with
 |some (_,a),some (_,b)=>match a.inf tab Γ,b.inf tab Γ with
  |some (.one (.c (.int k))),some (.one (.c (.int c))) =>
   if op=.shl\/op=.shr then some ⟨wv dst (.v gs .d (.ar op k a b)),[.cond gs (.ic .geq b (.li c 0))]⟩
   else if k≠c then none
   else if J6 op then some ⟨wv dst (.v gs .d (.ar op k a b)),[]⟩
   else if Gy op then some ⟨wv dst (.v gs .d (.ic op a b)),[]⟩
   else if op=.quo\/op=.rem then some ⟨wv dst (.v gs .d (.ar op k a b)),[.cond gs (.ic .neq b (.li k 0))]⟩
   else none
  |some (.one (.c .str)),some (.one (.c .str)) =>
   if Gy op then some ⟨wv dst (.v gs .d (.sc op a b)),[]⟩
   else if op=.add then some ⟨wv dst (.v gs .d (.tJ a b)),[.cond gs (.uM a b)]⟩
   else none
  |some (.one (.agg s)),some (.one (.agg u))=>match ti with
   |some i=>if i.eq=true/\i.vt=.one (.agg s)/\i.vt=.one (.agg u)then
    if op=.eql then some ⟨wv dst (.v gs .d (.ae a b)),[]⟩else if op=.neq then some ⟨wv dst (.v gs .d (.no (.ae a b))),[]⟩else none
    else none
   |none=>none
  |some (.one (.c .bool)),some (.one (.c .bool))=>match ti with
   |some i=>if i.vt=.one (.c .bool)then
    if op=.eql then some ⟨wv dst (.v gs .d (.bc a b)),[]⟩else if op=.neq then some ⟨wv dst (.v gs .d (.no (.bc a b))),[]⟩else none
    else none
   |none=>none
  |_,_=>none
 |_,_=>none
def nJ(b:TB)(Γ:List VT)(gs:Gd)(σ:Nat->ST):List Operand->List Nat->Option (List E)
 |[],[]=>some []
 |x::xs,T::Ts=>match fT gs (aZ b σ T x),nJ b Γ gs σ xs Ts with
  |some (_,e),some es=>some (e::es)
  |_,_=>none
 |_,_=>none
def J8:Option ST->Option (Gd×Nat)
 |some (.ptr g id 0)=>some (g,id)
 |_=>none
def vars(n:Nat):List CT->List (K×E)
 |[]=>[]
 |_::r=>(.d,.var n)::vars (n+1) r
def J5(tab:Nat->List CT)(Γ:List VT):List (K×E)->Option (List CT)
 |[]=>some []
 |(_,e)::r=>match e.inf tab Γ,J5 tab Γ r with
  |some (.one (.c t)),some s=>some (t::s)
  |_,_=>none
def Bk:Gd->E
 |[]=>.lb true
 |(c,b)::r=>.an (bif b then c else .no c) (Bk r)
def zU(g:E):List (K×E)->List (K×E)->List (K×E)
 |x::r,y::q=>(.d,.ite g x.2 y.2)::zU g r q
 |_,_=>[]
def Jq(b:TB)(Γ:List VT)(gs:Gd)(dst:Option Nat)(σ:Nat->ST)(r:List (Nat×Nat))(ti:TI)(f:Nat)(xs:List Operand)(Ts:List Nat)(g':Gd)(id:Nat):Option bp :=
 match σ (3*id+1),nJ b Γ gs σ xs Ts with
 |.box cs,some e=>match J5 b.tab Γ cs with
  |some n=>if r=[]/\qQ g' gs=true/\gs.all (fun x=>gU .bool (x.1.inf b.tab Γ))=true then some ⟨wv dst (.v gs .d (.var Γ.length))++[(3*id+1,.box (zU (Bk gs) (vars (Γ.length+1) n) cs))],[.call gs f (some (cs.map (·.2))) e ti.vt n]⟩else none
  |none=>none
 |_,_=>none
def Jp(b:TB)(Γ:List VT)(gs:Gd)(dst:Option Nat)(σ:Nat->ST)(g:Nat)(r:List (Nat×Nat))(ti:TI)(f:Nat)(args:List Operand)(y:List Nat):Option bp :=
 match args,y with
 |x::s,T::a=>match J8 (aZ b σ T x)with
  |some (c,id)=>match gs,c,σ (3*id+1),nJ b Γ [] σ s a with
   |[],[],.box cs,some e=>match J5 b.tab Γ cs with
    |some n=>if r=[]then some ⟨wv dst (.v [] .d (.var Γ.length))++[(3*id+1,.box (vars (Γ.length+1) n))],[.call [] f (some (cs.map (·.2))) e ti.vt n]⟩
     else if r.length<=qu then some ⟨wv dst (.v [] (G7 g r ti.vt) (.var Γ.length))++((3*id+1,.box (vars (Γ.length+1) n))::mY g r),[.cM f (some (cs.map (·.2))) e ti.vt n r]⟩else none
    |none=>none
   |_,_,_,_=>Jq b Γ gs dst σ r ti f s a c id
  |none=>match nJ b Γ gs σ args y with
   |some e=>if gs=[]/\r≠[]/\r.length<=qu then some ⟨wv dst (.v [] (G7 g r ti.vt) (.var Γ.length))++mY g r,[.cM f none e ti.vt [] r]⟩
    else some ⟨wv dst (.v gs .d (.var Γ.length)),[.call gs f none e ti.vt []]⟩
   |none=>none
 |[],[]=>some ⟨wv dst (.v gs .d (.var Γ.length)),[.call gs f none [] ti.vt []]⟩
 |_,_=>none
def aks(ti:TI):Option (List CT) :=
 match ti.vt with
 |.aU [.agg n]=>bif ti.eq then some n else none
 |_=>none
def eNew(b:TB)(Γ:List VT)(gs:Gd)(dst:Option Nat)(σ:Nat->ST)(g:Nat)(nb:List CT)(f:Nat)(args:List Operand)(y:List Nat):Option bp :=
 match gs,nJ b Γ [] σ args y with
 |[],some e=>some ⟨wv dst (.ptr [] g 0)++[(3*g+1,.box (vars Γ.length nb))],[.new f e nb]⟩
 |_,_=>none
def Mq(b:TB)(ti:TI):Option (Nat×CT) :=
 match ti.vt,ti.fs with
 |.aU _,[(n,e)]=>match b.get e with
  |some i=>match i.vt with
   |.one (.c t)=>some (n,t)
   |_=>none
  |none=>none
 |_,_=>none
def ZX(b:TB)(Γ:List VT)(gs:Gd)(dst:Option Nat)(ti:TI)(g:Nat):Option bp :=
 match Mq b ti with
 |some (n,t)=>some ⟨wv dst (.v gs .d (.var Γ.length)),[.xh g (.one (.agg (List.replicate n t))) none]⟩
 |none=>none
def ZW(b:TB)(Γ:List VT)(gs:Gd)(dst:Option Nat)(ti:TI)(g:Nat)(i:Option ST):Option bp :=
 match Mq b ti,fT gs i with
 |some (n,t),some (_,e)=>if(isInt (e.inf b.tab Γ)).isSome then some ⟨wv dst (.gp gs g (.var Γ.length) e),[.xh g (.one (.agg (List.replicate n t))) (some (gs,e,n))]⟩else none
 |_,_=>none
def Jf(b:TB):List CT->Option (List Nat)
 |[]=>some []
 |t::r=>match Jf b r with
  |none=>none
  |some m=>match t with
   |.sl e=>bif BP (b.tab e)&&Nat.blt 0 (b.tab e).length then some ((b.tab e).length::m)else none
   |.mem=>none
   |.fn=>none
   |_=>some (0::m)
def Bh(d:Option (Nat×List Nat))(off k:Nat):Bool :=
 match d with
 |none=>true
 |some (_,m)=>(List.range k).all fun j=>Nat.beq (m.getD (off+j) 0) 0
def Td(b:TB)(Γ:List VT)(gs:Gd)(dst:Option Nat)(σ:Nat->ST)(ti:TI)(a:Gd)(g n:Nat)(i:E)(off:Nat):Option bp :=
 match σ (3*g+2)with
 |.live ⟨c,some (e,d)⟩=>match e.inf b.tab Γ with
  |some (.one (.c (.sl l)))=>if qQ a gs=true/\n=c/\(b.tab l).length=n then
   match ti.vt with
   |.one (.c t)=>if(b.tab l)[off]? =some t then
    (if Bh d off 1=true then some ⟨wv dst (.v gs .d (.cell (.row (b.tab l) e i) off)),[]⟩
    else match d with
     |some (v,_)=>some ⟨wv dst (.iv gs g v n i off (.len (.cell (.row (b.tab l) e i) off))),[]⟩
     |none=>none)
    else none
   |.one (.agg s)=>if off+s.length<=n/\Bh d off s.length=true then some ⟨wv dst (.v gs .d (if off=0/\s.length=n then .row (b.tab l) e i else .sub (.row (b.tab l) e i) off s.length)),[]⟩else none
   |_=>none
   else none
  |_=>none
 |_=>none
def Te(b:TB)(Γ:List VT)(σ:Nat->ST)(f:Nat)(ti:TI)(g n:Nat)(i:E)(off:Nat)(x:Option ST):Option bp :=
 match σ (3*g+2),fT [] x with
 |.live ⟨j,some (e,d)⟩,some (k,ex)=>match e.inf b.tab Γ with
  |some (.one (.c (.sl l)))=>if n=j/\(b.tab l).length=n then
   match ti.vt,ex.inf b.tab Γ with
   |.one (.c _),some (.one (.c .mem))=>match k,d with
    |.own h,some (_,s)=>match σ (3*h+2)with
     |.live ⟨m,some (c,none)⟩=>match c.inf b.tab Γ with
      |some (.one (.c (.sl a)))=>if(b.tab l)[off]? =some (.sl a)/\s.getD off 0=m/\m≠0/\h≠g then
       some ⟨[(3*h+2,.un),(3*g+2,.live ⟨n,some (.aW e i (.aq c) off,some (f,s))⟩)],[]⟩else none
      |_=>none
     |_=>none
    |_,_=>none
   |.one (.c _),some (.one (.c t))=>if(b.tab l)[off]? =some t/\yK t=true/\Bh d off 1=true then some ⟨[(3*g+2,.live ⟨n,some (.aW e i (.aq ex) off,d)⟩)],[]⟩else none
   |.one (.agg o),some (.one (.agg u))=>if u=((b.tab l).drop off).take u.length/\o.length=u.length/\off+u.length<=n/\BP u=true/\Bh d off u.length=true then some ⟨[(3*g+2,.live ⟨n,some (.aW e i ex off,d)⟩)],[]⟩else none
   |_,_=>none
   else none
  |_=>none
 |_,_=>none
def ZY(b:TB)(Γ:List VT)(gs:Gd)(dst:Option Nat)(ti:TI)(d:Gd)(g v n:Nat)(i:E)(off:Nat)(l:E)(x:Option ST):Option bp :=
 match ti.vt,fT gs x with
 |.one (.c (.sl a)),some (_,e)=>match b.get a with
  |some c=>match c.vt with
   |.aU _=>none
   |.one _=>if qQ d gs=true/\(isInt (e.inf b.tab Γ)).isSome then some ⟨wv dst (.ip gs g v n i off e (b.tab a).length 0),[.cond gs (.bN (.mem l) e)]⟩else none
  |none=>none
 |_,_=>none
def Ta(b:TB)(Γ:List VT)(gs:Gd)(dst:Option Nat)(σ:Nat->ST)(ti:TI)(d:Gd)(g c n:Nat)(i:E)(off:Nat)(j:E)(m o:Nat):Option bp :=
 match σ (3*g+2)with
 |.live ⟨f,some (e,some (v,s))⟩=>match e.inf b.tab Γ with
  |some (.one (.c (.sl a)))=>match (b.tab a)[off]? with
   |some (.sl l)=>if qQ d gs=true/\n=f/\(b.tab a).length=n/\v=c/\s.getD off 0=m/\m≠0/\(b.tab l).length=m then
    match ti.vt with
    |.one (.c t)=>if(b.tab l)[o]? =some t then some ⟨wv dst (.v gs .d (.cell (.row (b.tab l) (.cell (.row (b.tab a) e i) off) j) o)),[]⟩else none
    |_=>none
    else none
   |_=>none
  |_=>none
 |_=>none
def Tb(b:TB)(Γ:List VT)(σ:Nat->ST)(ti:TI)(g c n:Nat)(i:E)(off:Nat)(j:E)(m o:Nat)(x:Option ST):Option bp :=
 match σ (3*g+2),fT [] x with
 |.live ⟨d,some (e,some (v,s))⟩,some (_,ex)=>match e.inf b.tab Γ with
  |some (.one (.c (.sl a)))=>match (b.tab a)[off]? with
   |some (.sl l)=>if n=d/\(b.tab a).length=n/\v=c/\s.getD off 0=m/\m≠0/\(b.tab l).length=m then
    match ti.vt,ex.inf b.tab Γ with
    |.one (.c _),some (.one (.c t))=>if(b.tab l)[o]? =some t/\yK t=true then some ⟨[(3*g+2,.live ⟨n,some (.aW e i (.aq (.aW (.cell (.row (b.tab a) e i) off) j (.aq ex) o)) off,some (v,s))⟩)],[]⟩else none
    |_,_=>none
    else none
   |_=>none
  |_=>none
 |_,_=>none
def Z0(b:TB)(gs:Gd)(dst:Option Nat)(ti:TI)(c:Gd)(g n:Nat)(i:E)(off f:Nat):Option bp :=
 match ti.vt,ti.fs[f]? with
 |.one (.agg _),some (o,d)=>match b.get d with
  |some a=>if a.cells.length=0\/qQ c gs=false then none else match a.vt with
   |.aU _=>none
   |.one _=>some ⟨wv dst (.mp gs g n i (off+o)),[]⟩
  |none=>none
 |_,_=>none
def Z1(b:TB)(Γ:List VT)(gs:Gd)(dst:Option Nat)(ti:TI)(c:Gd)(g:Nat)(l:E)(i:Option ST):Option bp :=
 match ti.vt,fT gs i with
 |.one (.c (.sl a)),some (_,e)=>match b.get a with
  |some d=>match d.vt with
   |.aU _=>none
   |.one _=>if qQ c gs=true/\gU .mem (l.inf b.tab Γ)=true/\(isInt (e.inf b.tab Γ)).isSome then some ⟨wv dst (.mp gs g (b.tab a).length e 0),[.cond gs (.bN l e)]⟩else none
  |none=>none
 |_,_=>none
def Z2(b:TB)(Γ:List VT)(gs:Gd)(dst:Option Nat)(g:Nat)(ti:TI)(l c:Option ST):Option bp :=
 match gs,ti.vt,fT [] l,fT [] c with
 |[],.one (.c (.sl e)),some (_,n),some (_,a)=>match b.get e with
  |some i=>match i.vt with
   |.aU _=>none
   |.one _=>if n=a/\isInt (n.inf b.tab Γ)=some .i64/\i.bytes<=1024/\0<i.cells.length/\(BP (b.tab e)=true\/(Jf b (b.tab e)).isSome=true)then
    some ⟨wv dst (.v [] (.own g) (.mem n))++[(3*g+2,.live ⟨(b.tab e).length,some (.rep e (b.tab e) n,if BP (b.tab e)=true then none else(Jf b (b.tab e)).map fun m=>(g+1,m))⟩)],[.cond [] (.an (.ic .leq (.li .i64 0) n) (.ic .leq n (.li .i64 4294967296)))]⟩
    else none
  |none=>none
 |_,_,_,_=>none
def SZ(b:TB)(Γ:List VT)(dst:Option Nat)(σ:Nat->ST)(g:Nat)(ti:TI)(h:Nat)(ex:E)(lo:Option ST):Option bp :=
 match ti.vt,fT [] lo,σ (3*h+2)with
 |.one (.c (.sl l)),some (_,e),.live ⟨n,none⟩ =>
  if ex.inf b.tab Γ=some ti.vt/\(isInt (e.inf b.tab Γ)).isSome/\VF b ti.vt=true/\n=(b.tab l).length then
   some ⟨wv dst (.v [] (.own g) (.cut ex e (.len ex)))++[(3*h+2,.un),(3*g+2,.live ⟨n,none⟩)],[.cond [] (.inc ex e (.len ex))]⟩
  else none
 |_,_,_=>none
def Jv(b:TB)(Γ:List VT)(gs:Gd)(dst:Option Nat)(σ:Nat->ST)(g:Nat)(ti:TI)(x:Option ST)(lo i:Option (Option ST)):Option bp :=
 match gs,x,lo,i with
 |[],some (.v [] (.own h) ex),some l,none=>match SZ b Γ dst σ g ti h ex l with
  |some e=>some e
  |none=>Tg b Γ gs dst ti x lo i
 |_,_,_,_=>Tg b Γ gs dst ti x lo i
def SR(b:TB)(Γ:List VT)(dst:Option Nat)(σ:Nat->ST)(g:Nat)(ti u:TI)(x:Option ST)(h f n:Nat)(i:E)(off:Nat)(l:E):Option bp :=
 match ti.vt,u.vt with
 |.one (.c (.sl a)),.one (.c (.sl _))=>match fT [] x,b.get a,σ (3*h+2)with
  |some (.full,ex),some c,.live ⟨j,some (e,some (v,m))⟩=>match c.vt,e.inf b.tab Γ with
   |.one _,some (.one (.c (.sl d))) =>
    if gU (.sl a) (ex.inf b.tab Γ)=true/\c.bytes<=1024/\0<c.bytes/\0<c.cells.length/\n=j/\(b.tab d).length=n/\v=f/\(b.tab d)[off]? =some (.sl a)/\m.getD off 0=(b.tab a).length then
     some ⟨wv dst (.v [] (.own g) (.mem l))++[(3*g+2,.live ⟨(b.tab a).length,some (.cell (.row (b.tab d) e i) off,none)⟩)],[.cond [] (.ic .leq l (.li .i64 4294967296))]⟩
    else none
   |_,_=>none
  |_,_,_=>none
 |_,_=>none
def Jm(b:TB)(Γ:List VT)(gs:Gd)(dst:Option Nat)(σ:Nat->ST)(g:Nat)(ti u:TI)(x y:Option ST):Option bp :=
 match gs,y with
 |[],some (.iv [] h v n i off l)=>SR b Γ dst σ g ti u x h v n i off l
 |_,_=>Jn b Γ gs dst σ g ti u x y
def Js(b:TB)(Γ:List VT)(gs:Gd)(dst:Option Nat)(σ:Nat->ST)(ti:TI)(a:Operand):Option bp :=
 match a with
 |.global g=>ZX b Γ gs dst ti g
 |a=>match aZ b σ 0 a with
  |some (.gp c g x e)=>match ti.vt,x.inf b.tab Γ with
   |.one (.c t),some (.one (.agg d))=>if qQ c gs=true/\d.all (fun u=>decide (u=t))=true then some ⟨wv dst (.v gs .d (.Kt t x e)),[]⟩else none
   |_,_=>none
  |some (.mp c g n i off)=>Td b Γ gs dst σ ti c g n i off
  |some (.ip f g v n i off j m o)=>Ta b Γ gs dst σ ti f g v n i off j m o
  |s=>Jt b.tab Γ gs dst σ ti s
def Jw(b:TB)(Γ:List VT)(gs:Gd)(dst:Option Nat)(σ:Nat->ST)(a:Nat)(ti:TI)(s x:Option ST):Option bp :=
 match gs,dst,s with
 |[],none,some (.mp [] g n i off)=>Te b Γ σ a ti g n i off x
 |[],none,some (.ip [] g v n i off j m o)=>Tb b Γ σ ti g v n i off j m o x
 |_,_,_=>Dj b.tab Γ gs dst σ ti s x
def ZV(b:TB)(Γ:List VT)(gs:Gd)(dst:Option Nat)(ti:TI)(s:Option ST)(f:Nat):Option bp :=
 match s with
 |some (.mp a g n i off)=>Z0 b gs dst ti a g n i off f
 |_=>ZU b Γ gs dst ti s f
def Jr(b:TB)(Γ:List VT)(gs:Gd)(dst:Option Nat)(σ:Nat->ST)(ti:TI)(T:Nat)(x i:Operand):Option bp :=
 match x with
 |.global g=>ZW b Γ gs dst ti g (aZ b σ 0 i)
 |x=>match aZ b σ T x with
  |some (.v a (.own g) l)=>bif gU .mem (l.inf b.tab Γ)then Z1 b Γ gs dst ti a g l (aZ b σ 0 i)else Tc b Γ gs dst ti (aZ b σ T x) (aZ b σ 0 i)
  |some (.iv d g v n k off l)=>ZY b Γ gs dst ti d g v n k off l (aZ b σ 0 i)
  |s=>Tc b Γ gs dst ti s (aZ b σ 0 i)
def Z8(b:TB)(Γ:List VT)(gs:Gd)(dst:Option Nat)(ti:TI)(x i:Option ST):Option bp :=
 match Mq b ti with
 |some (n,t)=>match fT gs x,fT gs i with
  |some (_,ex),some (_,e)=>if ex.inf b.tab Γ=some (.one (.agg (List.replicate n t)))/\(isInt (e.inf b.tab Γ)).isSome=true then some ⟨wv dst (.v gs .d (.Kt t ex e)),[.cond gs (.an (.ic .leq (.li .i64 0) e) (.ic .lss e (.li .i64 n)))]⟩else none
  |_,_=>none
 |none=>ZP b.tab Γ gs dst ti x i
def SY(b:TB)(Γ:List VT)(gs:Gd)(dst:Option Nat)(σ:Nat->ST)(ti:TI)(x:Option ST)(args:List Operand)(y:List Nat):Option bp :=
 match fT gs x,nJ b Γ gs σ args y with
 |some (_,e),some s=>if gU .fn (e.inf b.tab Γ)=true then some ⟨wv dst (.v gs .d (.var Γ.length)),[.lH gs e s ti.vt]⟩else none
 |_,_=>none
def Bc(tab:Nat->List CT)(Γ:List VT)(σ:Nat->ST):List Operand->List Nat->E->Option (E×List Nat)
 |[],i,e=>some (e,i)
 |.tmp t::r,i,e=>match σ (3*t)with
  |.ptr [] id 0=>match σ (3*id+1)with
   |.box cs=>if id≠0/\i.contains id=false then Bc tab Γ σ r (id::i) (.FX e (pack tab Γ (cs.map (·.2))))else none
   |_=>none
  |_=>none
 |_::_,_,_=>none
def rW(i:List Nat):List (Nat×ST):=i.map fun id=>(3*id+1,.un)
def Ju(tab:Nat->List CT)(Γ:List VT)(gs:Gd)(dst:Option Nat)(σ:Nat->ST)(f:Nat)(first c:List Operand):Option bp :=
 match gs,first with
 |[],[]=>match Bc tab Γ σ c [] (.fn0 f)with
  |some (e,i)=>if gU .fn (e.inf tab Γ)=true then some ⟨wv dst (.v [] .d e)++rW i,[]⟩else none
  |none=>none
 |_,_=>none
def Jl(nt:Nat):Option Nat->Bool
 |some d=>Nat.blt d nt
 |none=>true
def yP(d:Cx)(ops:Array Oper)(Γ:List VT)(g:Nat)(o:Oper)(σ:Nat->ST):Option bp :=
 match zI d.tb.tab Γ ops σ o with
 |none=>none
 |some s=>
  bif Jl d.nt o.dst then
   match o.op with
   |.move x|.assign x=>Z3 s o.dst (aZ d.tb σ o.type x)
   |.load T a=>match d.tb.get T with|some e=>Js d.tb Γ s o.dst σ e a|none=>none
   |.store T a x=>match d.tb.get T with|some e=>Jw d.tb Γ s o.dst σ g e (aZ d.tb σ 0 a) (aZ d.tb σ T x)|none=>none
   |.fieldAddr T a f=>match d.tb.get T with|some e=>ZV d.tb Γ s o.dst e (aZ d.tb σ 0 a) f|none=>none
   |.indexAddr T x i=>match d.tb.get T with|some e=>Jr d.tb Γ s o.dst σ e T x i|none=>none
   |.index T x i=>match d.tb.get T with|some e=>Z8 d.tb Γ s o.dst e (aZ d.tb σ T x) (aZ d.tb σ 0 i)|none=>none
   |.box T x=>ZR d.tb.tab Γ s o.dst g (aZ d.tb σ T x)
   |.alloc T=>match d.tb.get T with|some e=>ZO s o.dst g e|none=>none
   |.build T parts=>match d.tb.get T with|some e=>SV d.tb Γ s o.dst σ e parts.toList|none=>none
   |.makeSlice T l c=>match d.tb.get T with|some e=>Z2 d.tb Γ s o.dst g e (aZ d.tb σ 0 l) (aZ d.tb σ 0 c)|none=>none
   |.buildSlice T len parts=>match d.tb.get T with|some e=>bif Nat.blt 0 len&&s.isEmpty then SW d.tb Γ s o.dst σ g e len parts.toList else SX d.tb Γ s o.dst σ e len parts.toList|none=>none
   |.slice T x j k none=>match d.tb.get T with|some e=>Jv d.tb Γ s o.dst σ g e (aZ d.tb σ T x) (j.map (aZ d.tb σ 0)) (k.map (aZ d.tb σ 0))|none=>none
   |.convert S T x=>match d.tb.get S,d.tb.get T with|some h,some e=>ZS d.tb.tab Γ s o.dst (adn d.tb h) h e (aZ d.tb σ S x)|_,_=>none
   |.extract t i=>ZT d.tb.tab Γ s o.dst (aZ d.tb σ 0 t) i
   |.unOp .not _ x=>Z6 d.tb.tab Γ s o.dst (aZ d.tb σ 0 x)
   |.unOp .neg _ x=>Z4 d.tb.tab Γ s o.dst (aZ d.tb σ 0 x)
   |.pick c a b=>Z7 d.tb.tab Γ s o.dst (aZ d.tb σ 0 c) (aZ d.tb σ o.type a) (aZ d.tb σ o.type b)
   |.makeFunc (.func f) first p=>Ju d.tb.tab Γ s o.dst σ f first.toList p.toList
   |.nilCheck x=>Z5 s o.dst (aZ d.tb σ 0 x)
   |.binOp op T x y _=>ZQ d.tb.tab Γ s o.dst op (d.tb.get T) (aZ d.tb σ T x) (aZ d.tb σ T y)
   |.call c=>match c.callee with
    |.value (.func f)=>match d.tb.get o.type with
     |some e=>match aks e with
      |some n=>eNew d.tb Γ s o.dst σ g n f c.args.toList c.argTypes.toList
      |none=>Jp d.tb Γ s o.dst σ g (d.rb.get f) e f c.args.toList c.argTypes.toList
     |none=>none
    |.value (.tmp t)=>match d.tb.get o.type with
     |some e=>SY d.tb Γ s o.dst σ e (aZ d.tb σ 0 (.tmp t)) c.args.toList c.argTypes.toList
     |none=>none
    |.builtin .len=>match c.args.toList,c.argTypes.toList with
     |[x],[T]=>match d.tb.get T with|some e=>ZZ d.tb.tab Γ s o.dst e (aZ d.tb σ T x)|none=>none
     |_,_=>none
    |.builtin .append=>match c.args.toList,c.argTypes.toList with
     |[x,y],[T,U]=>match d.tb.get T,d.tb.get U with|some e,some u=>Jm d.tb Γ s o.dst σ g e u (aZ d.tb σ T x) (aZ d.tb σ U y)|_,_=>none
     |_,_=>none
    |_=>none
   |_=>none
  else none
def tmpsOf(ops:Array Oper)(o:Oper):List Nat :=
 (o.op.operands.toList.filterMap fun|.tmp t=>some t|_=>none)++(match o.guard with|none=>[]|some (j,_)=>((ops[j]?).bind (·.dst)).toList)
def qP(σ:Nat->ST):List Nat->List Nat
 |[]=>[]
 |t::r=>match σ (3*t)with
  |.ptr _ id _=>(3*id+1)::qP σ r
  |.v _ (.own g) _=>(3*g+2)::qP σ r
  |.mp _ g _ _ _=>(3*g+2)::qP σ r
  |.ip _ g _ _ _ _ _ _ _=>(3*g+2)::qP σ r
  |.iv _ g _ _ _ _ _=>(3*g+2)::qP σ r
  |_=>qP σ r
def looks:Op->Bool
 |.load _ _|.store _ _ _|.call _|.slice .. |.makeFunc .. =>true
 |_=>false
def readsOf(ops:Array Oper)(σ:Nat->ST)(o:Oper):List Nat:=(tmpsOf ops o).map (3* ·)++bif looks o.op then qP σ (tmpsOf ops o)else []
structure SS where
 Γ:List VT
 nt:Nat
 lv:Nat
 σ:Sg
def lN:List Rq->List VT
 |[]=>[]
 |.cond _ _::r=>lN r
 |.call _ _ _ _ vt nb::r=>vt::nb.map (fun t=>.one (.c t))++lN r
 |.cM _ _ _ vt nb _::r=>vt::nb.map (fun t=>.one (.c t))++lN r
 |.new _ _ nb::r=>nb.map (fun t=>.one (.c t))++lN r
 |.lH _ _ _ vt::r=>vt::lN r
 |.xh _ vt _::r=>vt::lN r
def SS.step(s:SS)(e:bp):SS:={s with Γ:=s.Γ++lN e.rq,nt:=s.nt+qu,σ:=e.wr.reverse++s.σ}
def oP(c:Cx)(ops:Array Oper):List Oper->SS->Option (List bp×SS)
 |[],a=>some ([],a)
 |o::r,a=>match yP c ops a.Γ a.nt o a.σ.get with
  |none=>none
  |some e=>match oP c ops r (a.step e)with
   |none=>none
   |some (es,s)=>some (e::es,s)
inductive VC where
 |fail (why:Nat)
 |ret (e:E) (bs:List E)
 |rq (r:Rq) (k:VC)
 |ite (c:E) (a b:VC)
 |loop (eD:List VT) (inits:List E) (body:VC)
 |again (d:Nat) (es:List E)
def Ed:List bp->VC->VC
 |[],k=>k
 |e::r,k=>e.rq.foldr .rq (Ed r k)
end
end Go.Proofs.YtoomhbopolalnaaGreatDoor
