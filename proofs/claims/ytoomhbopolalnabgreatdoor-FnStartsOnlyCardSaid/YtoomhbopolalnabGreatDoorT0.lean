/- General lemmas on worlds, cells and results, used by all walks of this seat. Nothing is assumed. -/
import Derived.Test.YtoomhbopolalnabGreatDoorProg
import Derived.Handy
import Derived.BigQuiet
import Derived.Lib.Hide
import Derived.StillTailTactics
import Derived.Deep.RegionHeld3
set_option linter.all false
namespace Go.Proofs.YtoomhbopolalnabGreatDoor
variable {P:Program}{v:Value}{a w:World}
section
def tU:=@Addr.add_lit
def kC:=@Addr.mk.injEq
def C4:=@And.left
def Q6:=@Array.all_eq_true_iff_forall_mem
def sX:=@Array.getD_eq_getD_getElem?
def Q7:=@Array.getElem?_append_left
def Ir:=@Array.getElem?_eq_getElem
def E5:=@Array.getElem?_eq_none
def rS:=@Array.getElem?_eq_some_iff
def Iu:=@Array.getElem?_modify
def C5:=@Array.getElem?_setIfInBounds
def YP:=@Array.getElem?_setIfInBounds_ne
def sY:=@Array.getElem?_toList
def uV:=@Array.length_toList
def YQ:=@Array.mapM_eq_mapM_toList
def YR:=@Array.size_append
def YS:=@Array.size_replicate
def iX:=@Array.toList_inj
def Q8:=@Array.toList_map
def agV:=@Array.toList_setIfInBounds
def Mb:=@RowKit.Below.heap_alloc
def dQ:=@RowKit.Below.refl
def Q9:=@Bool.and_assoc
def C6:=@Bool.and_eq_false_iff
def aX:=@Bool.and_eq_true
def YT:=@Bool.and_false
def Ra:=@Bool.and_true
def wQ:=@Bool.eq_iff_iff
def yc:=@Bool.false_eq_true
def Rb:=@Bool.false_or
def YU:=@Bool.not_eq_true
def qi:=@Bool.not_eq_true'
def C8:=@Bool.not_false
def jM:=@Bool.or_eq_true
def oC:=@Bool.true_and
def Rc:=@ByteArray.ext
def A5:=@ByteArray.size_append
def Rd:=@Classical.byContradiction
def Re:=@Function.comp_def
def Rf:=@Int.le_refl
def Mc:=@Int.lt_or_le
def YW:=@Int.tmod_nonneg
def gR:=@Int.toNat_natCast
def Md:=@Int.toNat_of_nonneg
def YV:=@IntKind.wrap_i64
def wR:=@Lib.hid
def fH:=@List.all_eq_true
def YX:=@List.any_eq_false
def uW:=@List.any_eq_true
def iY:=@List.append_assoc
def qP:=@List.append_nil
def YY:=@List.append_of_mem
def A6:=@List.cons.injEq
def ia:=@List.cons_append
def YZ:=@List.contains_eq_mem
def agW:=@List.countP_eq_length_filter
def agX:=@List.drop_append_of_le_length
def C9:=@List.drop_drop
def Iv:=@List.drop_eq_nil_of_le
def Iw:=@List.drop_zero
def mO:=@List.eq_nil_of_length_eq_zero
def zB:=@List.ext_getElem?
def Y0:=@List.filter_append
def Y3:=@List.flatMap_cons
def Y4:=@List.flatten_cons
def tV:=@List.getD_cons_succ
def tW:=@List.getD_cons_zero
def jZ:=@List.getD_eq_getElem?_getD
def mP:=@List.getElem?_append_left
def nH:=@List.getElem?_append_right
def Y6:=@List.getElem?_cons_succ
def yd:=@List.getElem?_drop
def bX:=@List.getElem?_eq_getElem
def nI:=@List.getElem?_eq_none
def dh:=@List.getElem?_eq_some_iff
def iw:=@List.getElem?_map
def Ix:=@List.getElem?_range
def Da:=@List.getElem?_set
def Me:=@List.getElem?_set_ne
def Rg:=@List.getElem?_set_self
def qk:=@List.getElem?_take
def qj:=@List.getElem_mem
def tX:=@List.getElem_of_mem
def Y5:=@List.getElem_take
def iZ:=@List.length_append
def dR:=@List.length_cons
def Mf:=@List.length_drop
def Iy:=@List.length_dropLast
def Rh:=@List.length_filter_le
def di:=@List.length_map
def oD:=@List.length_nil
def Y7:=@List.length_pos_iff
def Ri:=@List.length_replicate
def uX:=@List.length_set
def lG:=@List.length_take
def Y8:=@List.mapM_cons
def zC:=@List.map_append
def E6:=@List.map_congr_left
def jA:=@List.map_cons
def Rj:=@List.map_map
def qQ:=@List.map_nil
def Rk:=@List.map_set
def E7:=@List.map_take
def iJ:=@List.mem_append
def fI:=@List.mem_cons
def tY:=@List.mem_filter
def Mg:=@List.mem_iff_getElem
def fJ:=@List.mem_map
def agY:=@List.mem_of_find?_eq_some
def jB:=@List.mem_of_getElem?
def Rl:=@List.mem_of_mem_drop
def Rm:=@List.mem_of_mem_take
def sZ:=@List.mem_or_eq_of_mem_set
def oF:=@List.mem_range
def mQ:=@List.mem_singleton
def agZ:=@List.mem_zipIdx_iff_getElem?
def iy:=@List.nil_append
def Rn:=@List.nodup_cons
def tZ:=@List.not_mem_nil
def Iz:=@List.pairwise_iff_getElem
def Mh:=@List.range'_succ
def Ro:=@List.range_eq_range'
def Y9:=@List.range_succ
def Mi:=@List.take_add_one
def Db:=@List.take_append_drop
def uY:=@List.take_length
def A7:=@List.take_of_length_le
def Rp:=@List.take_succ_cons
def Za:=@List.take_succ_eq_append_getElem
def Rt:=@List.take_zero
def wS:=@Nat.add_assoc
def Dc:=@Nat.add_comm
def iK:=@Nat.add_mul
def rT:=@Nat.add_zero
def gI:=@Nat.eq_of_beq_eq_true
def rU:=@Nat.eq_zero_or_pos
def gT:=@Nat.le_of_ble_eq_true
def lH:=@Nat.le_of_eq
def bM:=@Nat.le_refl
def dK:=@Nat.le_trans
def Ru:=@Nat.lt_irrefl
def Mj:=@Nat.lt_of_le_of_lt
def dS:=@Nat.lt_of_lt_of_le
def dP:=@Nat.lt_or_ge
def Zb:=@Nat.lt_or_gt_of_ne
def Rv:=@Nat.lt_succ_self
def E8:=@Nat.lt_trichotomy
def Rx:=@Nat.min_eq_left
def Zc:=@Nat.mul_le_mul
def mw:=@Nat.mul_le_mul_right
def oG:=@Nat.one_mul
def nJ:=@Nat.zero_add
def fW:=@Nat.zero_le
def ye:=@Ne.symm
def Zd:=@Oper.upon_skip
def Mk:=@Oper.upon_value
def j0:=@Option.getD_some
def Ml:=@Option.isSome_iff_exists
def Ze:=@Option.isSome_none
def kN:=@Option.map_eq_some_iff
def Zf:=@Option.map_none
def j6:=@Option.map_some
def iR:=@Option.some.inj
def aS:=@Option.some.injEq
def gj:=@Prod.mk.injEq
def uZ:=@Result.andThen_ok
def Zg:=@Result.ok.injEq
def lS:=@Sem.run_bind
def De:=@Sem.run_pure
def Ry:=@Tryz.func181
def Rz:=@Tryz.func189
def RA:=@Tryz.func201
def RC:=@Tryz.func216
def RD:=@Tryz.func217
def RE:=@Tryz.func218
def RF:=@Tryz.func219
def RG:=@Tryz.func228
def RH:=@Tryz.func229
def RI:=@Tryz.func230
def RJ:=@Tryz.func231
def RL:=@Tryz.func232
def RM:=@Tryz.func235
def RN:=@Tryz.func236
def IA:=@Tryz.isAgg0
def IB:=@Tryz.isAgg144
def RO:=@Tryz.isAgg2
def Mm:=@Tryz.isAgg20
def RP:=@Tryz.isAgg213
def RQ:=@Tryz.isAgg214
def RR:=@Tryz.isAgg217
def Mn:=@Tryz.isAgg22
def IC:=@Tryz.isAgg222
def RS:=@Tryz.isAgg232
def RT:=@Tryz.isAgg233
def RU:=@Tryz.isAgg244
def RV:=@Tryz.isAgg245
def E9:=@Tryz.isAgg3
def Fa:=@Tryz.isAgg4
def Fb:=@Tryz.isAgg5
def Fc:=@Tryz.isAgg9
def ID:=@Tryz.sizeOf0
def IE:=@Tryz.sizeOf144
def Zh:=@Tryz.sizeOf190
def Zi:=@Tryz.sizeOf191
def RW:=@Tryz.sizeOf2
def Mo:=@Tryz.sizeOf20
def Zj:=@Tryz.sizeOf203
def RX:=@Tryz.sizeOf213
def RY:=@Tryz.sizeOf214
def RZ:=@Tryz.sizeOf217
def Mp:=@Tryz.sizeOf22
def IG:=@Tryz.sizeOf222
def R7:=@Tryz.sizeOf232
def R8:=@Tryz.sizeOf233
def Su:=@Tryz.sizeOf244
def Sv:=@Tryz.sizeOf245
def Fe:=@Tryz.sizeOf3
def Ff:=@Tryz.sizeOf4
def Fg:=@Tryz.sizeOf5
def Fh:=@Tryz.sizeOf9
def II:=@Tryz.underlying0
def gC:=@Tryz.underlying102
def Zk:=@Tryz.underlying127
def IJ:=@Tryz.underlying144
def Zl:=@Tryz.underlying190
def Zm:=@Tryz.underlying191
def Sw:=@Tryz.underlying2
def Mq:=@Tryz.underlying20
def Zn:=@Tryz.underlying203
def Zo:=@Tryz.underlying21
def Sx:=@Tryz.underlying213
def Sy:=@Tryz.underlying214
def Sz:=@Tryz.underlying217
def Mr:=@Tryz.underlying22
def IK:=@Tryz.underlying222
def SD:=@Tryz.underlying232
def SE:=@Tryz.underlying233
def mR:=@Tryz.underlying24
def SF:=@Tryz.underlying244
def SG:=@Tryz.underlying245
def ql:=@Tryz.underlying25
def eX:=@Tryz.underlying26
def vc:=@Tryz.underlying27
def cN:=@Tryz.underlying29
def kO:=@Tryz.underlying3
def ud:=@Tryz.underlying31
def Zp:=@Tryz.underlying33
def zD:=@Tryz.underlying4
def Fj:=@Tryz.underlying5
def Zq:=@Tryz.underlying59
def Zr:=@Tryz.underlying84
def zE:=@Tryz.underlying85
def dF:=@Tryz.underlying87
def iz:=@Tryz.underlying9
def IL:=@Tryz.zeroValue0
def IM:=@Tryz.zeroValue144
def Zs:=@Tryz.zeroValue190
def Zt:=@Tryz.zeroValue191
def SI:=@Tryz.zeroValue2
def Ms:=@Tryz.zeroValue20
def Zu:=@Tryz.zeroValue203
def Zv:=@Tryz.zeroValue21
def SJ:=@Tryz.zeroValue213
def SK:=@Tryz.zeroValue214
def SL:=@Tryz.zeroValue217
def Mt:=@Tryz.zeroValue22
def IP:=@Tryz.zeroValue222
def SN:=@Tryz.zeroValue232
def SP:=@Tryz.zeroValue244
def SQ:=@Tryz.zeroValue245
def Fk:=@Tryz.zeroValue3
def Fl:=@Tryz.zeroValue4
def Fm:=@Tryz.zeroValue5
def Fo:=@Tryz.zeroValue9
def fE:=@Value.slice.injEq
def SR:=@World.cell?_alloc_new
def Df:=@World.cell?_of_block
def gb:=@World.size_alloc
def yf:=@and_true
def Zw:=@beq_eq_false_iff_ne
def vf:=@beq_iff_eq
def gm:=@Go.block_lt_of_cell
def yg:=@Go.cell_of_row
def yh:=@cond_false
def gD:=@cond_true
def Zx:=@decide_eq_false
def oH:=@decide_eq_false_iff_not
def Mu:=@decide_eq_true
def du:=@decide_eq_true_eq
def A8:=@forall_eq
def Dg:=@forall_eq_or_imp
def vg:=@Go.heap_alloc_new
def vz:=@if_false
def aw:=@if_neg
def aC:=@if_pos
def ue:=@if_true
def wT:=@Go.info_parts
def SV:=@of_decide_eq_true
def wU:=@or_false
def Zy:=@Go.run_equalIn_bool'
def IQ:=@Go.run_loadCells_list
def IU:=@Go.run_loadVar_row
def wV:=@true_and
def A9:=@Go.wp_mono
def IV:=@Go.wrap_within
open Go.RowKit
def Dl{p:Addr}(hb:Below w.heap.size w a)(h:w.cell? p=some v):a.cell? p=some v:=by rw[hb.cell (gm h)];exact h
def bt{b:World}(h:Below w.heap.size w a)(k:Below a.heap.size a b):Below w.heap.size w b:=h.trans (k.mono h.size)
def aFX{id:Nat}{Q:Exit->Act->World->Prop}{a:Act}{l:List Oper}(n:Nat)(m:P.follows .mixedOrders=true)(B:Region.lexTailB .any l.toArray n=true)
  (h:wpStill P l.toArray w.drew (fun b=>wpList P l.toArray Q (l.drop n) b w.drew) (l.take n) a):(Code.region id l.toArray true).wp P Q a w:=wp_region_still_tail n m B h
def aA(w:World)(g:Nat)(t:TypeId)(cs:Array Value):Prop:=w.heap[g]? =some (.cells cs t (0,0))
section
variable {w w':World}{g:Nat}{t:TypeId}{cs:Array Value}
def aA.lt(h:aA w g t cs):g<w.heap.size:=by
 rcases dP g w.heap.size with l|e
 ·exact l
 ·unfold aA at h;rw[E5 e]at h;cases h
def aA.cell(h:aA w g t cs)(i:Nat):w.cell? ⟨g,i,none⟩=cs[i]? :=yg w g i cs t (0,0) h
def aA.frozen(h:aA w g t cs)(i:Nat):w.frozen? ⟨g,i,none⟩=false:=by unfold aA at h;simp[World.frozen?,h]
def aA.new(w:World)(t:TypeId)(cs:Array Value):aA (w.alloc (.cells cs t)) w.heap.size t cs:=vg w _
def aA.alloc(h:aA w g t cs)(o:Obj):aA (w.alloc o) g t cs:=(Mb w o g h.lt).trans h
def aA.xN(h:aA w g t cs)(i:Nat)(u:Value):aA (w.setCell ⟨g,i,none⟩ u) g t (cs.setIfInBounds i u):=by unfold aA at h ⊢;simp[World.setCell,Iu,h]
def aA.far(h:aA w g t cs){p:Addr}(a:g≠p.block)(u:Value):aA (w.setCell p u) g t cs:=(Below.heap_setCell w p u g a).trans h
def aA.below{B:Nat}(h:aA w g t cs)(hb:Below B w w')(hg:g<B):aA w' g t cs:=(hb.block g hg).trans h
def aA.grown{row:Option Nat}(h:aA w g t cs)(hb:w.grownBy w' row)(hg:some g≠row):aA w' g t cs:=(hb.block g h.lt hg).trans h
end
def aF2{fn:Func}{p:Tmp}{ty:TypeId}(h:fn.results=#[.cell p ty])(tmps:Array Value)(w:World){g:Nat}{t:TypeId}{cs:Array Value}(d:TypeDesc)
  (a:tmps.getD p undef=.pointer (some ⟨g,0,none⟩)) (hg:aA w g t cs) (u:P.underlying ty=some d) (hd:(match d with|.struct _|.array _ _=>true|_=>false)=true) (i:(P.info? ty).map (·.size)=some cs.size) :
  (results fn tmps).run P w=.ok (.agg cs) w:=results_cell_row h tmps w g t cs (0,0) d a hg u hd i
end
variable {M M':Addr->Prop}{w':World}
section
open Go.RowKit
class GC where
 inv:World->Prop
 ng:Nat
 keep:∀{w w':World},(∀k,k<ng->w'.heap[k]? =w.heap[k]?)->inv w->inv w'
section
variable [GC]
def NG:Nat:=GC.ng
def qd(w:World):Prop:=GC.inv w
def qd.keep(h:∀k,k<NG->w'.heap[k]? =w.heap[k]?)(a:qd w):qd w':=GC.keep h a
end
def Yv(w:World)(g:Nat)(p:Array Value->Prop):Prop:=∃cs t f,w.heap[g]? =some (.cells cs t f)/\p cs
inductive D where
 |bool (b:Bool)
 |int (k:IntKind) (n:Int)
 |str (s:ByteArray)
 |agg (l:List D)
 |aU (l:List D)
 |sl (rows:List (List D))
 |mem (n:Nat)
 |fn (f:Nat) (cC:List (List D))
 |un
instance :Inhabited D:=⟨.un⟩
mutual
def R(w:World)(M:Addr->Prop):D->Value->Prop
 |.bool b,v=>v=.bool b
 |.int k n,v=>v=.int k n/\k.min<=n/\n<=k.max
 |.str s,v=>v=.string s/\s.size<=maxLen
 |.agg l,v=>∃cs:Array Value,v=.agg cs/\Rs w M l cs.toList
 |.aU l,v=>∃cs:Array Value,v=.tuple cs/\Rs w M l cs.toList
 |.sl rows,v=>∃a len cap,v=.slice a len cap/\len=rows.length/\len<=cap/\cap<=maxLen/\(a=none->cap=0) /\
  ∀b o s,a=some ⟨b,o,s⟩->(0<len->s=none)/\jj w M rows b o
 |.mem n,v=>∃a cap,v=.slice a n cap/\n<=cap/\cap<=maxLen/\(a=none->cap=0)/\∀b o s,a=some ⟨b,o,s⟩->0<n->s=none
 |.fn f c,v=>∃ps:Array Value,v=.func (.func f) #[] ps/\nE w M c ps.toList
 |.un,_=>False
def Rs(w:World)(M:Addr->Prop):List D->List Value->Prop
 |[],vs=>vs=[]
 |d::l,vs=>∃v r,vs=v::r/\R w M d v/\Rs w M l r
def Rw(w:World)(M:Addr->Prop):List D->Nat->Nat->Prop
 |[],_,_=>True
 |d::l,b,o=>(∃v,w.cell? ⟨b,o,none⟩=some v/\¬M ⟨b,o,none⟩/\R w M d v)/\Rw w M l b (o+1)
def jj(w:World)(M:Addr->Prop):List (List D)->Nat->Nat->Prop
 |[],_,_=>True
 |r::l,b,o=>Rw w M r b o/\jj w M l b (o+r.length)
def nE(w:World)(M:Addr->Prop):List (List D)->List Value->Prop
 |[],vs=>vs=[]
 |r::l,vs=>∃b q,vs=.pointer (some ⟨b,0,none⟩)::q/\Rw w M r b 0/\nE w M l q
end
def bQ(w:World)(M:Addr->Prop)(w':World)(M':Addr->Prop):Prop:=∀p v,w.cell? p=some v->¬M p->w'.cell? p=some v/\¬M' p
section
variable {w w':World}{M M':Addr->Prop}
mutual
def R.keep(h:bQ w M w' M'):∀(d:D) (v:Value),R w M d v->R w' M' d v
 |.bool _,_,r=>r
 |.int _ _,_,r=>r
 |.str _,_,r=>r
 |.agg l,v,⟨cs,e,r⟩=>⟨cs,e,Rs.keep h l _ r⟩
 |.aU l,v,⟨cs,e,r⟩=>⟨cs,e,Rs.keep h l _ r⟩
 |.sl rows,v,⟨a,len,cap,e,h1,h2,i,j,f⟩=>⟨a,len,cap,e,h1,h2,i,j,fun b o s ha=>⟨(f b o s ha).1,jj.keep h rows b o (f b o s ha).2⟩⟩
 |.mem _,_,r=>r
 |.fn _ c,v,⟨ps,e,r⟩=>⟨ps,e,nE.keep h c _ r⟩
 |.un,_,r=>r
def Rs.keep(h:bQ w M w' M'):∀(l:List D) (vs:List Value),Rs w M l vs->Rs w' M' l vs
 |[],_,a=>a
 |d::l,vs,⟨v,r,e,h1,h2⟩=>⟨v,r,e,R.keep h d v h1,Rs.keep h l r h2⟩
def Rw.keep(h:bQ w M w' M'):∀(l:List D) (b o:Nat),Rw w M l b o->Rw w' M' l b o
 |[],_,_,_=>trivial
 |d::l,b,o,⟨⟨v,h1,h2,a⟩,c⟩=>⟨⟨v,(h _ _ h1 h2).1,(h _ _ h1 h2).2,R.keep h d v a⟩,Rw.keep h l b (o+1) c⟩
def jj.keep(h:bQ w M w' M'):∀(l:List (List D)) (b o:Nat),jj w M l b o->jj w' M' l b o
 |[],_,_,_=>trivial
 |r::l,b,o,⟨h1,h2⟩=>⟨Rw.keep h r b o h1,jj.keep h l b (o+r.length) h2⟩
def nE.keep(h:bQ w M w' M'):∀(l:List (List D)) (vs:List Value),nE w M l vs->nE w' M' l vs
 |[],_,a=>a
 |r::l,vs,⟨b,q,e,h1,h2⟩=>⟨b,q,e,Rw.keep h r b 0 h1,nE.keep h l q h2⟩
end
def nE.snoc{r:List D}{b:Nat}(h:Rw w M r b 0):∀{l:List (List D)} {vs:List Value},nE w M l vs->nE w M (l++[r]) (vs++[.pointer (some ⟨b,0,none⟩)])
 |[],_,a=>by subst a;exact⟨b,[],rfl,h,rfl⟩
 |d::l,vs,⟨c,q,e,h1,h2⟩=>by subst e;exact⟨c,q++[_],rfl,h1,nE.snoc h h2⟩
def nE.length:∀{l:List (List D)} {vs:List Value},nE w M l vs->vs.length=l.length
 |[],_,h=>by subst h;rfl
 |_::l,_,⟨_,_,e,_,h2⟩=>by subst e;simp[nE.length h2]
def nE.get:∀{l:List (List D)} {vs:List Value},nE w M l vs->∀{i:Nat} {r:List D},l[i]? =some r->∃b,vs[i]? =some (.pointer (some ⟨b,0,none⟩))/\Rw w M r b 0
 |[],_,_,i,r,h=>by simp at h
 |r::l,_,⟨b,q,e,h1,h2⟩,0,a,h=>by subst e;simp at h;subst h;exact⟨b,rfl,h1⟩
 |r::l,_,⟨b,q,e,h1,h2⟩,i+1,a,h=>by subst e;simp at h;obtain⟨u,c,d⟩:=nE.get h2 h;exact⟨u,by simpa using c,d⟩
def Rs.length:∀{l:List D} {vs:List Value},Rs w M l vs->vs.length=l.length
 |[],_,h=>by subst h;rfl
 |d::l,vs,⟨v,r,e,h1,h2⟩=>by subst e;simp[Rs.length h2]
def Rs.get:∀{l:List D} {vs:List Value},Rs w M l vs->∀{i:Nat} {d:D},l[i]? =some d->∃v,vs[i]? =some v/\R w M d v
 |[],_,_,i,d,hd=>by simp at hd
 |d::l,vs,⟨v,r,e,h1,h2⟩,0,a,hd=>by subst e;simp at hd;subst hd;exact⟨v,rfl,h1⟩
 |d::l,vs,⟨v,r,e,h1,h2⟩,i+1,a,hd=>by subst e;simp at hd;obtain⟨u,h,b⟩:=Rs.get h2 hd;exact⟨u,by simpa using h,b⟩
def Rs.append:∀{l b:List D} {vs s:List Value},Rs w M l vs->Rs w M b s->Rs w M (l++b) (vs++s)
 |[],_,_,_,h,a=>by subst h;simpa using a
 |d::l,_,vs,s,⟨v,r,e,h1,h2⟩,a=>by subst e;exact⟨v,r++s,rfl,h1,Rs.append h2 a⟩
def Rs.drop:∀{l:List D} {vs:List Value},Rs w M l vs->∀n,Rs w M (l.drop n) (vs.drop n)
 |_,_,h,0=>by simpa using h
 |[],_,h,n+1=>by subst h;simp[Rs]
 |d::l,vs,⟨v,r,e,h1,h2⟩,n+1=>by subst e;simpa using Rs.drop h2 n
def Rs.take:∀{l:List D} {vs:List Value},Rs w M l vs->∀n,Rs w M (l.take n) (vs.take n)
 |_,_,h,0=>by simp[Rs]
 |[],_,h,n+1=>by subst h;simp[Rs]
 |d::l,vs,⟨v,r,e,h1,h2⟩,n+1=>by subst e;exact⟨v,r.take n,by simp,h1,Rs.take h2 n⟩
def Rs.one{d:D}(h:R w M d v):Rs w M [d] [v]:=⟨v,[],rfl,h,rfl⟩
def Rw.get:∀{l:List D} {b o:Nat},Rw w M l b o->∀{i:Nat} {d:D},l[i]? =some d->∃v,w.cell? ⟨b,o+i,none⟩=some v/\¬M ⟨b,o+i,none⟩/\R w M d v
 |[],_,_,_,i,d,hd=>by simp at hd
 |d::l,b,o,⟨h1,h2⟩,0,a,hd=>by simp at hd;subst hd;simpa using h1
 |d::l,b,o,⟨h1,h2⟩,i+1,a,hd=>by
  simp at hd;have:=Rw.get h2 hd
  rwa[show o+1+i=o+(i+1) by omega]at this
def Rw.drop:∀{l:List D} {b o:Nat},Rw w M l b o->∀n,Rw w M (l.drop n) b (o+n)
 |_,_,_,h,0=>by simpa using h
 |[],_,_,h,n+1=>by simp[Rw]
 |d::l,b,o,⟨h1,h2⟩,n+1=>by have:=Rw.drop h2 n;simpa[wS,Dc 1 n]using this
def Rw.take:∀{l:List D} {b o:Nat},Rw w M l b o->∀n,Rw w M (l.take n) b o
 |_,_,_,h,0=>by simp[Rw]
 |[],_,_,h,n+1=>by simp[Rw]
 |d::l,b,o,⟨h1,h2⟩,n+1=>⟨h1,Rw.take h2 n⟩
def CV:∀{l:List D} {b o:Nat},(∀i d,l[i]? =some d->∃v,w.cell? ⟨b,o+i,none⟩=some v/\¬M ⟨b,o+i,none⟩/\R w M d v)->Rw w M l b o
 |[],_,_,_=>trivial
 |d::l,b,o,h=>⟨by simpa using h 0 d rfl,CV fun i a hd=>by
  have:=h (i+1) a (by simpa using hd)
  rwa[show o+(i+1)=o+1+i by omega]at this⟩
def Rw.cells:∀{l:List D} {b o:Nat},Rw w M l b o->∃vs:List Value,vs.length=l.length/\Rs w M l vs/\∀i u,vs[i]? =some u->w.cell? ⟨b,o+i,none⟩=some u
 |[],_,_,_=>⟨[],rfl,rfl,fun i u h=>by simp at h⟩
 |d::l,b,o,⟨⟨v,h1,h2,c⟩,f⟩=>by
  obtain⟨vs,e,r,j⟩:=Rw.cells f;refine⟨v::vs,by simp[e],⟨v,vs,rfl,c,r⟩,fun i u a=> ?_⟩;cases i with
  |zero=>simp at a;subst a;simpa using h1
  |succ i=>simp at a;have:=j i u a;rwa[show o+1+i=o+(i+1) by omega]at this
def jj.get{n:Nat}:∀{rows:List (List D)} {b o:Nat},jj w M rows b o->(∀r∈rows,r.length=n)->∀{i:Nat} {r:List D},rows[i]? =some r->Rw w M r b (o+i*n)
 |[],_,_,_,_,i,r,h=>by simp at h
 |r::l,b,o,⟨h1,h2⟩,a,0,c,h=>by simp at h;subst h;simpa using h1
 |r::l,b,o,⟨h1,h2⟩,a,i+1,c,h=>by
  simp at h;have e:=a r (by simp);have:=jj.get h2 (fun x d=>a x (by simp[d])) h;rw[e]at this
  rwa[show o+n+i*n=o+(i+1)*n by rw[iK];omega]at this
def AZ{n:Nat}:∀{rows:List (List D)} {b o:Nat},(∀r∈rows,r.length=n)->(∀i r,rows[i]? =some r->Rw w M r b (o+i*n))->jj w M rows b o
 |[],_,_,_,_=>trivial
 |r::l,b,o,a,h=>⟨by simpa using h 0 r rfl,AZ (fun x hx=>a x (by simp[hx])) fun i c d=>by
  have:=h (i+1) c (by simpa using d);rw[a r (by simp)]
  rwa[show o+(i+1)*n=o+n+i*n by rw[iK];omega]at this⟩
end
section
variable [GC]
def ek(w:World)(M:Addr->Prop):Prop:=(∀p,M p->p.block<w.heap.size)/\qd w/\NG<=w.heap.size
def ek.below(h:ek w M)(hb:Below w.heap.size w w')(a:∀p,M' p->p.block<w'.heap.size):ek w' M' :=
 ⟨a,h.2.1.keep fun k b=>hb.block k (dS b h.2.2),dK h.2.2 hb.size⟩
end
def bQ.below(hb:Below w.heap.size w w')(b:∀p,p.block<w.heap.size->M' p->M p):bQ w M w' M' :=
 fun p v a m=>⟨by rw[hb.cell (gm a)];exact a,fun h=>m (b p (gm a) h)⟩
inductive CT where
 |bool|int (k:IntKind)|str|sl (e:Nat)|mem|fn
 deriving DecidableEq
mutual
def cJ(tab:Nat->List CT):CT->D->Prop
 |.bool,.bool _=>True
 |.int k,.int a _=>k=a
 |.str,.str _=>True
 |.sl e,.sl rows=>dc tab (tab e) rows
 |.mem,.mem _=>True
 |.fn,.fn _ _=>True
 |_,_=>False
def bD(tab:Nat->List CT):List CT->List D->Prop
 |[],[]=>True
 |t::s,d::ds=>cJ tab t d/\bD tab s ds
 |_,_=>False
def dc(tab:Nat->List CT):List CT->List (List D)->Prop
 |_,[]=>True
 |s,r::rs=>bD tab s r/\dc tab s rs
end
def bD.length{tab:Nat->List CT}:∀{s:List CT} {l:List D},bD tab s l->l.length=s.length
 |[],[],_=>rfl
 |t::s,d::ds,h=>by simp[bD]at h;simp[bD.length h.2]
 |[],_::_,h=>by simp[bD]at h
 |_::_,[],h=>by simp[bD]at h
def dc.mem{tab:Nat->List CT}{s:List CT}:∀{rows:List (List D)},dc tab s rows->∀r∈rows,bD tab s r
 |[],_,r,a=>by simp at a
 |r::l,h,b,a=>by
  simp[dc]at h;rcases fI.1 a with e|e
  ·subst e;exact h.1
  ·exact dc.mem h.2 b e
def sW{tab:Nat->List CT}{s:List CT}:∀{rows:List (List D)},(∀r∈rows,bD tab s r)->dc tab s rows
 |[],_=>by simp[dc]
 |r::l,h=>by simp only[dc];exact⟨h r (by simp),sW fun x hx=>h x (by simp[hx])⟩
def dc.len{tab:Nat->List CT}{s:List CT}{rows:List (List D)}(h:dc tab s rows):∀r∈rows,r.length=s.length:=fun r a=>(h.mem r a).length
def bD.get{tab:Nat->List CT}:∀{s:List CT} {l:List D},bD tab s l->∀{i:Nat} {t:CT},s[i]? =some t->∃d,l[i]? =some d/\cJ tab t d
 |[],_,_,i,t,a=>by simp at a
 |t::s,d::ds,h,0,b,a=>by simp[bD]at h;simp at a;subst a;exact⟨d,rfl,h.1⟩
 |t::s,d::ds,h,i+1,b,a=>by simp[bD]at h;simp at a;obtain⟨x,hx,h2⟩:=bD.get h.2 a;exact⟨x,by simpa using hx,h2⟩
 |_::_,[],h,_,_,_=>by simp[bD]at h
def bD.append{tab:Nat->List CT}:∀{a s:List CT} {l c:List D},bD tab a l->bD tab s c->bD tab (a++s) (l++c)
 |[],_,[],_,_,b=>by simpa using b
 |t::a,_,d::ds,_,h,b=>by simp[bD]at h;simp only[ia,bD];exact⟨h.1,bD.append h.2 b⟩
 |[],_,_::_,_,h,_=>by simp[bD]at h
 |_::_,_,[],_,h,_=>by simp[bD]at h
def bD.drop{tab:Nat->List CT}:∀{s:List CT} {l:List D},bD tab s l->∀n,bD tab (s.drop n) (l.drop n)
 |_,_,h,0=>by simpa using h
 |[],[],h,n+1=>by simp[bD]
 |t::s,d::ds,h,n+1=>by simp[bD]at h;simpa using bD.drop h.2 n
 |[],_::_,h,_+1=>by simp[bD]at h
 |_::_,[],h,_+1=>by simp[bD]at h
def bD.take{tab:Nat->List CT}:∀{s:List CT} {l:List D},bD tab s l->∀n,bD tab (s.take n) (l.take n)
 |_,_,h,0=>by simp[bD]
 |[],[],h,n+1=>by simp[bD]
 |t::s,d::ds,h,n+1=>by simp[bD]at h;simp only[Rp,bD];exact⟨h.1,bD.take h.2 n⟩
 |[],_::_,h,_+1=>by simp[bD]at h
 |_::_,[],h,_+1=>by simp[bD]at h
mutual
def Fits:D->Prop
 |.int k n=>k.min<=n/\n<=k.max
 |.str s=>s.size<=maxLen
 |.agg l=>dI l
 |.aU l=>dI l
 |.sl rows=>rows.length<=maxLen/\Ig rows
 |_=>True
def dI:List D->Prop
 |[]=>True
 |d::l=>Fits d/\dI l
def Ig:List (List D)->Prop
 |[]=>True
 |r::l=>dI r/\Ig l
end
section
variable {w:World}{M:Addr->Prop}
mutual
def LY:∀(d:D) (v:Value),R w M d v->Fits d
 |.bool _,_,_=>trivial
 |.int _ _,_,h=>h.2
 |.str _,_,h=>h.2
 |.agg l,v,⟨cs,e,r⟩=>Il l _ r
 |.aU l,v,⟨cs,e,r⟩=>Il l _ r
 |.sl rows,v,⟨a,len,cap,e,h1,h2,i,c,f⟩=>⟨by omega,by
  rcases a with _|⟨b,o,s⟩
  ·have:rows=[]:=mO (by have:=c rfl;omega);subst this;trivial
  ·exact agG rows b o (f b o s rfl).2⟩
 |.mem _,_,_=>trivial
 |.fn _ _,_,_=>trivial
 |.un,_,h=>h.elim
def Il:∀(l:List D) (vs:List Value),Rs w M l vs->dI l
 |[],_,_=>trivial
 |d::l,vs,⟨v,r,e,h1,h2⟩=>⟨LY d v h1,Il l r h2⟩
def YI:∀(l:List D) (b o:Nat),Rw w M l b o->dI l
 |[],_,_,_=>trivial
 |d::l,b,o,⟨⟨v,h1,h2,h⟩,a⟩=>⟨LY d v h,YI l b (o+1) a⟩
def agG:∀(l:List (List D)) (b o:Nat),jj w M l b o->Ig l
 |[],_,_,_=>trivial
 |r::l,b,o,⟨h1,h2⟩=>⟨YI r b o h1,agG l b (o+r.length) h2⟩
end
end
def D.cq:D->Int|.int _ n=>n|_=>0
def D.kG:D->Bool|.bool b=>b|_=>false
def D.Cn:D->ByteArray|.str s=>s|_=>.empty
def D.kZ:D->List D|.agg l=>l|_=>[]
def D.Wr:D->List D|.aU l=>l|_=>[]
def D.lP:D->List (List D)|.sl r=>r|_=>[]
@[simp] def gQ (k:IntKind) (n:Int):(D.int k n).cq=n:=rfl
@[simp] def AO (b:Bool):(D.bool b).kG=b:=rfl
@[simp] def zr (s:ByteArray):(D.str s).Cn=s:=rfl
@[simp] def mq (l:List D):(D.agg l).kZ=l:=rfl
@[simp] def avr (l:List D):(D.aU l).Wr=l:=rfl
@[simp] def AP (l:List (List D)):(D.sl l).lP=l:=rfl
def eF:CT->D
 |.bool=>.bool false|.int k=>.int k 0|.str=>.str .empty|.sl _=>.sl []|.mem=>.mem 0|.fn=>.fn 0 []
def cG:D->Int
 |.str s=>s.size
 |.sl r=>r.length
 |.mem n=>n
 |_=>0
def dL(op:BinOp)(k:IntKind)(x y:Int):Int :=
 match op with
 |.add=>k.wrap (x+y)|.sub=>k.wrap (x-y)|.mul=>k.wrap (x*y)
 |.quo=>k.wrap (x.tdiv y)|.rem=>x.tmod y
 |.and=>k.wrap (BitVec.ofInt k.bits x &&& BitVec.ofInt k.bits y).toNat
 |.or=>k.wrap (BitVec.ofInt k.bits x |||BitVec.ofInt k.bits y).toNat
 |.xor=>k.wrap (BitVec.ofInt k.bits x ^^^ BitVec.ofInt k.bits y).toNat
 |.andNot=>k.wrap (BitVec.ofInt k.bits x &&& ~~~(BitVec.ofInt k.bits y)).toNat
 |.shl=>k.wrap (x*2^(min y.toNat k.bits))
 |.shr=>x.fdiv (2^(min y.toNat k.bits))
 |_=>0
def bg(op:BinOp)(x y:Int):Bool :=
 match op with
 |.eql=>x==y|.neq=>x != y|.lss=>decide (x<y)|.leq=>decide (x<=y)|.gtr=>decide (x>y)|.geq=>decide (x>=y)
 |_=>false
def gx(op:BinOp)(x y:ByteArray):Bool :=
 match op with
 |.eql=>x.toList==y.toList|.neq=> !(x.toList==y.toList)
 |.lss=>Op.bytesLess x.toList y.toList
 |.leq=>Op.bytesLess x.toList y.toList||x.toList==y.toList
 |.gtr=> !(Op.bytesLess x.toList y.toList||x.toList==y.toList)
 |.geq=> !Op.bytesLess x.toList y.toList
 |_=>false
def qn(d:D)(lo h:Int):D :=
 match d with
 |.str s=>.str (s.extract lo.toNat h.toNat)
 |.sl r=>.sl ((r.drop lo.toNat).take (h.toNat-lo.toNat))
 |_=>.un
def Js:D->D->Bool
 |.bool a,.bool b=>a==b
 |.int _ a,.int _ b=>a==b
 |.str a,.str b=>a.toList==b.toList
 |_,_=>false
def mU:List D->List D->Bool
 |[],[]=>true
 |a::l,b::r=>Js a b&&mU l r
 |_,_=>false
def MH(d:D):ByteArray:=strOfNums (d.lP.map fun r=>(r.headD .un).cq)
inductive E where
 |var (i:Nat)
 |lb (x:Bool)|li (k:IntKind) (n:Int)|ls (x:ByteArray)|jf (e:Nat)
 |ar (op:BinOp) (k:IntKind) (x y:E)
 |ic (op:BinOp) (x y:E)
 |sc (op:BinOp) (x y:E)
 |tF (x y:E)|uK (x y:E)
 |bc (x y:E)
 |ae (x y:E)
 |no (x:E)
 |an (x y:E)|or (x y:E)
 |conv (k:IntKind) (x:E)
 |len (x:E)
 |I0 (x:E)
 |ite (c x y:E)
 |row (ts:List CT) (x i:E)
 |at (x i:E)
 |cell (x:E) (j:Nat)
 |sub (x:E) (j n:Nat)
 |proj (x:E) (j:Nat)
 |E3|aq (x:E)|cat (x y:E)
 |zi|bp (x y:E)
 |cut (x lo hi:E)
 |app (x y:E)
 |put (x r:E)
 |bI (x i:E)
 |inc (x lo hi:E)
 |few (x y:E)
 |Kp (t:CT) (x i:E)
 |mem (l:E)
 |rep (e:Nat) (ts:List CT) (n:E)
 |aW (x i r:E) (off:Nat)
 |fn0 (f:Nat)
 |FQ (x r:E)
 deriving DecidableEq
def xM{α:Type}:List α->Nat->List α->List α
 |cs,_,[]=>cs
 |cs,off,x::r=>xM (cs.set off x) (off+1) r
def pg(rows:List (List D))(i off:Nat)(l:List D):List (List D):=rows.set i (xM (rows.getD i []) off l)
def agS:D->D->D
 |.fn f c,r=>.fn f (c++[r.kZ])
 |_,_=>.un
def E.den(env:List D):E->D
 |.fn0 f=>.fn f []
 |.FQ x r=>agS (x.den env) (r.den env)
 |.mem l=>.mem (l.den env).cq.toNat
 |.rep _ s n=>.sl (List.replicate (n.den env).cq.toNat (s.map eF))
 |.aW x i r off=>.sl (pg (x.den env).lP (i.den env).cq.toNat off (r.den env).kZ)
 |.Kp t x i=>((x.den env).kZ[(i.den env).cq.toNat]?).getD (eF t)
 |.var i=>env.getD i .un
 |.lb x=>.bool x|.li k n=>.int k n|.ls x=>.str x|.jf _=>.sl []
 |.ar op k x y=>.int k (dL op k (x.den env).cq (y.den env).cq)
 |.ic op x y=>.bool (bg op (x.den env).cq (y.den env).cq)
 |.sc op x y=>.bool (gx op (x.den env).Cn (y.den env).Cn)
 |.tF x y=>.str ((x.den env).Cn++(y.den env).Cn)
 |.uK x y=>.bool (decide ((x.den env).Cn.size+(y.den env).Cn.size<=maxLen))
 |.bc x y=>.bool ((x.den env).kG==(y.den env).kG)
 |.ae x y=>.bool (mU (x.den env).kZ (y.den env).kZ)
 |.no x=>.bool (!(x.den env).kG)
 |.an x y=>.bool ((x.den env).kG&&(y.den env).kG)
 |.or x y=>.bool ((x.den env).kG||(y.den env).kG)
 |.conv k x=>.int k (k.wrap (x.den env).cq)
 |.len x=>.int .i64 (cG (x.den env))
 |.I0 x=>.str (MH (x.den env))
 |.ite c x y=>bif (c.den env).kG then x.den env else y.den env
 |.row s x i=>.agg (((x.den env).lP[(i.den env).cq.toNat]?).getD (s.map eF))
 |.at x i=>.int .u8 ((((x.den env).Cn[(i.den env).cq.toNat]?).map (fun (c:UInt8)=>(c.toNat:Int))).getD 0)
 |.cell x j=>(x.den env).kZ.getD j .un
 |.sub x j n=>.agg (((x.den env).kZ.drop j).take n)
 |.proj x j=>(x.den env).Wr.getD j .un
 |.E3=>.agg []
 |.aq x=>.agg [x.den env]
 |.cat x y=>.agg ((x.den env).kZ++(y.den env).kZ)
 |.zi=>.aU []
 |.bp x y=>.aU ((x.den env).Wr++[y.den env])
 |.cut x lo h=>qn (x.den env) (lo.den env).cq (h.den env).cq
 |.app x y=>.sl ((x.den env).lP++(y.den env).lP)
 |.put x r=>.sl ((x.den env).lP++[(r.den env).kZ])
 |.bI x i=>.bool (decide (0<=(i.den env).cq/\(i.den env).cq<cG (x.den env)))
 |.inc x lo h=>.bool (decide (0<=(lo.den env).cq/\(lo.den env).cq<=(h.den env).cq/\(h.den env).cq<=cG (x.den env)))
 |.few x y=>.bool (decide ((x.den env).lP.length+(y.den env).lP.length<=4294967296))
inductive V1 where
 |c (t:CT)|agg (l:List CT)
 deriving DecidableEq
inductive VT where
 |one (v:V1)|aU (l:List V1)
 deriving DecidableEq
def V1.cells:V1->List CT|.c t=>[t]|.agg l=>l
def dH(tab:Nat->List CT):V1->D->Prop
 |.c t,d=>cJ tab t d
 |.agg s,.agg l=>bD tab s l
 |.agg _,_=>False
def lE(tab:Nat->List CT):List V1->List D->Prop
 |[],[]=>True
 |v::vs,d::ds=>dH tab v d/\lE tab vs ds
 |_,_=>False
def bG(tab:Nat->List CT):VT->D->Prop
 |.one v,d=>dH tab v d
 |.aU vs,.aU l=>lE tab vs l
 |.aU _,_=>False
def lE.get{tab:Nat->List CT}:∀{vs:List V1} {l:List D},lE tab vs l->∀{i:Nat} {v:V1},vs[i]? =some v->∃d,l[i]? =some d/\dH tab v d
 |[],_,_,i,t,a=>by simp at a
 |t::s,d::ds,h,0,b,a=>by simp[lE]at h;simp at a;subst a;exact⟨d,rfl,h.1⟩
 |t::s,d::ds,h,i+1,b,a=>by simp[lE]at h;simp at a;obtain⟨x,hx,h2⟩:=lE.get h.2 a;exact⟨x,by simpa using hx,h2⟩
 |_::_,[],h,_,_,_=>by simp[lE]at h
def lE.snoc{tab:Nat->List CT}{v:V1}{d:D}(hd:dH tab v d):∀{vs:List V1} {l:List D},lE tab vs l->lE tab (vs++[v]) (l++[d])
 |[],[],_=>by simp[lE,hd]
 |t::s,e::ds,h=>by simp[lE]at h;simp only[ia,lE];exact⟨h.1,lE.snoc hd h.2⟩
 |[],_::_,h=>by simp[lE]at h
 |_::_,[],h=>by simp[lE]at h
def isInt:Option VT->Option IntKind
 |some (.one (.c (.int k)))=>some k
 |_=>none
def gV(t:CT)(o:Option VT):Bool:=o==some (.one (.c t))
def E.inf(tab:Nat->List CT)(Γ:List VT):E->Option VT
 |.mem l=>if(isInt (l.inf tab Γ)).isSome then some (.one (.c .mem))else none
 |.fn0 _=>some (.one (.c .fn))
 |.FQ x r=>match x.inf tab Γ,r.inf tab Γ with|some (.one (.c .fn)),some (.one (.agg _))=>some (.one (.c .fn))|_,_=>none
 |.rep e s n=>if tab e=s/\(isInt (n.inf tab Γ)).isSome then some (.one (.c (.sl e)))else none
 |.aW x i r off=>match x.inf tab Γ,r.inf tab Γ with
  |some (.one (.c (.sl e))),some (.one (.agg us))=>if us=((tab e).drop off).take us.length/\(isInt (i.inf tab Γ)).isSome then some (.one (.c (.sl e)))else none
  |_,_=>none
 |.Kp t x i=>match x.inf tab Γ with|some (.one (.agg s))=>if s.all (fun u=>decide (u=t))=true/\(isInt (i.inf tab Γ)).isSome=true then some (.one (.c t))else none|_=>none
 |.var i=>Γ[i]?
 |.lb _=>some (.one (.c .bool))
 |.li k n=>if k.min<=n/\n<=k.max then some (.one (.c (.int k)))else none
 |.ls x=>if x.size<=maxLen then some (.one (.c .str))else none
 |.jf e=>some (.one (.c (.sl e)))
 |.ar _ k x y=>if(isInt (x.inf tab Γ)).isSome/\(isInt (y.inf tab Γ)).isSome then some (.one (.c (.int k)))else none
 |.ic _ x y=>if(isInt (x.inf tab Γ)).isSome/\(isInt (y.inf tab Γ)).isSome then some (.one (.c .bool))else none
 |.sc _ x y=>if gV .str (x.inf tab Γ)/\gV .str (y.inf tab Γ)then some (.one (.c .bool))else none
 |.tF x y=>if gV .str (x.inf tab Γ)/\gV .str (y.inf tab Γ)then some (.one (.c .str))else none
 |.uK _ _=>some (.one (.c .bool))
 |.bc x y=>if gV .bool (x.inf tab Γ)/\gV .bool (y.inf tab Γ)then some (.one (.c .bool))else none
 |.ae _ _=>some (.one (.c .bool))
 |.no x=>if gV .bool (x.inf tab Γ)then some (.one (.c .bool))else none
 |.an x y|.or x y=>if gV .bool (x.inf tab Γ)/\gV .bool (y.inf tab Γ)then some (.one (.c .bool))else none
 |.conv k x=>if(isInt (x.inf tab Γ)).isSome then some (.one (.c (.int k)))else none
 |.len x=>match x.inf tab Γ with|some (.one (.c .str))|some (.one (.c (.sl _)))|some (.one (.c .mem))=>some (.one (.c (.int .i64)))|_=>none
 |.I0 x=>match x.inf tab Γ with|some (.one (.c (.sl e)))=>if tab e=[.int .u8]then some (.one (.c .str))else none|_=>none
 |.ite c x y=>if gV .bool (c.inf tab Γ)/\x.inf tab Γ=y.inf tab Γ then x.inf tab Γ else none
 |.row s x i=>match x.inf tab Γ with
  |some (.one (.c (.sl e)))=>if tab e=s/\(isInt (i.inf tab Γ)).isSome then some (.one (.agg s))else none
  |_=>none
 |.at x i=>if gV .str (x.inf tab Γ)/\(isInt (i.inf tab Γ)).isSome then some (.one (.c (.int .u8)))else none
 |.cell x j=>match x.inf tab Γ with|some (.one (.agg s))=>(s[j]?).map (fun t=>.one (.c t))|_=>none
 |.sub x j n=>match x.inf tab Γ with|some (.one (.agg s))=>if j+n<=s.length then some (.one (.agg ((s.drop j).take n)))else none|_=>none
 |.proj x j=>match x.inf tab Γ with|some (.aU vs)=>(vs[j]?).map .one|_=>none
 |.E3=>some (.one (.agg []))
 |.aq x=>match x.inf tab Γ with|some (.one (.c t))=>some (.one (.agg [t]))|_=>none
 |.cat x y=>match x.inf tab Γ,y.inf tab Γ with|some (.one (.agg a)),some (.one (.agg b))=>some (.one (.agg (a++b)))|_,_=>none
 |.zi=>some (.aU [])
 |.bp x y=>match x.inf tab Γ,y.inf tab Γ with|some (.aU a),some (.one b)=>some (.aU (a++[b]))|_,_=>none
 |.cut x lo h=>if(isInt (lo.inf tab Γ)).isSome/\(isInt (h.inf tab Γ)).isSome then
  match x.inf tab Γ with|some (.one (.c .str))=>some (.one (.c .str))|some (.one (.c (.sl e)))=>some (.one (.c (.sl e)))|_=>none
  else none
 |.app x y=>match x.inf tab Γ,y.inf tab Γ with|some (.one (.c (.sl e))),some (.one (.c (.sl f)))=>if e=f then some (.one (.c (.sl e)))else none|_,_=>none
 |.put x r=>match x.inf tab Γ,r.inf tab Γ with|some (.one (.c (.sl e))),some (.one (.agg s))=>if tab e=s then some (.one (.c (.sl e)))else none|_,_=>none
 |.bI _ _|.inc _ _ _|.few _ _=>some (.one (.c .bool))
def bV(tab:Nat->List CT)(Γ:List VT)(env:List D):Prop:=∀(i:Nat) (t:VT),Γ[i]? =some t->bG tab t (env.getD i .un)
def age{tab:Nat->List CT}:∀s:List CT,bD tab s (s.map eF)
 |[]=>by simp[bD]
 |t::s=>by simp only[jA,bD];refine⟨?_,age s⟩;cases t<;>simp[eF,cJ,dc]
def zS{tab:Nat->List CT}{k:IntKind}{d:D}(h:cJ tab (.int k) d):∃n,d=.int k n:=by cases d<;>simp[cJ]at h;subst h;exact⟨_,rfl⟩
def yx{tab:Nat->List CT}{d:D}(h:cJ tab .bool d):∃b,d=.bool b:=by cases d<;>simp[cJ]at h;exact⟨_,rfl⟩
def Dw{tab:Nat->List CT}{d:D}(h:cJ tab .str d):∃s,d=.str s:=by cases d<;>simp[cJ]at h;exact⟨_,rfl⟩
def Uu{tab:Nat->List CT}{d:D}(h:cJ tab .fn d):∃f c,d=.fn f c:=by cases d<;>simp[cJ]at h;exact⟨_,_,rfl⟩
def xh{tab:Nat->List CT}{e:Nat}{d:D}(h:cJ tab (.sl e) d):∃r,d=.sl r/\dc tab (tab e) r:=by cases d<;>simp[cJ]at h;exact⟨_,rfl,h⟩
def lV{tab:Nat->List CT}{s:List CT}{d:D}(h:dH tab (.agg s) d):∃l,d=.agg l/\bD tab s l:=by cases d<;>simp[dH]at h;exact⟨_,rfl,h⟩
def abl{tab:Nat->List CT}{vs:List V1}{d:D}(h:bG tab (.aU vs) d):∃l,d=.aU l/\lE tab vs l:=by cases d<;>simp[bG]at h;exact⟨_,rfl,h⟩
def yJ{o:Option VT}(h:(isInt o).isSome=true):∃k,o=some (.one (.c (.int k))):=by
 unfold isInt at h;split at h
 ·exact⟨_,rfl⟩
 ·simp at h
def vW{t:CT}{o:Option VT}(h:gV t o=true):o=some (.one (.c t)):=by simpa[gV]using h
def agb(tab:Nat->List CT)(t:CT):cJ tab t (eF t):=by cases t<;>simp[eF,cJ,dc]
def ant{tab:Nat->List CT}:∀{s:List CT} {l:List D},l.length=s.length->(∀(i:Nat) (t:CT) (d:D),s[i]? =some t->l[i]? =some d->cJ tab t d)->bD tab s l
 |[],[],_,_=>by simp[bD]
 |t::s,d::ds,a,h=>by simp only[bD];exact⟨h 0 t d rfl rfl,ant (by simpa using a) fun i b c h1 h2=>h (i+1) b c (by simpa using h1) (by simpa using h2)⟩
 |[],_::_,h,_=>by simp at h
 |_::_,[],h,_=>by simp at h
def Vv{α:Type}:∀(l:List α) (cs:List α) (off:Nat),(xM cs off l).length=cs.length
 |[],_,_=>rfl
 |x::r,cs,off=>by simp[xM,Vv r]
def Wi{α:Type}:∀(l:List α) (cs:List α) (off i:Nat),(xM cs off l)[i]? =if off<=i/\i<off+l.length/\i<cs.length then l[i-off]? else cs[i]?
 |[],cs,off,i=>by simp[xM];omega
 |x::r,cs,off,i=>by
  rw[xM,Wi r];simp only[uX,dR,Da];by_cases e:off=i
  ·subst e;by_cases h:off<cs.length
   ·rw[aw (by omega),aC rfl,aC h,aC (by omega),Nat.sub_self];rfl
   ·rw[aw (by omega),aC rfl,aw h,aw (by omega),nI (by omega)]
  ·rw[aw e];by_cases h:off+1<=i/\i<off+1+r.length/\i<cs.length
   ·rw[aC h,aC (by omega),show i-off=(i-(off+1))+1 by omega];rfl
   ·rw[aw h,aw (by omega)]
def bD.get?{tab:Nat->List CT}{s:List CT}{l:List D}(h:bD tab s l){i:Nat}{t:CT}{d:D}(h1:s[i]? =some t)(h2:l[i]? =some d):cJ tab t d:=by obtain⟨c,a,b⟩:=h.get h1;rw[h2]at a;cases a;exact b
def aHd{tab:Nat->List CT}{s us:List CT}{l r:List D}{off:Nat}(u:us=(s.drop off).take us.length)(b:bD tab s l)(c:bD tab us r):bD tab s (xM l off r):=by
 refine ant (by rw[Vv,b.length]) fun i t d e a=> ?_;rw[Wi]at a;split at a
 ·rename_i h;have:us[i-off]? =some t:=by rw[u,qk,yd,aC (by rw[<-c.length];omega),show off+(i-off)=i by omega,e]
  exact c.get? this a
 ·exact b.get? e a
def aKq{tab:Nat->List CT}{s us:List CT}{rows:List (List D)}{r:List D}{i off:Nat}(u:us=(s.drop off).take us.length)(l:dc tab s rows)(b:bD tab us r):dc tab s (pg rows i off r):=by
 refine sW fun z a=> ?_;unfold pg at a;rcases sZ a with h|h
 ·exact l.mem z h
 ·subst h;by_cases c:i<rows.length
  ·refine aHd u (l.mem _ ?_) b;simp[List.getD,bX c]
  ·rw[List.set_eq_of_length_le (by omega)]at a;exact l.mem _ a
def eG{tab:Nat->List CT}{Γ:List VT}{env:List D}(h:bV tab Γ env):∀(e:E) (t:VT),e.inf tab Γ=some t->bG tab t (e.den env)
 |.Kp c x i,t,k=>by
  simp only[E.inf]at k;split at k
  ·rename_i I p;split at k
   ·rename_i v;simp at k;subst k;obtain⟨l,u,o⟩:=lV (eG h x _ p);simp only[E.den,u,mq,bG,dH];cases O:l[(i.den env).cq.toNat]? with
    |none=>exact agb tab c
    |some d=>
     have F:(i.den env).cq.toNat<I.length:=by rw[<-o.length];exact(dh.1 O).1
     obtain⟨j,J,L⟩:=o.get (bX F);rw[O]at J;cases J;have:=fH.1 v.1 _ (qj F);simp at this;rw[this]at L;exact L
   ·simp at k
  ·simp at k
 |.mem l,t,k=>by simp[E.inf]at k;obtain⟨_,rfl⟩:=k;simp[E.den,bG,dH,cJ]
 |.fn0 f,t,k=>by simp[E.inf]at k;subst k;simp[E.den,bG,dH,cJ]
 |.FQ x r,t,k=>by
  simp only[E.inf]at k;split at k
  ·rename_i j P C;simp at k;subst k;obtain⟨f,Y,Q⟩:=Uu (eG h x _ P);simp only[E.den,Q,agS,bG,dH,cJ]
  ·simp at k
 |.rep e I n,t,k=>by
  simp only[E.inf]at k;split at k
  ·rename_i v;simp at k;subst k;simp only[E.den,bG,dH,cJ];refine sW fun z G=> ?_;rw[List.eq_of_mem_replicate G,v.1];exact age _
  ·simp at k
 |.aW x i r off,t,k=>by
  simp only[E.inf]at k;split at k
  ·rename_i e j P C;split at k
   ·rename_i v;simp at k;subst k;obtain⟨q,N,A⟩:=xh (eG h x _ P);obtain⟨l,u,o⟩:=lV (eG h r _ C);simp only[E.den,N,u,AP,mq,bG,dH,cJ];exact aKq v.1 A o
   ·simp at k
  ·simp at k
 |.var i,t,k=>h i t k
 |.lb _,t,k=>by simp[E.inf]at k;subst k;simp[E.den,bG,dH,cJ]
 |.li _ _,t,k=>by simp[E.inf]at k;obtain⟨_,rfl⟩:=k;simp[E.den,bG,dH,cJ]
 |.ls _,t,k=>by simp[E.inf]at k;obtain⟨_,rfl⟩:=k;simp[E.den,bG,dH,cJ]
 |.jf _,t,k=>by simp[E.inf]at k;subst k;simp[E.den,bG,dH,cJ,dc]
 |.ar _ _ _ _,t,k=>by simp[E.inf]at k;obtain⟨_,rfl⟩:=k;simp[E.den,bG,dH,cJ]
 |.ic _ _ _,t,k=>by simp[E.inf]at k;obtain⟨_,rfl⟩:=k;simp[E.den,bG,dH,cJ]
 |.sc _ _ _,t,k=>by simp[E.inf]at k;obtain⟨_,rfl⟩:=k;simp[E.den,bG,dH,cJ]
 |.tF _ _,t,k=>by simp[E.inf]at k;obtain⟨_,rfl⟩:=k;simp[E.den,bG,dH,cJ]
 |.uK _ _,t,k=>by simp[E.inf]at k;subst k;simp[E.den,bG,dH,cJ]
 |.bc _ _,t,k=>by simp[E.inf]at k;obtain⟨_,rfl⟩:=k;simp[E.den,bG,dH,cJ]
 |.ae _ _,t,k=>by simp[E.inf]at k;subst k;simp[E.den,bG,dH,cJ]
 |.no _,t,k=>by simp[E.inf]at k;obtain⟨_,rfl⟩:=k;simp[E.den,bG,dH,cJ]
 |.an _ _,t,k=>by simp[E.inf]at k;obtain⟨_,rfl⟩:=k;simp[E.den,bG,dH,cJ]
 |.or _ _,t,k=>by simp[E.inf]at k;obtain⟨_,rfl⟩:=k;simp[E.den,bG,dH,cJ]
 |.conv _ _,t,k=>by simp[E.inf]at k;obtain⟨_,rfl⟩:=k;simp[E.den,bG,dH,cJ]
 |.len x,t,k=>by simp only[E.inf]at k;split at k<;>first|(simp at k;done)|(simp at k;subst k;simp[E.den,bG,dH,cJ])
 |.I0 x,t,k=>by
  simp only[E.inf]at k;split at k
  ·split at k
   ·simp at k;subst k;simp[E.den,bG,dH,cJ]
   ·simp at k
  ·simp at k
 |.ite c x y,t,k=>by
  simp only[E.inf]at k;split at k
  ·rename_i v;have Z:=eG h x t k;have j:=eG h y t (v.2▸k);simp only[E.den];cases (c.den env).kG<;>simpa
  ·simp at k
 |.row I x i,t,k=>by
  simp only[E.inf]at k;split at k
  ·rename_i e p;split at k
   ·rename_i v;simp at k;subst k;have Z:=eG h x _ p;obtain⟨r,C,B⟩:=xh Z;simp only[E.den,C,AP,bG,dH];rw[<-v.1];cases O:r[(i.den env).cq.toNat]? with
    |none=>simp;exact age _
    |some z=>simp;exact B.mem z (jB O)
   ·simp at k
  ·simp at k
 |.at _ _,t,k=>by simp[E.inf]at k;obtain⟨_,rfl⟩:=k;simp[E.den,bG,dH,cJ]
 |.cell x j,t,k=>by
  simp only[E.inf]at k;split at k
  ·rename_i I p;simp at k;obtain⟨c,v,rfl⟩:=k;obtain⟨l,u,o⟩:=lV (eG h x _ p);obtain⟨d,S,H⟩:=o.get v;simp[E.den,u,List.getD,S,bG,dH,H]
  ·simp at k
 |.sub x j n,t,k=>by
  simp only[E.inf]at k;split at k
  ·rename_i I p;split at k
   ·simp at k;subst k;obtain⟨l,u,o⟩:=lV (eG h x _ p);simp only[E.den,u,mq,bG,dH];exact(o.drop j).take n
   ·simp at k
  ·simp at k
 |.proj x j,t,k=>by
  simp only[E.inf]at k;split at k
  ·rename_i j p;simp at k;obtain⟨c,v,rfl⟩:=k;obtain⟨l,u,o⟩:=abl (eG h x _ p);obtain⟨d,S,H⟩:=o.get v;simp[E.den,u,List.getD,S,bG,H]
  ·simp at k
 |.E3,t,k=>by simp[E.inf]at k;subst k;simp[E.den,bG,dH,bD]
 |.aq x,t,k=>by
  simp only[E.inf]at k;split at k
  ·rename_i c p;simp at k;subst k;have:=eG h x _ p;simp only[E.den,bG,dH,bD];exact⟨this,trivial⟩
  ·simp at k
 |.cat x y,t,k=>by
  simp only[E.inf]at k;split at k
  ·rename_i a b T U;simp at k;subst k;obtain⟨l,u,o⟩:=lV (eG h x _ T);obtain⟨m,j,V⟩:=lV (eG h y _ U);simp only[E.den,u,j,mq,bG,dH];exact o.append V
  ·simp at k
 |.zi,t,k=>by simp[E.inf]at k;subst k;simp[E.den,bG,lE]
 |.bp x y,t,k=>by
  simp only[E.inf]at k;split at k
  ·rename_i a b T U;simp at k;subst k;obtain⟨l,u,o⟩:=abl (eG h x _ T);have j:=eG h y _ U;simp only[E.den,u,avr,bG];exact o.snoc j
  ·simp at k
 |.cut x j v,t,k=>by
  simp only[E.inf]at k;split at k
  ·split at k
   ·rename_i p;simp at k;subst k;obtain⟨s,j⟩:=Dw (eG h x _ p);simp[E.den,j,qn,bG,dH,cJ]
   ·rename_i e p;simp at k;subst k;obtain⟨r,C,B⟩:=xh (eG h x _ p);simp only[E.den,C,qn,bG,dH,cJ];exact sW fun z G=>B.mem z (Rl (Rm G))
   ·simp at k
  ·simp at k
 |.app x y,t,k=>by
  simp only[E.inf]at k;split at k
  ·rename_i e f p Q;split at k
   ·rename_i W;simp at k;subst k;subst W;obtain⟨r,C,B⟩:=xh (eG h x _ p);obtain⟨q,N,A⟩:=xh (eG h y _ Q);simp only[E.den,C,N,AP,bG,dH,cJ];exact sW fun z G=>(iJ.1 G).elim (B.mem z) (A.mem z)
   ·simp at k
  ·simp at k
 |.put x r,t,k=>by
  simp only[E.inf]at k;split at k
  ·rename_i e I p C;split at k
   ·rename_i X;simp at k;subst k;subst X;obtain⟨q,N,A⟩:=xh (eG h x _ p);obtain⟨l,u,o⟩:=lV (eG h r _ C);simp only[E.den,N,u,AP,mq,bG,dH,cJ];exact sW fun z G=>(iJ.1 G).elim (A.mem z) (fun e=>by simp at e;subst e;exact o)
   ·simp at k
  ·simp at k
 |.bI _ _,t,k=>by simp[E.inf]at k;subst k;simp[E.den,bG,dH,cJ]
 |.inc _ _ _,t,k=>by simp[E.inf]at k;subst k;simp[E.den,bG,dH,cJ]
 |.few _ _,t,k=>by simp[E.inf]at k;subst k;simp[E.den,bG,dH,cJ]
structure TI where
 vt:VT
 fs:List (Nat×Nat)
 bytes:Nat
 eq:Bool:=false
abbrev TB:=List (Nat×TI)
def TB.get:TB->Nat->Option TI
 |[],_=>none
 |(t,i)::r,T=>bif Nat.beq t T then some i else TB.get r T
def TI.cells(i:TI):List CT:=match i.vt with|.one v=>v.cells|.aU _=>[]
def TB.tab(b:TB)(e:Nat):List CT:=match b.get e with|some i=>i.cells|none=>[]
def zeroV:CT->Value->Bool
 |.bool,.bool b=> !b
 |.int k,.int a n=>k==a&&n==0
 |.str,.string s=>s.size==0
 |.sl _,.slice none 0 0=>true
 |_,_=>false
def sU:List CT->List Value->Bool
 |[],[]=>true
 |t::s,v::vs=>zeroV t v&&sU s vs
 |_,_=>false
def Ym:V1->Option Value->Bool
 |.c t,some v=>zeroV t v
 |.agg s,some (.agg cs)=>sU s cs.toList
 |_,_=>false
def uu(b:TB):List (Nat×Nat)->List Field->Bool
 |[],[]=>true
 |(o,t)::r,f::s=>o==f.offset&&t==f.type&&(match b.get t with|some i=>(match i.vt with|.one _=>true|.aU _=>false)|none=>false)&&uu b r s
 |_,_=>false
def MY(b:TB)(v:V1)(f:List (Nat×Nat))(d:Option TypeDesc):Bool :=
 match v,d with
 |.c .bool,some .bool=>true
 |.c (.int k),some (.int a)=>k==a
 |.c .str,some .string=>true
 |.c (.sl e),some (.slice c)=>e==c
 |.agg _,some (.struct fields)=>uu b f fields.toList
 |_,_=>false
def Bg(b:TB):Nat->List CT->List (Nat×Nat)->Bool
 |_,s,[]=>s.isEmpty
 |o,s,(a,t)::r=>Nat.beq o a&&match b.get t with
  |some i=>decide (s.take i.cells.length=i.cells)&&Bg b (o+i.cells.length) (s.drop i.cells.length) r
  |none=>false
def FK(P:Program)(b:TB):Nat->Nat->Bool
 |0,_=>false
 |d+1,T=>match b.get T with
  |none=>false
  |some ti=>match ti.vt with
   |.one (.c (.sl _))=>false
   |.one (.c _)=>true
   |.one (.agg s)=> !P.stoodInHeld T&&(P.fieldsOf T).toList.all (fun f=> !(f.name== "_"))&&ti.fs.all (fun x=>FK P b d x.2)&&Bg b 0 s ti.fs
   |.aU _=>false
def Kv(P:Program)(b:TB)(T:Nat)(ti:TI):Bool :=
 match ti.vt with
 |.aU _=>(match ti.fs with
  |[]=>true
  |[(n,e)]=>(match P.underlying T with|some (.array a c)=>Nat.beq n a&&Nat.beq e c|_=>false)&&(match P.info? T with|some i=>Nat.beq i.size n|none=>false)
  |_=>false)
 |.one v=>match P.info? T with
  |none=>false
  |some i=>i.size==v.cells.length&&i.bytes==ti.bytes&&Ym v i.zero&&MY b v ti.fs (P.underlying T)&&(!ti.eq||(FK P b 8 T&& !P.eqGuardType P.depth T))
def cX(P:Program)(b:TB):TB->Bool
 |[]=>true
 |(T,ti)::r=>Kv P b T ti&&cX P b r
abbrev Gd:=List (E×Bool)
inductive KK where
 |d|own (g:Nat)|full
 deriving DecidableEq
inductive K where
 |d|own (g:Nat)|full|ag (ks:List KK)
 deriving DecidableEq
def KK.k:KK->K
 |.d=>.d|.own g=>.own g|.full=>.full
def K.kk:K->KK
 |.own g=>.own g|.full=>.full|_=>.d
def K.nth:K->Nat->K
 |.ag ks,j=>(ks.getD j .d).k
 |_,_=>.d
def Ae(ks:List K):K:=bif ks.all (fun k=>decide (k.kk=.d))then .d else .ag (ks.map K.kk)
def adU(k:K)(off:Nat):Option V1->K
 |some (.c _)=>k.nth off
 |some (.agg s)=>Ae ((List.range s.length).map fun j=>k.nth (off+j))
 |none=>.d
def Cb:List V1->Nat->Nat
 |v::r,i+1=>v.cells.length+Cb r i
 |_,_=>0
structure LV where
 n:Nat
 body:Option (E×Option (Nat×List Nat)):=none
 deriving DecidableEq
inductive ST where
 |un
 |v (gs:Gd) (k:K) (e:E)
 |ptr (gs:Gd) (id off:Nat)
 |ro (gs:Gd) (e:E) (off:Nat)
 |box (cs:List (K×E))
 |live (n:LV)
 |gp (gs:Gd) (g:Nat) (x i:E)
 |mp (gs:Gd) (g n:Nat) (i:E) (off:Nat)
 |iv (gs:Gd) (g gv n:Nat) (i:E) (off:Nat) (l:E)
 |ip (gs:Gd) (g gv n:Nat) (i:E) (off:Nat) (j:E) (m o2:Nat)
 deriving DecidableEq
abbrev Sg:=List (Nat×ST)
def Sg.get:Sg->Nat->ST
 |[],_=>.un
 |(l,s)::r,x=>bif Nat.beq l x then s else Sg.get r x
def qV(g gs:Gd):Bool:=g.all fun x=>gs.contains x
def under(gs:Gd):ST->Option ST
 |.v g k e=>bif qV g gs then some (.v gs k e)else none
 |.ptr g id off=>bif qV g gs then some (.ptr gs id off)else none
 |.ro g e off=>bif qV g gs then some (.ro gs e off)else none
 |_=>none
def fT(gs:Gd)(s:Option ST):Option (K×E) :=
 match s.bind (under gs)with
 |some (.v _ k e)=>some (k,e)
 |_=>none
inductive Rq where
 |cond (gs:Gd) (c:E)
 |call (gs:Gd) (f:Nat) (bx:Option (List E)) (args:List E) (vt:VT) (nb:List CT)
 |cF (f:Nat) (bx:Option (List E)) (args:List E) (vt:VT) (nb:List CT) (rt:List (Nat×Nat))
 |new (f:Nat) (args:List E) (nb:List CT)
 |lJ (gs:Gd) (e:E) (args:List E) (vt:VT)
 |xg (g:Nat) (vt:VT) (ix:Option (Gd×E×Nat))
structure bq where
 wr:List (Nat×ST)
 rq:List Rq
abbrev RB:=List (Nat×List (Nat×Nat))
def RB.get:RB->Nat->List (Nat×Nat)
 |[],_=>[]
 |(f,r)::q,x=>bif Nat.beq f x then r else RB.get q x
structure Cx where
 tb:TB
 nt:Nat
 rb:RB:=[]
def qH:Nat:=8
def uJ:Nat->List (Nat×Nat)->Nat->KK
 |_,[],_=>.d
 |g,(q,_)::r,p=>bif Nat.beq q p then .own g else uJ (g+1) r p
def ayX:VT->Nat
 |.one v=>v.cells.length
 |.aU vs=>(vs.map fun v=>v.cells.length).sum
def G5(g:Nat)(r:List (Nat×Nat)):VT->K
 |.one (.c _)=>(uJ g r 0).k
 |vt=>.ag ((List.range (ayX vt)).map (uJ g r))
def ny:Nat->List (Nat×Nat)->List (Nat×ST)
 |_,[]=>[]
 |g,(_,m)::r=>(3*g+2,.live ⟨m,none⟩)::ny (g+1) r
def FE(a:TB)(T:Nat):Value->Option ST
 |.bool b=>some (.v [] .d (.lb b))
 |.int k n=>if k.min<=n/\n<=k.max then some (.v [] .d (.li k n))else none
 |.string s=>if s.size<=maxLen then some (.v [] .d (.ls s))else none
 |.slice none 0 0=>match a.get T with
  |some ⟨.one (.c (.sl e)),_,_,_⟩=>some (.v [] .full (.jf e))
  |_=>none
 |_=>none
def aY(b:TB)(σ:Nat->ST)(T:Nat):Operand->Option ST
 |.tmp t=>some (σ (3*t))
 |.const v=>FE b T v
 |_=>none
def zQ(tab:Nat->List CT)(Γ:List VT)(ops:Array Oper)(σ:Nat->ST)(o:Oper):Option Gd :=
 match o.guard with
 |none=>some []
 |some (j,b)=>match (ops[j]?).bind (·.dst)with
  |some d=>match σ (3*d)with
   |.v s _ c=>bif gV .bool (c.inf tab Γ)then some (s++[(c,b)])else none
   |_=>none
  |none=>none
def wv(dst:Option Nat)(st:ST):List (Nat×ST):=match dst with|some d=>[(3*d,st)]|none=>[]
def mk:List E->E
 |[]=>.E3
 |e::r=>.cat (.aq e) (mk r)
def pack(tab:Nat->List CT)(Γ:List VT)(es:List E):E :=
 match es with
 |.cell x i::r=>match x.inf tab Γ with
  |some (.one (.agg u))=>if es=(List.range' i es.length).map (.cell x)/\i+es.length<=u.length then(if i=0/\es.length=u.length then x else .sub x i es.length)else mk es
  |_=>mk es
 |_=>mk es
def apart(k:K)(n:Nat)(e:E):List (K×E):=(List.range n).map fun j=>(k.nth j,.cell e j)
def nA{α:Type}(cs:List α)(off:Nat):List α->List α
 |[]=>cs
 |x::r=>nA (cs.set off x) (off+1) r
def CK:CT->K×E
 |.bool=>(.d,.lb false)|.int k=>(.d,.li k 0)|.str=>(.d,.ls .empty)|.sl e=>(.full,.jf e)|.mem=>(.d,.mem (.li .i64 0))|.fn=>(.d,.fn0 0)
def aaD(gs:Gd)(dst:Option Nat)(s:Option ST):Option bq:=(s.bind (under gs)).map fun s=>⟨wv dst s,[]⟩
def Jm(tab:Nat->List CT)(Γ:List VT)(gs:Gd)(dst:Option Nat)(σ:Nat->ST)(ti:TI)(s:Option ST):Option bq :=
 match s.bind (under gs)with
 |some (.ptr _ id off)=>match σ (3*id+1)with
  |.box cs=>match ti.vt with
   |.one (.c _)=>match cs[off]? with
    |some (k,e)=>some ⟨wv dst (.v gs k e),[]⟩
    |none=>none
   |.one (.agg a)=>if off+a.length<=cs.length then some ⟨wv dst (.v gs (Ae (((cs.drop off).take a.length).map (·.1))) (pack tab Γ (((cs.drop off).take a.length).map (·.2)))),[]⟩else none
   |_=>none
  |_=>none
 |some (.ro _ e off)=>match e.inf tab Γ with
  |some (.one (.agg u))=>match ti.vt with
   |.one (.c _)=>if off<u.length then some ⟨wv dst (.v gs .d (.cell e off)),[]⟩else none
   |.one (.agg a)=>if off=0/\a.length=u.length then some ⟨wv dst (.v gs .d e),[]⟩
    else if off+a.length<=u.length then some ⟨wv dst (.v gs .d (.sub e off a.length)),[]⟩else none
   |_=>none
  |_=>none
 |_=>none
def Dm(tab:Nat->List CT)(Γ:List VT)(gs:Gd)(dst:Option Nat)(σ:Nat->ST)(ti:TI)(s:Option ST)(x:Option ST):Option bq :=
 match gs,dst,s.bind (under []),fT [] x with
 |[],none,some (.ptr _ id off),some (k,e)=>match σ (3*id+1)with
  |.box cs=>match ti.vt,e.inf tab Γ with
   |.one (.c _),some (.one (.c _))=>if off<cs.length then some ⟨[(3*id+1,.box (cs.set off (k,e)))],[]⟩else none
   |.one (.agg a),some (.one (.agg u))=>if a.length=u.length/\off+a.length<=cs.length then some ⟨[(3*id+1,.box (nA cs off (apart k a.length e)))],[]⟩else none
   |_,_=>none
  |_=>none
 |_,_,_,_=>none
def aau(b:TB)(Γ:List VT)(gs:Gd)(dst:Option Nat)(ti:TI)(s:Option ST)(f:Nat):Option bq :=
 match ti.vt,ti.fs[f]? with
 |.one (.agg _),some (o,a)=>match b.get a with
  |some i=>if i.cells.length=0 then none else match i.vt with
   |.aU _=>none
   |.one _=>match s.bind (under gs)with
    |some (.ptr _ id off)=>some ⟨wv dst (.ptr gs id (off+o)),[]⟩
    |some (.ro _ e off)=>some ⟨wv dst (.ro gs e (off+o)),[]⟩
    |_=>none
  |none=>none
 |_,_=>none
def TU(b:TB)(Γ:List VT)(gs:Gd)(dst:Option Nat)(ti:TI)(x i:Option ST):Option bq :=
 match ti.vt,fT gs x,fT gs i with
 |.one (.c (.sl e)),some (_,ex),some (_,a)=>match b.get e with
  |some c=>match c.vt with
   |.aU _=>none
   |.one _=>if gV (.sl e) (ex.inf b.tab Γ)/\(isInt (a.inf b.tab Γ)).isSome then some ⟨wv dst (.ro gs (.row (b.tab e) ex a) 0),[.cond gs (.bI ex a)]⟩else none
  |none=>none
 |_,_,_=>none
def aar(tab:Nat->List CT)(Γ:List VT)(gs:Gd)(dst:Option Nat)(g:Nat)(x:Option ST):Option bq :=
 match gs,fT [] x with
 |[],some (k,e)=>match e.inf tab Γ with
  |some (.one (.c _))=>some ⟨wv dst (.ptr [] g 0)++[(3*g+1,.box [(k,e)])],[]⟩
  |some (.one (.agg s))=>some ⟨wv dst (.ptr [] g 0)++[(3*g+1,.box (apart k s.length e))],[]⟩
  |_=>none
 |_,_=>none
def aao(gs:Gd)(dst:Option Nat)(g:Nat)(ti:TI):Option bq :=
 match gs,ti.vt with
 |[],.one v=>some ⟨wv dst (.ptr [] g 0)++[(3*g+1,.box (v.cells.map CK))],[]⟩
 |_,_=>none
def uq(b:TB)(Γ:List VT)(gs:Gd)(σ:Nat->ST)(s:List (Nat×Nat)):List (Nat×Operand)->List (K×E)->Option (List (K×E))
 |[],cs=>some cs
 |(f,x)::r,cs=>match s[f]? with
  |some (o,c)=>match b.get c,fT gs (aY b σ c x)with
   |some i,some (k,e)=>match i.vt,e.inf b.tab Γ with
    |.one (.c _),some (.one (.c _))=>if o<cs.length then uq b Γ gs σ s r (cs.set o (k,e))else none
    |.one (.agg us),some (.one (.agg a))=>if us.length=a.length/\o+a.length<=cs.length then uq b Γ gs σ s r (nA cs o (apart k a.length e))else none
    |_,_=>none
   |_,_=>none
  |none=>none
def TK(b:TB)(Γ:List VT)(gs:Gd)(dst:Option Nat)(σ:Nat->ST)(ti:TI)(parts:List (Nat×Operand)):Option bq :=
 match ti.vt with
 |.one (.agg s)=>(uq b Γ gs σ ti.fs parts (s.map CK)).map fun cs=>⟨wv dst (.v gs (Ae (cs.map (·.1))) (pack b.tab Γ (cs.map (·.2)))),[]⟩
 |_=>none
def r9(b:TB)(Γ:List VT)(gs:Gd)(σ:Nat->ST)(l:Nat):Nat->List (Nat×Operand)->E->Option E
 |_,[],a=>some a
 |n,(i,x)::r,a=>if i=n then
  match fT gs (aY b σ l x)with
  |some (_,e)=>match e.inf b.tab Γ with
   |some (.one (.c t))=>if b.tab l=[t]then r9 b Γ gs σ l (n+1) r (.put a (.aq e))else none
   |some (.one (.agg s))=>if b.tab l=s then r9 b Γ gs σ l (n+1) r (.put a e)else none
   |_=>none
  |none=>none
  else none
def TX(b:TB)(e len:Nat):Bool :=
 match b.get e with
 |some i=>match i.vt with|.one _=>decide (len*i.cells.length<=65536)&&decide (0<i.cells.length)|_=>false
 |none=>false
def TM(b:TB)(Γ:List VT)(gs:Gd)(dst:Option Nat)(σ:Nat->ST)(ti:TI)(len:Nat)(parts:List (Nat×Operand)):Option bq :=
 match ti.vt with
 |.one (.c (.sl l))=>if parts.length=len/\TX b l len=true then(r9 b Γ gs σ l 0 parts (.jf l)).map fun e=>⟨wv dst (.v gs (bif Nat.beq len 0 then .full else .d) e),[]⟩else none
 |_=>none
def TL(b:TB)(Γ:List VT)(gs:Gd)(dst:Option Nat)(σ:Nat->ST)(g:Nat)(ti:TI)(len:Nat)(parts:List (Nat×Operand)):Option bq :=
 match gs,ti.vt with
 |[],.one (.c (.sl l))=>if parts.length=len/\TX b l len=true then(r9 b Γ [] σ l 0 parts (.jf l)).map fun e=>⟨wv dst (.v [] (.own g) e)++[(3*g+2,.live ⟨(b.tab l).length,none⟩)],[]⟩else none
 |_,_=>none
def Vl:VT->Bool
 |.one (.c .str)|.one (.c (.sl _))=>true
 |_=>false
def alb:VT->Bool
 |.one (.c (.sl _))=>true
 |_=>false
def yL:CT->Bool
 |.sl _|.mem|.fn=>false
 |_=>true
def BS(s:List CT):Bool:=s.all yL
def Wl(b:TB):VT->Bool
 |.one (.c (.sl e))=>(match b.get e with|some i=>(match i.vt with|.one _=>true|.aU _=>false)|none=>false)
 |_=>true
def TY(b:TB)(Γ:List VT)(gs:Gd)(dst:Option Nat)(ti:TI)(x:Option ST)(lo i:Option (Option ST)):Option bq :=
 match fT gs x,(match lo with|none=>some (K.d,E.li .i64 0)|some s=>fT gs s)with
 |some (_,ex),some (_,e)=>match (match i with|none=>some (K.d,E.len ex)|some s=>fT gs s)with
  |some (_,h)=>if ex.inf b.tab Γ=some ti.vt/\(isInt (e.inf b.tab Γ)).isSome/\(isInt (h.inf b.tab Γ)).isSome/\Vl ti.vt=true/\Wl b ti.vt=true then
   some ⟨wv dst (.v gs .d (.cut ex e h)),[.cond gs (.inc ex e h)]⟩else none
  |none=>none
 |_,_=>none
def ad5(b:TB)(s:TI):Bool:=match s.vt with
 |.one (.c (.sl e))=>(match b.get e with|some i=>(match i.vt with|.one (.c (.int .u8))=>true|_=>false)|none=>false)
 |_=>false
def aas(tab:Nat->List CT)(Γ:List VT)(gs:Gd)(dst:Option Nat)(u8:Bool)(s ti:TI)(x:Option ST):Option bq :=
 match s.vt,ti.vt,fT gs x with
 |.one (.c (.int _)),.one (.c (.int k)),some (_,e)=>if(isInt (e.inf tab Γ)).isSome then some ⟨wv dst (.v gs .d (.conv k e)),[]⟩else none
 |.one (.c (.sl l)),.one (.c .str),some (_,e)=>if gV (.sl l) (e.inf tab Γ)/\u8=true/\tab l=[.int .u8]then some ⟨wv dst (.v gs .d (.I0 e)),[]⟩else none
 |_,_,_=>none
def aat(tab:Nat->List CT)(Γ:List VT)(gs:Gd)(dst:Option Nat)(x:Option ST)(i:Nat):Option bq :=
 match fT gs x with
 |some (k,e)=>match e.inf tab Γ with
  |some (.aU v)=>if i<v.length then some ⟨wv dst (.v gs (adU k (Cb v i) v[i]?) (.proj e i)),[]⟩else none
  |_=>none
 |none=>none
def aaG(tab:Nat->List CT)(Γ:List VT)(gs:Gd)(dst:Option Nat)(x:Option ST):Option bq :=
 match fT gs x with
 |some (_,e)=>if gV .bool (e.inf tab Γ)then some ⟨wv dst (.v gs .d (.no e)),[]⟩else none
 |none=>none
def aaE(tab:Nat->List CT)(Γ:List VT)(gs:Gd)(dst:Option Nat)(x:Option ST):Option bq :=
 match fT gs x with
 |some (_,e)=>match e.inf tab Γ with
  |some (.one (.c (.int k)))=>some ⟨wv dst (.v gs .d (.ar .sub k (.li k 0) e)),[]⟩
  |_=>none
 |none=>none
def ade(tab:Nat->List CT)(Γ:List VT)(c e b:E):E :=
 if e=.lb true/\gV .bool (b.inf tab Γ)=true then .or c b else if b=.lb false/\gV .bool (e.inf tab Γ)=true then .an c e else .ite c e b
def aaH(tab:Nat->List CT)(Γ:List VT)(gs:Gd)(dst:Option Nat)(c a b:Option ST):Option bq :=
 match fT gs c with
 |some (_,e)=>if gV .bool (e.inf tab Γ)then
  match fT (gs++[(e,true)]) a,fT (gs++[(e,false)]) b with
  |some (_,d),some (_,f)=>some ⟨wv dst (.v gs .d (ade tab Γ e d f)),[]⟩
  |_,_=>none
  else none
 |none=>none
def aaz(tab:Nat->List CT)(Γ:List VT)(gs:Gd)(dst:Option Nat)(ti:TI)(x:Option ST):Option bq :=
 match fT gs x with
 |some (_,e)=>if(e.inf tab Γ=some ti.vt/\Vl ti.vt=true)\/(e.inf tab Γ=some (.one (.c .mem))/\alb ti.vt=true)then some ⟨wv dst (.v gs .d (.len e)),[]⟩else none
 |none=>none
def Jg(b:TB)(Γ:List VT)(gs:Gd)(dst:Option Nat)(σ:Nat->ST)(g:Nat)(ti i:TI)(x y:Option ST):Option bq :=
 match gs,ti.vt,i.vt with
 |[],.one (.c (.sl l)),.one (.c (.sl _))=>match fT [] x,fT [] y,b.get l with
  |some (k,ex),some (_,a),some e=>if gV (.sl l) (ex.inf b.tab Γ)/\gV (.sl l) (a.inf b.tab Γ)/\e.bytes<=1024/\0<e.bytes/\0<e.cells.length then
   match e.vt with
   |.aU _=>none
   |.one _=>match k with
    |.full=>some ⟨wv dst (.v [] (.own g) (.app ex a))++[(3*g+2,.live ⟨e.cells.length,none⟩)],[.cond [] (.few ex a)]⟩
    |.own h=>match σ (3*h+2)with
     |.live n=>if n=⟨e.cells.length,none⟩then some ⟨wv dst (.v [] (.own g) (.app ex a))++[(3*h+2,.un),(3*g+2,.live ⟨e.cells.length,none⟩)],[.cond [] (.few ex a)]⟩else none
     |_=>none
    |_=>none
   else none
  |_,_,_=>none
 |_,_,_=>none
def bu(tab:Nat->List CT)(Γ:List VT)(gs:Gd)(dst:Option Nat)(ti:TI)(x i:Option ST):Option bq :=
 match ti.vt,fT gs x,fT gs i with
 |.one (.c .str),some (_,ex),some (_,e)=>if gV .str (ex.inf tab Γ)/\(isInt (e.inf tab Γ)).isSome then some ⟨wv dst (.v gs .d (.at ex e)),[.cond gs (.bI ex e)]⟩else none
 |_,_,_=>none
def aaF(gs:Gd)(dst:Option Nat)(s:Option ST):Option bq :=
 match s.bind (under gs)with
 |some (.ptr _ id off)=>some ⟨wv dst (.ptr gs id off),[]⟩
 |some (.ro _ e off)=>some ⟨wv dst (.ro gs e off),[]⟩
 |_=>none
def JY:BinOp->Bool
 |.add|.sub|.mul|.and|.or|.xor|.andNot=>true
 |_=>false
def Gt:BinOp->Bool
 |.eql|.neq|.lss|.leq|.gtr|.geq=>true
 |_=>false
def aaq(tab:Nat->List CT)(Γ:List VT)(gs:Gd)(dst:Option Nat)(op:BinOp)(ti:Option TI)(x y:Option ST):Option bq :=
 match fT gs x,fT gs y with
 |some (_,a),some (_,b)=>match a.inf tab Γ,b.inf tab Γ with
  |some (.one (.c (.int k))),some (.one (.c (.int c))) =>
   if op=.shl\/op=.shr then some ⟨wv dst (.v gs .d (.ar op k a b)),[.cond gs (.ic .geq b (.li c 0))]⟩
   else if k≠c then none
   else if JY op then some ⟨wv dst (.v gs .d (.ar op k a b)),[]⟩
   else if Gt op then some ⟨wv dst (.v gs .d (.ic op a b)),[]⟩
   else if op=.quo\/op=.rem then some ⟨wv dst (.v gs .d (.ar op k a b)),[.cond gs (.ic .neq b (.li k 0))]⟩
   else none
  |some (.one (.c .str)),some (.one (.c .str)) =>
   if Gt op then some ⟨wv dst (.v gs .d (.sc op a b)),[]⟩
   else if op=.add then some ⟨wv dst (.v gs .d (.tF a b)),[.cond gs (.uK a b)]⟩
   else none
  |some (.one (.agg s)),some (.one (.agg u))=>match ti with
   |some i=>if i.eq=true/\i.vt=.one (.agg s)/\i.vt=.one (.agg u)then
    if op=.eql then some ⟨wv dst (.v gs .d (.ae a b)),[]⟩else if op=.neq then some ⟨wv dst (.v gs .d (.no (.ae a b))),[]⟩else none
    else none
   |none=>none
  |some (.one (.c .bool)),some (.one (.c .bool))=>match ti with
   |some i=>if i.vt=.one (.c .bool)then
    if op=.eql then some ⟨wv dst (.v gs .d (.bc a b)),[]⟩else if op=.neq then some ⟨wv dst (.v gs .d (.no (.bc a b))),[]⟩else none
    else none
   |none=>none
  |_,_=>none
 |_,_=>none
def nO(b:TB)(Γ:List VT)(gs:Gd)(σ:Nat->ST):List Operand->List Nat->Option (List E)
 |[],[]=>some []
 |x::xs,T::Ts=>match fT gs (aY b σ T x),nO b Γ gs σ xs Ts with
  |some (_,e),some es=>some (e::es)
  |_,_=>none
 |_,_=>none
def J0:Option ST->Option (Gd×Nat)
 |some (.ptr g id 0)=>some (g,id)
 |_=>none
def vars(n:Nat):List CT->List (K×E)
 |[]=>[]
 |_::r=>(.d,.var n)::vars (n+1) r
def JX(tab:Nat->List CT)(Γ:List VT):List (K×E)->Option (List CT)
 |[]=>some []
 |(_,e)::r=>match e.inf tab Γ,JX tab Γ r with
  |some (.one (.c t)),some s=>some (t::s)
  |_,_=>none
def Bo:Gd->E
 |[]=>.lb true
 |(c,b)::r=>.an (bif b then c else .no c) (Bo r)
def z8(g:E):List (K×E)->List (K×E)->List (K×E)
 |x::r,y::q=>(.d,.ite g x.2 y.2)::z8 g r q
 |_,_=>[]
def Jj(b:TB)(Γ:List VT)(gs:Gd)(dst:Option Nat)(σ:Nat->ST)(r:List (Nat×Nat))(ti:TI)(f:Nat)(xs:List Operand)(Ts:List Nat)(g':Gd)(id:Nat):Option bq :=
 match σ (3*id+1),nO b Γ gs σ xs Ts with
 |.box cs,some e=>match JX b.tab Γ cs with
  |some n=>if r=[]/\qV g' gs=true/\gs.all (fun x=>gV .bool (x.1.inf b.tab Γ))=true then some ⟨wv dst (.v gs .d (.var Γ.length))++[(3*id+1,.box (z8 (Bo gs) (vars (Γ.length+1) n) cs))],[.call gs f (some (cs.map (·.2))) e ti.vt n]⟩else none
  |none=>none
 |_,_=>none
def Ji(b:TB)(Γ:List VT)(gs:Gd)(dst:Option Nat)(σ:Nat->ST)(g:Nat)(r:List (Nat×Nat))(ti:TI)(f:Nat)(args:List Operand)(y:List Nat):Option bq :=
 match args,y with
 |x::s,T::a=>match J0 (aY b σ T x)with
  |some (c,id)=>match gs,c,σ (3*id+1),nO b Γ [] σ s a with
   |[],[],.box cs,some e=>match JX b.tab Γ cs with
    |some n=>if r=[]then some ⟨wv dst (.v [] .d (.var Γ.length))++[(3*id+1,.box (vars (Γ.length+1) n))],[.call [] f (some (cs.map (·.2))) e ti.vt n]⟩
     else if r.length<=qH then some ⟨wv dst (.v [] (G5 g r ti.vt) (.var Γ.length))++((3*id+1,.box (vars (Γ.length+1) n))::ny g r),[.cF f (some (cs.map (·.2))) e ti.vt n r]⟩else none
    |none=>none
   |_,_,_,_=>Jj b Γ gs dst σ r ti f s a c id
  |none=>match nO b Γ gs σ args y with
   |some e=>if gs=[]/\r≠[]/\r.length<=qH then some ⟨wv dst (.v [] (G5 g r ti.vt) (.var Γ.length))++ny g r,[.cF f none e ti.vt [] r]⟩
    else some ⟨wv dst (.v gs .d (.var Γ.length)),[.call gs f none e ti.vt []]⟩
   |none=>none
 |[],[]=>some ⟨wv dst (.v gs .d (.var Γ.length)),[.call gs f none [] ti.vt []]⟩
 |_,_=>none
def ala(ti:TI):Option (List CT) :=
 match ti.vt with
 |.aU [.agg n]=>bif ti.eq then some n else none
 |_=>none
def eNew(b:TB)(Γ:List VT)(gs:Gd)(dst:Option Nat)(σ:Nat->ST)(g:Nat)(nb:List CT)(f:Nat)(args:List Operand)(y:List Nat):Option bq :=
 match gs,nO b Γ [] σ args y with
 |[],some e=>some ⟨wv dst (.ptr [] g 0)++[(3*g+1,.box (vars Γ.length nb))],[.new f e nb]⟩
 |_,_=>none
def Mx(b:TB)(ti:TI):Option (Nat×CT) :=
 match ti.vt,ti.fs with
 |.aU _,[(n,e)]=>match b.get e with
  |some i=>match i.vt with
   |.one (.c t)=>some (n,t)
   |_=>none
  |none=>none
 |_,_=>none
def aax(b:TB)(Γ:List VT)(gs:Gd)(dst:Option Nat)(ti:TI)(g:Nat):Option bq :=
 match Mx b ti with
 |some (n,t)=>some ⟨wv dst (.v gs .d (.var Γ.length)),[.xg g (.one (.agg (List.replicate n t))) none]⟩
 |none=>none
def aaw(b:TB)(Γ:List VT)(gs:Gd)(dst:Option Nat)(ti:TI)(g:Nat)(i:Option ST):Option bq :=
 match Mx b ti,fT gs i with
 |some (n,t),some (_,e)=>if(isInt (e.inf b.tab Γ)).isSome then some ⟨wv dst (.gp gs g (.var Γ.length) e),[.xg g (.one (.agg (List.replicate n t))) (some (gs,e,n))]⟩else none
 |_,_=>none
def I8(b:TB):List CT->Option (List Nat)
 |[]=>some []
 |t::r=>match I8 b r with
  |none=>none
  |some m=>match t with
   |.sl e=>bif BS (b.tab e)&&Nat.blt 0 (b.tab e).length then some ((b.tab e).length::m)else none
   |.mem=>none
   |.fn=>none
   |_=>some (0::m)
def Bl(d:Option (Nat×List Nat))(off k:Nat):Bool :=
 match d with
 |none=>true
 |some (_,m)=>(List.range k).all fun j=>Nat.beq (m.getD (off+j) 0) 0
def TV(b:TB)(Γ:List VT)(gs:Gd)(dst:Option Nat)(σ:Nat->ST)(ti:TI)(a:Gd)(g n:Nat)(i:E)(off:Nat):Option bq :=
 match σ (3*g+2)with
 |.live ⟨c,some (e,d)⟩=>match e.inf b.tab Γ with
  |some (.one (.c (.sl l)))=>if qV a gs=true/\n=c/\(b.tab l).length=n then
   match ti.vt with
   |.one (.c t)=>if(b.tab l)[off]? =some t then
    (if Bl d off 1=true then some ⟨wv dst (.v gs .d (.cell (.row (b.tab l) e i) off)),[]⟩
    else match d with
     |some (v,_)=>some ⟨wv dst (.iv gs g v n i off (.len (.cell (.row (b.tab l) e i) off))),[]⟩
     |none=>none)
    else none
   |.one (.agg s)=>if off+s.length<=n/\Bl d off s.length=true then some ⟨wv dst (.v gs .d (if off=0/\s.length=n then .row (b.tab l) e i else .sub (.row (b.tab l) e i) off s.length)),[]⟩else none
   |_=>none
   else none
  |_=>none
 |_=>none
def TW(b:TB)(Γ:List VT)(σ:Nat->ST)(f:Nat)(ti:TI)(g n:Nat)(i:E)(off:Nat)(x:Option ST):Option bq :=
 match σ (3*g+2),fT [] x with
 |.live ⟨j,some (e,d)⟩,some (k,ex)=>match e.inf b.tab Γ with
  |some (.one (.c (.sl l)))=>if n=j/\(b.tab l).length=n then
   match ti.vt,ex.inf b.tab Γ with
   |.one (.c _),some (.one (.c .mem))=>match k,d with
    |.own h,some (_,s)=>match σ (3*h+2)with
     |.live ⟨m,some (c,none)⟩=>match c.inf b.tab Γ with
      |some (.one (.c (.sl a)))=>if(b.tab l)[off]? =some (.sl a)/\s.getD off 0=m/\m≠0/\h≠g then
       some ⟨[(3*h+2,.un),(3*g+2,.live ⟨n,some (.aW e i (.aq c) off,some (f,s))⟩)],[]⟩else none
      |_=>none
     |_=>none
    |_,_=>none
   |.one (.c _),some (.one (.c t))=>if(b.tab l)[off]? =some t/\yL t=true/\Bl d off 1=true then some ⟨[(3*g+2,.live ⟨n,some (.aW e i (.aq ex) off,d)⟩)],[]⟩else none
   |.one (.agg o),some (.one (.agg u))=>if u=((b.tab l).drop off).take u.length/\o.length=u.length/\off+u.length<=n/\BS u=true/\Bl d off u.length=true then some ⟨[(3*g+2,.live ⟨n,some (.aW e i ex off,d)⟩)],[]⟩else none
   |_,_=>none
   else none
  |_=>none
 |_,_=>none
def aay(b:TB)(Γ:List VT)(gs:Gd)(dst:Option Nat)(ti:TI)(d:Gd)(g v n:Nat)(i:E)(off:Nat)(l:E)(x:Option ST):Option bq :=
 match ti.vt,fT gs x with
 |.one (.c (.sl a)),some (_,e)=>match b.get a with
  |some c=>match c.vt with
   |.aU _=>none
   |.one _=>if qV d gs=true/\(isInt (e.inf b.tab Γ)).isSome then some ⟨wv dst (.ip gs g v n i off e (b.tab a).length 0),[.cond gs (.bI (.mem l) e)]⟩else none
  |none=>none
 |_,_=>none
def TQ(b:TB)(Γ:List VT)(gs:Gd)(dst:Option Nat)(σ:Nat->ST)(ti:TI)(d:Gd)(g c n:Nat)(i:E)(off:Nat)(j:E)(m o:Nat):Option bq :=
 match σ (3*g+2)with
 |.live ⟨f,some (e,some (v,s))⟩=>match e.inf b.tab Γ with
  |some (.one (.c (.sl a)))=>match (b.tab a)[off]? with
   |some (.sl l)=>if qV d gs=true/\n=f/\(b.tab a).length=n/\v=c/\s.getD off 0=m/\m≠0/\(b.tab l).length=m then
    match ti.vt with
    |.one (.c t)=>if(b.tab l)[o]? =some t then some ⟨wv dst (.v gs .d (.cell (.row (b.tab l) (.cell (.row (b.tab a) e i) off) j) o)),[]⟩else none
    |_=>none
    else none
   |_=>none
  |_=>none
 |_=>none
def TR(b:TB)(Γ:List VT)(σ:Nat->ST)(ti:TI)(g c n:Nat)(i:E)(off:Nat)(j:E)(m o:Nat)(x:Option ST):Option bq :=
 match σ (3*g+2),fT [] x with
 |.live ⟨d,some (e,some (v,s))⟩,some (_,ex)=>match e.inf b.tab Γ with
  |some (.one (.c (.sl a)))=>match (b.tab a)[off]? with
   |some (.sl l)=>if n=d/\(b.tab a).length=n/\v=c/\s.getD off 0=m/\m≠0/\(b.tab l).length=m then
    match ti.vt,ex.inf b.tab Γ with
    |.one (.c _),some (.one (.c t))=>if(b.tab l)[o]? =some t/\yL t=true then some ⟨[(3*g+2,.live ⟨n,some (.aW e i (.aq (.aW (.cell (.row (b.tab a) e i) off) j (.aq ex) o)) off,some (v,s))⟩)],[]⟩else none
    |_,_=>none
    else none
   |_=>none
  |_=>none
 |_,_=>none
def aaA(b:TB)(gs:Gd)(dst:Option Nat)(ti:TI)(c:Gd)(g n:Nat)(i:E)(off f:Nat):Option bq :=
 match ti.vt,ti.fs[f]? with
 |.one (.agg _),some (o,d)=>match b.get d with
  |some a=>if a.cells.length=0\/qV c gs=false then none else match a.vt with
   |.aU _=>none
   |.one _=>some ⟨wv dst (.mp gs g n i (off+o)),[]⟩
  |none=>none
 |_,_=>none
def aaB(b:TB)(Γ:List VT)(gs:Gd)(dst:Option Nat)(ti:TI)(c:Gd)(g:Nat)(l:E)(i:Option ST):Option bq :=
 match ti.vt,fT gs i with
 |.one (.c (.sl a)),some (_,e)=>match b.get a with
  |some d=>match d.vt with
   |.aU _=>none
   |.one _=>if qV c gs=true/\gV .mem (l.inf b.tab Γ)=true/\(isInt (e.inf b.tab Γ)).isSome then some ⟨wv dst (.mp gs g (b.tab a).length e 0),[.cond gs (.bI l e)]⟩else none
  |none=>none
 |_,_=>none
def aaC(b:TB)(Γ:List VT)(gs:Gd)(dst:Option Nat)(g:Nat)(ti:TI)(l c:Option ST):Option bq :=
 match gs,ti.vt,fT [] l,fT [] c with
 |[],.one (.c (.sl e)),some (_,n),some (_,a)=>match b.get e with
  |some i=>match i.vt with
   |.aU _=>none
   |.one _=>if n=a/\isInt (n.inf b.tab Γ)=some .i64/\i.bytes<=1024/\0<i.cells.length/\(BS (b.tab e)=true\/(I8 b (b.tab e)).isSome=true)then
    some ⟨wv dst (.v [] (.own g) (.mem n))++[(3*g+2,.live ⟨(b.tab e).length,some (.rep e (b.tab e) n,if BS (b.tab e)=true then none else(I8 b (b.tab e)).map fun m=>(g+1,m))⟩)],[.cond [] (.an (.ic .leq (.li .i64 0) n) (.ic .leq n (.li .i64 4294967296)))]⟩
    else none
  |none=>none
 |_,_,_,_=>none
def TP(b:TB)(Γ:List VT)(dst:Option Nat)(σ:Nat->ST)(g:Nat)(ti:TI)(h:Nat)(ex:E)(lo:Option ST):Option bq :=
 match ti.vt,fT [] lo,σ (3*h+2)with
 |.one (.c (.sl l)),some (_,e),.live ⟨n,none⟩ =>
  if ex.inf b.tab Γ=some ti.vt/\(isInt (e.inf b.tab Γ)).isSome/\Wl b ti.vt=true/\n=(b.tab l).length then
   some ⟨wv dst (.v [] (.own g) (.cut ex e (.len ex)))++[(3*h+2,.un),(3*g+2,.live ⟨n,none⟩)],[.cond [] (.inc ex e (.len ex))]⟩
  else none
 |_,_,_=>none
def Jo(b:TB)(Γ:List VT)(gs:Gd)(dst:Option Nat)(σ:Nat->ST)(g:Nat)(ti:TI)(x:Option ST)(lo i:Option (Option ST)):Option bq :=
 match gs,x,lo,i with
 |[],some (.v [] (.own h) ex),some l,none=>match TP b Γ dst σ g ti h ex l with
  |some e=>some e
  |none=>TY b Γ gs dst ti x lo i
 |_,_,_,_=>TY b Γ gs dst ti x lo i
def TJ(b:TB)(Γ:List VT)(dst:Option Nat)(σ:Nat->ST)(g:Nat)(ti u:TI)(x:Option ST)(h f n:Nat)(i:E)(off:Nat)(l:E):Option bq :=
 match ti.vt,u.vt with
 |.one (.c (.sl a)),.one (.c (.sl _))=>match fT [] x,b.get a,σ (3*h+2)with
  |some (.full,ex),some c,.live ⟨j,some (e,some (v,m))⟩=>match c.vt,e.inf b.tab Γ with
   |.one _,some (.one (.c (.sl d))) =>
    if gV (.sl a) (ex.inf b.tab Γ)=true/\c.bytes<=1024/\0<c.bytes/\0<c.cells.length/\n=j/\(b.tab d).length=n/\v=f/\(b.tab d)[off]? =some (.sl a)/\m.getD off 0=(b.tab a).length then
     some ⟨wv dst (.v [] (.own g) (.mem l))++[(3*g+2,.live ⟨(b.tab a).length,some (.cell (.row (b.tab d) e i) off,none)⟩)],[.cond [] (.ic .leq l (.li .i64 4294967296))]⟩
    else none
   |_,_=>none
  |_,_,_=>none
 |_,_=>none
def Jf(b:TB)(Γ:List VT)(gs:Gd)(dst:Option Nat)(σ:Nat->ST)(g:Nat)(ti u:TI)(x y:Option ST):Option bq :=
 match gs,y with
 |[],some (.iv [] h v n i off l)=>TJ b Γ dst σ g ti u x h v n i off l
 |_,_=>Jg b Γ gs dst σ g ti u x y
def Jl(b:TB)(Γ:List VT)(gs:Gd)(dst:Option Nat)(σ:Nat->ST)(ti:TI)(a:Operand):Option bq :=
 match a with
 |.global g=>aax b Γ gs dst ti g
 |a=>match aY b σ 0 a with
  |some (.gp c g x e)=>match ti.vt,x.inf b.tab Γ with
   |.one (.c t),some (.one (.agg d))=>if qV c gs=true/\d.all (fun u=>decide (u=t))=true then some ⟨wv dst (.v gs .d (.Kp t x e)),[]⟩else none
   |_,_=>none
  |some (.mp c g n i off)=>TV b Γ gs dst σ ti c g n i off
  |some (.ip f g v n i off j m o)=>TQ b Γ gs dst σ ti f g v n i off j m o
  |s=>Jm b.tab Γ gs dst σ ti s
def Jp(b:TB)(Γ:List VT)(gs:Gd)(dst:Option Nat)(σ:Nat->ST)(a:Nat)(ti:TI)(s x:Option ST):Option bq :=
 match gs,dst,s with
 |[],none,some (.mp [] g n i off)=>TW b Γ σ a ti g n i off x
 |[],none,some (.ip [] g v n i off j m o)=>TR b Γ σ ti g v n i off j m o x
 |_,_,_=>Dm b.tab Γ gs dst σ ti s x
def aav(b:TB)(Γ:List VT)(gs:Gd)(dst:Option Nat)(ti:TI)(s:Option ST)(f:Nat):Option bq :=
 match s with
 |some (.mp a g n i off)=>aaA b gs dst ti a g n i off f
 |_=>aau b Γ gs dst ti s f
def Jk(b:TB)(Γ:List VT)(gs:Gd)(dst:Option Nat)(σ:Nat->ST)(ti:TI)(T:Nat)(x i:Operand):Option bq :=
 match x with
 |.global g=>aaw b Γ gs dst ti g (aY b σ 0 i)
 |x=>match aY b σ T x with
  |some (.v a (.own g) l)=>bif gV .mem (l.inf b.tab Γ)then aaB b Γ gs dst ti a g l (aY b σ 0 i)else TU b Γ gs dst ti (aY b σ T x) (aY b σ 0 i)
  |some (.iv d g v n k off l)=>aay b Γ gs dst ti d g v n k off l (aY b σ 0 i)
  |s=>TU b Γ gs dst ti s (aY b σ 0 i)
def aaI(b:TB)(Γ:List VT)(gs:Gd)(dst:Option Nat)(ti:TI)(x i:Option ST):Option bq :=
 match Mx b ti with
 |some (n,t)=>match fT gs x,fT gs i with
  |some (_,ex),some (_,e)=>if ex.inf b.tab Γ=some (.one (.agg (List.replicate n t)))/\(isInt (e.inf b.tab Γ)).isSome=true then some ⟨wv dst (.v gs .d (.Kp t ex e)),[.cond gs (.an (.ic .leq (.li .i64 0) e) (.ic .lss e (.li .i64 n)))]⟩else none
  |_,_=>none
 |none=>bu b.tab Γ gs dst ti x i
def TN(b:TB)(Γ:List VT)(gs:Gd)(dst:Option Nat)(σ:Nat->ST)(ti:TI)(x:Option ST)(args:List Operand)(y:List Nat):Option bq :=
 match fT gs x,nO b Γ gs σ args y with
 |some (_,e),some s=>if gV .fn (e.inf b.tab Γ)=true then some ⟨wv dst (.v gs .d (.var Γ.length)),[.lJ gs e s ti.vt]⟩else none
 |_,_=>none
def Bh(tab:Nat->List CT)(Γ:List VT)(σ:Nat->ST):List Operand->List Nat->E->Option (E×List Nat)
 |[],i,e=>some (e,i)
 |.tmp t::r,i,e=>match σ (3*t)with
  |.ptr [] id 0=>match σ (3*id+1)with
   |.box cs=>if id≠0/\i.contains id=false then Bh tab Γ σ r (id::i) (.FQ e (pack tab Γ (cs.map (·.2))))else none
   |_=>none
  |_=>none
 |_::_,_,_=>none
def rZ(i:List Nat):List (Nat×ST):=i.map fun id=>(3*id+1,.un)
def Jn(tab:Nat->List CT)(Γ:List VT)(gs:Gd)(dst:Option Nat)(σ:Nat->ST)(f:Nat)(first c:List Operand):Option bq :=
 match gs,first with
 |[],[]=>match Bh tab Γ σ c [] (.fn0 f)with
  |some (e,i)=>if gV .fn (e.inf tab Γ)=true then some ⟨wv dst (.v [] .d e)++rZ i,[]⟩else none
  |none=>none
 |_,_=>none
def Je(nt:Nat):Option Nat->Bool
 |some d=>Nat.blt d nt
 |none=>true
def yP(d:Cx)(ops:Array Oper)(Γ:List VT)(g:Nat)(o:Oper)(σ:Nat->ST):Option bq :=
 match zQ d.tb.tab Γ ops σ o with
 |none=>none
 |some s=>
  bif Je d.nt o.dst then
   match o.op with
   |.move x|.assign x=>aaD s o.dst (aY d.tb σ o.type x)
   |.load T a=>match d.tb.get T with|some e=>Jl d.tb Γ s o.dst σ e a|none=>none
   |.store T a x=>match d.tb.get T with|some e=>Jp d.tb Γ s o.dst σ g e (aY d.tb σ 0 a) (aY d.tb σ T x)|none=>none
   |.fieldAddr T a f=>match d.tb.get T with|some e=>aav d.tb Γ s o.dst e (aY d.tb σ 0 a) f|none=>none
   |.indexAddr T x i=>match d.tb.get T with|some e=>Jk d.tb Γ s o.dst σ e T x i|none=>none
   |.index T x i=>match d.tb.get T with|some e=>aaI d.tb Γ s o.dst e (aY d.tb σ T x) (aY d.tb σ 0 i)|none=>none
   |.box T x=>aar d.tb.tab Γ s o.dst g (aY d.tb σ T x)
   |.alloc T=>match d.tb.get T with|some e=>aao s o.dst g e|none=>none
   |.build T parts=>match d.tb.get T with|some e=>TK d.tb Γ s o.dst σ e parts.toList|none=>none
   |.makeSlice T l c=>match d.tb.get T with|some e=>aaC d.tb Γ s o.dst g e (aY d.tb σ 0 l) (aY d.tb σ 0 c)|none=>none
   |.buildSlice T len parts=>match d.tb.get T with|some e=>bif Nat.blt 0 len&&s.isEmpty then TL d.tb Γ s o.dst σ g e len parts.toList else TM d.tb Γ s o.dst σ e len parts.toList|none=>none
   |.slice T x j k none=>match d.tb.get T with|some e=>Jo d.tb Γ s o.dst σ g e (aY d.tb σ T x) (j.map (aY d.tb σ 0)) (k.map (aY d.tb σ 0))|none=>none
   |.convert S T x=>match d.tb.get S,d.tb.get T with|some h,some e=>aas d.tb.tab Γ s o.dst (ad5 d.tb h) h e (aY d.tb σ S x)|_,_=>none
   |.extract t i=>aat d.tb.tab Γ s o.dst (aY d.tb σ 0 t) i
   |.unOp .not _ x=>aaG d.tb.tab Γ s o.dst (aY d.tb σ 0 x)
   |.unOp .neg _ x=>aaE d.tb.tab Γ s o.dst (aY d.tb σ 0 x)
   |.pick c a b=>aaH d.tb.tab Γ s o.dst (aY d.tb σ 0 c) (aY d.tb σ o.type a) (aY d.tb σ o.type b)
   |.makeFunc (.func f) first p=>Jn d.tb.tab Γ s o.dst σ f first.toList p.toList
   |.nilCheck x=>aaF s o.dst (aY d.tb σ 0 x)
   |.binOp op T x y _=>aaq d.tb.tab Γ s o.dst op (d.tb.get T) (aY d.tb σ T x) (aY d.tb σ T y)
   |.call c=>match c.callee with
    |.value (.func f)=>match d.tb.get o.type with
     |some e=>match ala e with
      |some n=>eNew d.tb Γ s o.dst σ g n f c.args.toList c.argTypes.toList
      |none=>Ji d.tb Γ s o.dst σ g (d.rb.get f) e f c.args.toList c.argTypes.toList
     |none=>none
    |.value (.tmp t)=>match d.tb.get o.type with
     |some e=>TN d.tb Γ s o.dst σ e (aY d.tb σ 0 (.tmp t)) c.args.toList c.argTypes.toList
     |none=>none
    |.builtin .len=>match c.args.toList,c.argTypes.toList with
     |[x],[T]=>match d.tb.get T with|some e=>aaz d.tb.tab Γ s o.dst e (aY d.tb σ T x)|none=>none
     |_,_=>none
    |.builtin .append=>match c.args.toList,c.argTypes.toList with
     |[x,y],[T,U]=>match d.tb.get T,d.tb.get U with|some e,some u=>Jf d.tb Γ s o.dst σ g e u (aY d.tb σ T x) (aY d.tb σ U y)|_,_=>none
     |_,_=>none
    |_=>none
   |_=>none
  else none
def tmpsOf(ops:Array Oper)(o:Oper):List Nat :=
 (o.op.operands.toList.filterMap fun|.tmp t=>some t|_=>none)++(match o.guard with|none=>[]|some (j,_)=>((ops[j]?).bind (·.dst)).toList)
def qU(σ:Nat->ST):List Nat->List Nat
 |[]=>[]
 |t::r=>match σ (3*t)with
  |.ptr _ id _=>(3*id+1)::qU σ r
  |.v _ (.own g) _=>(3*g+2)::qU σ r
  |.mp _ g _ _ _=>(3*g+2)::qU σ r
  |.ip _ g _ _ _ _ _ _ _=>(3*g+2)::qU σ r
  |.iv _ g _ _ _ _ _=>(3*g+2)::qU σ r
  |_=>qU σ r
def looks:Op->Bool
 |.load _ _|.store _ _ _|.call _|.slice .. |.makeFunc .. =>true
 |_=>false
def readsOf(ops:Array Oper)(σ:Nat->ST)(o:Oper):List Nat:=(tmpsOf ops o).map (3* ·)++bif looks o.op then qU σ (tmpsOf ops o)else []
structure SS where
 Γ:List VT
 nt:Nat
 lv:Nat
 σ:Sg
def lN:List Rq->List VT
 |[]=>[]
 |.cond _ _::r=>lN r
 |.call _ _ _ _ vt nb::r=>vt::nb.map (fun t=>.one (.c t))++lN r
 |.cF _ _ _ vt nb _::r=>vt::nb.map (fun t=>.one (.c t))++lN r
 |.new _ _ nb::r=>nb.map (fun t=>.one (.c t))++lN r
 |.lJ _ _ _ vt::r=>vt::lN r
 |.xg _ vt _::r=>vt::lN r
def SS.step(s:SS)(e:bq):SS:={s with Γ:=s.Γ++lN e.rq,nt:=s.nt+qH,σ:=e.wr.reverse++s.σ}
def oW(c:Cx)(ops:Array Oper):List Oper->SS->Option (List bq×SS)
 |[],a=>some ([],a)
 |o::r,a=>match yP c ops a.Γ a.nt o a.σ.get with
  |none=>none
  |some e=>match oW c ops r (a.step e)with
   |none=>none
   |some (es,s)=>some (e::es,s)
inductive VC where
 |fail (why:Nat)
 |ret (e:E) (bs:List E)
 |rq (r:Rq) (k:VC)
 |ite (c:E) (a b:VC)
 |loop (eJ:List VT) (inits:List E) (body:VC)
 |again (d:Nat) (es:List E)
def D3:List bq->VC->VC
 |[],k=>k
 |e::r,k=>e.rq.foldr .rq (D3 r k)
end
end Go.Proofs.YtoomhbopolalnabGreatDoor
