/- General lemmas on worlds, cells and results, used by all walks of this seat. Nothing is assumed. -/
import Derived.Test.YtekplmpbkgchfaaGreatDoorProg
import Derived.WalkKit
import Derived.Handy
import Derived.Deep.QuietTactic
import Derived.BigQuiet
import Derived.Lib.Hide
import Derived.Deep.Draws
import Derived.StillTailTactics
import Derived.Deep.RegionHeld3
import Derived.Laws.Rows
import Derived.Laws.ResultCell
import Derived.Laws.BitsLemmas
import Derived.Laws.BitsAllLaws
import Derived.Below
import Derived.Laws.BytesArg
import Derived.Laws.StructEq
import Derived.Laws.Cells
set_option linter.all false
namespace Go.Proofs.YtekplmpbkgchfaaGreatDoor
section
def vK:= @_root_.Go.Addr.add_lit
def mC:= @_root_.Go.Addr.mk.injEq
def Cd:= @_root_.And.left
def PI:= @_root_.Array.all_eq_true_iff_forall_mem
def rC:= @_root_.Array.getD_eq_getD_getElem?
def Xh:= @_root_.Array.getElem?_append_left
def G8:= @_root_.Array.getElem?_eq_getElem
def yC:= @_root_.Array.getElem?_eq_none
def rD:= @_root_.Array.getElem?_eq_some_iff
def G9:= @_root_.Array.getElem?_modify
def Et:= @_root_.Array.getElem?_setIfInBounds
def aeR:= @_root_.Array.getElem?_setIfInBounds_ne
def yD:= @_root_.Array.getElem?_toList
def xj:= @_root_.Array.length_toList
def Xi:= @_root_.Array.mapM_eq_mapM_toList
def kJ:= @_root_.Array.toList_inj
def Ku:= @_root_.Go.RowKit.Below.heap_alloc
def dP:= @_root_.Go.RowKit.Below.refl
def Ce:= @_root_.Bool.and_eq_false_iff
def aP:= @_root_.Bool.and_eq_true
def Eu:= @_root_.Bool.eq_iff_iff
def xk:= @_root_.Bool.false_eq_true
def PJ:= @_root_.Bool.false_or
def oP:= @_root_.Bool.not_eq_true'
def Kv:= @_root_.Bool.not_false
def gK:= @_root_.Bool.or_eq_true
def sS:= @_root_.Bool.true_and
def Cg:= @_root_.ByteArray.data_append
def Kw:= @_root_.ByteArray.ext
def gx:= @_root_.ByteArray.size_append
def Xj:= @_root_.Classical.byContradiction
def PK:= @_root_.Function.comp_def
def PL:= @_root_.Int.le_refl
def Kx:= @_root_.Int.lt_or_le
def Xk:= @_root_.Int.tmod_nonneg
def jv:= @_root_.Int.toNat_natCast
def Ky:= @_root_.Int.toNat_of_nonneg
def mV:= @_root_.Go.Lib.hid
def fO:= @_root_.List.all_eq_true
def uf:= @_root_.List.any_eq_true
def iG:= @_root_.List.append_assoc
def oQ:= @_root_.List.append_nil
def Xl:= @_root_.List.append_of_mem
def Ev:= @_root_.List.cons.injEq
def iH:= @_root_.List.cons_append
def Xm:= @_root_.List.contains_eq_mem
def aeS:= @_root_.List.countP_eq_length_filter
def aeT:= @_root_.List.drop_append_of_le_length
def Ch:= @_root_.List.drop_drop
def Ha:= @_root_.List.drop_eq_nil_of_le
def Xn:= @_root_.List.drop_left'
def PM:= @_root_.List.drop_zero
def oR:= @_root_.List.eq_nil_of_length_eq_zero
def zV:= @_root_.List.ext_getElem?
def Xo:= @_root_.List.flatMap_cons
def Xp:= @_root_.List.flatten_cons
def qD:= @_root_.List.getD_cons_succ
def pU:= @_root_.List.getD_cons_zero
def kK:= @_root_.List.getD_eq_getElem?_getD
def mW:= @_root_.List.getElem?_append_left
def oT:= @_root_.List.getElem?_append_right
def Xq:= @_root_.List.getElem?_cons_succ
def xm:= @_root_.List.getElem?_drop
def cO:= @_root_.List.getElem?_eq_getElem
def nU:= @_root_.List.getElem?_eq_none
def dQ:= @_root_.List.getElem?_eq_some_iff
def iI:= @_root_.List.getElem?_map
def PN:= @_root_.List.getElem?_range
def Ew:= @_root_.List.getElem?_set
def Kz:= @_root_.List.getElem?_set_ne
def PO:= @_root_.List.getElem?_set_self
def pV:= @_root_.List.getElem?_take
def vM:= @_root_.List.getElem_mem
def yE:= @_root_.List.getElem_of_mem
def jw:= @_root_.List.length_append
def fw:= @_root_.List.length_cons
def KA:= @_root_.List.length_drop
def He:= @_root_.List.length_dropLast
def Xr:= @_root_.List.length_filter_le
def cV:= @_root_.List.length_map
def zW:= @_root_.List.length_nil
def PR:= @_root_.List.length_pos_iff
def Xs:= @_root_.List.length_replicate
def uh:= @_root_.List.length_set
def lX:= @_root_.List.length_take
def Xt:= @_root_.List.mapM_cons
def uj:= @_root_.List.map_append
def Ex:= @_root_.List.map_congr_left
def kU:= @_root_.List.map_cons
def KC:= @_root_.List.map_map
def vN:= @_root_.List.map_nil
def PS:= @_root_.List.map_set
def Ey:= @_root_.List.map_take
def jx:= @_root_.List.mem_append
def fJ:= @_root_.List.mem_cons
def Ci:= @_root_.List.mem_filter
def KD:= @_root_.List.mem_iff_getElem
def gD:= @_root_.List.mem_map
def aeU:= @_root_.List.mem_of_find?_eq_some
def kV:= @_root_.List.mem_of_getElem?
def PT:= @_root_.List.mem_of_mem_drop
def PU:= @_root_.List.mem_of_mem_take
def sU:= @_root_.List.mem_or_eq_of_mem_set
def pW:= @_root_.List.mem_range
def nV:= @_root_.List.mem_singleton
def aeV:= @_root_.List.mem_zipIdx_iff_getElem?
def iw:= @_root_.List.nil_append
def PW:= @_root_.List.nodup_cons
def sV:= @_root_.List.not_mem_nil
def Xu:= @_root_.List.pairwise_iff_getElem
def KE:= @_root_.List.range'_succ
def PX:= @_root_.List.range_eq_range'
def Xv:= @_root_.List.range_succ
def KF:= @_root_.List.take_add_one
def Ez:= @_root_.List.take_append_drop
def Xw:= @_root_.List.take_left'
def vO:= @_root_.List.take_length
def Cj:= @_root_.List.take_of_length_le
def PY:= @_root_.List.take_succ_cons
def Xx:= @_root_.List.take_succ_eq_append_getElem
def PZ:= @_root_.List.take_zero
def zX:= @_root_.Nat.add_assoc
def Ck:= @_root_.Nat.add_comm
def jO:= @_root_.Nat.add_mul
def EA:= @_root_.Nat.add_zero
def iW:= @_root_.Nat.eq_of_beq_eq_true
def vP:= @_root_.Nat.eq_zero_or_pos
def ia:= @_root_.Nat.le_of_ble_eq_true
def kW:= @_root_.Nat.le_of_eq
def bU:= @_root_.Nat.le_refl
def dq:= @_root_.Nat.le_trans
def KG:= @_root_.Nat.lt_of_le_of_lt
def dm:= @_root_.Nat.lt_of_lt_of_le
def dY:= @_root_.Nat.lt_or_ge
def Xy:= @_root_.Nat.lt_or_gt_of_ne
def P0:= @_root_.Nat.lt_succ_self
def Hf:= @_root_.Nat.lt_trichotomy
def P4:= @_root_.Nat.min_eq_left
def Xz:= @_root_.Nat.mul_le_mul
def pX:= @_root_.Nat.mul_le_mul_right
def sW:= @_root_.Nat.one_mul
def qE:= @_root_.Nat.zero_add
def fX:= @_root_.Nat.zero_le
def zY:= @_root_.Ne.symm
def KH:= @_root_.Go.Oper.upon_value
def P5:= @_root_.Option.bind_some
def mX:= @_root_.Option.getD_some
def XA:= @_root_.Option.isSome_iff_exists
def XB:= @_root_.Option.isSome_none
def lJ:= @_root_.Option.map_eq_some_iff
def XC:= @_root_.Option.map_none
def jP:= @_root_.Option.map_some
def gh:= @_root_.Option.some.inj
def bg:= @_root_.Option.some.injEq
def oU:= @_root_.Prod.mk.injEq
def uk:= @_root_.Go.Result.andThen_ok
def lK:= @_root_.Go.Sem.run_bind
def EB:= @_root_.Go.Sem.run_pure
def P6:= @_root_.Go.Proofs.Tryz.func121
def P7:= @_root_.Go.Proofs.Tryz.func176
def P8:= @_root_.Go.Proofs.Tryz.func211
def P9:= @_root_.Go.Proofs.Tryz.func230
def Qa:= @_root_.Go.Proofs.Tryz.func231
def Qb:= @_root_.Go.Proofs.Tryz.func232
def Qc:= @_root_.Go.Proofs.Tryz.func233
def Qd:= @_root_.Go.Proofs.Tryz.func241
def Qe:= @_root_.Go.Proofs.Tryz.func242
def Qf:= @_root_.Go.Proofs.Tryz.func243
def Qg:= @_root_.Go.Proofs.Tryz.func244
def Qh:= @_root_.Go.Proofs.Tryz.func245
def Qi:= @_root_.Go.Proofs.Tryz.func251
def Qj:= @_root_.Go.Proofs.Tryz.func252
def EC:= @_root_.Go.Proofs.Tryz.func68
def Hg:= @_root_.Go.Proofs.Tryz.isAgg0
def Hj:= @_root_.Go.Proofs.Tryz.isAgg159
def Qk:= @_root_.Go.Proofs.Tryz.isAgg2
def KI:= @_root_.Go.Proofs.Tryz.isAgg20
def Hk:= @_root_.Go.Proofs.Tryz.isAgg202
def KJ:= @_root_.Go.Proofs.Tryz.isAgg22
def Ql:= @_root_.Go.Proofs.Tryz.isAgg227
def Qm:= @_root_.Go.Proofs.Tryz.isAgg238
def Qn:= @_root_.Go.Proofs.Tryz.isAgg241
def Qo:= @_root_.Go.Proofs.Tryz.isAgg251
def Qq:= @_root_.Go.Proofs.Tryz.isAgg252
def Qr:= @_root_.Go.Proofs.Tryz.isAgg256
def Qs:= @_root_.Go.Proofs.Tryz.isAgg257
def ED:= @_root_.Go.Proofs.Tryz.isAgg3
def EE:= @_root_.Go.Proofs.Tryz.isAgg4
def EF:= @_root_.Go.Proofs.Tryz.isAgg5
def EG:= @_root_.Go.Proofs.Tryz.isAgg9
def EH:= @_root_.Go.Proofs.Tryz.ntmps68
def Hl:= @_root_.Go.Proofs.Tryz.sizeOf0
def XD:= @_root_.Go.Proofs.Tryz.sizeOf145
def XE:= @_root_.Go.Proofs.Tryz.sizeOf146
def Hm:= @_root_.Go.Proofs.Tryz.sizeOf159
def XF:= @_root_.Go.Proofs.Tryz.sizeOf181
def Qt:= @_root_.Go.Proofs.Tryz.sizeOf2
def KL:= @_root_.Go.Proofs.Tryz.sizeOf20
def Ho:= @_root_.Go.Proofs.Tryz.sizeOf202
def KM:= @_root_.Go.Proofs.Tryz.sizeOf22
def Qu:= @_root_.Go.Proofs.Tryz.sizeOf227
def Qv:= @_root_.Go.Proofs.Tryz.sizeOf238
def Qw:= @_root_.Go.Proofs.Tryz.sizeOf241
def Qx:= @_root_.Go.Proofs.Tryz.sizeOf251
def Qy:= @_root_.Go.Proofs.Tryz.sizeOf252
def Qz:= @_root_.Go.Proofs.Tryz.sizeOf256
def QA:= @_root_.Go.Proofs.Tryz.sizeOf257
def EI:= @_root_.Go.Proofs.Tryz.sizeOf3
def EJ:= @_root_.Go.Proofs.Tryz.sizeOf4
def EK:= @_root_.Go.Proofs.Tryz.sizeOf5
def EL:= @_root_.Go.Proofs.Tryz.sizeOf9
def Hq:= @_root_.Go.Proofs.Tryz.underlying0
def gL:= @_root_.Go.Proofs.Tryz.underlying111
def QB:= @_root_.Go.Proofs.Tryz.underlying145
def XG:= @_root_.Go.Proofs.Tryz.underlying146
def Ht:= @_root_.Go.Proofs.Tryz.underlying159
def XH:= @_root_.Go.Proofs.Tryz.underlying181
def QC:= @_root_.Go.Proofs.Tryz.underlying2
def KN:= @_root_.Go.Proofs.Tryz.underlying20
def Hu:= @_root_.Go.Proofs.Tryz.underlying202
def XI:= @_root_.Go.Proofs.Tryz.underlying21
def KO:= @_root_.Go.Proofs.Tryz.underlying22
def KP:= @_root_.Go.Proofs.Tryz.underlying227
def QD:= @_root_.Go.Proofs.Tryz.underlying238
def QE:= @_root_.Go.Proofs.Tryz.underlying241
def XJ:= @_root_.Go.Proofs.Tryz.underlying247
def XK:= @_root_.Go.Proofs.Tryz.underlying249
def vQ:= @_root_.Go.Proofs.Tryz.underlying25
def KQ:= @_root_.Go.Proofs.Tryz.underlying251
def QF:= @_root_.Go.Proofs.Tryz.underlying252
def QG:= @_root_.Go.Proofs.Tryz.underlying256
def QH:= @_root_.Go.Proofs.Tryz.underlying257
def fY:= @_root_.Go.Proofs.Tryz.underlying26
def lL:= @_root_.Go.Proofs.Tryz.underlying3
def pY:= @_root_.Go.Proofs.Tryz.underlying36
def rE:= @_root_.Go.Proofs.Tryz.underlying37
def mY:= @_root_.Go.Proofs.Tryz.underlying38
def Cl:= @_root_.Go.Proofs.Tryz.underlying4
def cZ:= @_root_.Go.Proofs.Tryz.underlying40
def EM:= @_root_.Go.Proofs.Tryz.underlying5
def XL:= @_root_.Go.Proofs.Tryz.underlying55
def zZ:= @_root_.Go.Proofs.Tryz.underlying56
def dc:= @_root_.Go.Proofs.Tryz.underlying58
def jq:= @_root_.Go.Proofs.Tryz.underlying9
def Hv:= @_root_.Go.Proofs.Tryz.zeroValue0
def XM:= @_root_.Go.Proofs.Tryz.zeroValue145
def XN:= @_root_.Go.Proofs.Tryz.zeroValue146
def Hw:= @_root_.Go.Proofs.Tryz.zeroValue159
def XO:= @_root_.Go.Proofs.Tryz.zeroValue181
def QI:= @_root_.Go.Proofs.Tryz.zeroValue2
def KR:= @_root_.Go.Proofs.Tryz.zeroValue20
def Hy:= @_root_.Go.Proofs.Tryz.zeroValue202
def XP:= @_root_.Go.Proofs.Tryz.zeroValue21
def KS:= @_root_.Go.Proofs.Tryz.zeroValue22
def QJ:= @_root_.Go.Proofs.Tryz.zeroValue227
def QK:= @_root_.Go.Proofs.Tryz.zeroValue238
def QL:= @_root_.Go.Proofs.Tryz.zeroValue241
def QM:= @_root_.Go.Proofs.Tryz.zeroValue251
def QN:= @_root_.Go.Proofs.Tryz.zeroValue256
def QP:= @_root_.Go.Proofs.Tryz.zeroValue257
def EN:= @_root_.Go.Proofs.Tryz.zeroValue3
def EO:= @_root_.Go.Proofs.Tryz.zeroValue4
def EP:= @_root_.Go.Proofs.Tryz.zeroValue5
def EQ:= @_root_.Go.Proofs.Tryz.zeroValue9
def gF:= @_root_.Go.Value.slice.injEq
def ER:= @_root_.Go.World.cell?_of_block
def dI:= @_root_.Go.World.size_alloc
def vR:= @_root_.and_true
def XQ:= @_root_.beq_eq_false_iff_ne
def um:= @_root_.beq_iff_eq
def gR:= @_root_.Go.block_lt_of_cell
def z7:= @_root_.Go.cell_of_row
def Cm:= @_root_.cond_false
def ib:= @_root_.cond_true
def mZ:= @_root_.decide_eq_false_iff_not
def QQ:= @_root_.decide_eq_true
def cC:= @_root_.decide_eq_true_eq
def Cn:= @_root_.forall_eq
def ES:= @_root_.forall_eq_or_imp
def xn:= @_root_.Go.heap_alloc_new
def xp:= @_root_.if_false
def ak:= @_root_.if_neg
def aA:= @_root_.if_pos
def vS:= @_root_.if_true
def uq:= @_root_.Go.info_parts
def KT:= @_root_.of_decide_eq_true
def vT:= @_root_.or_false
def XR:= @_root_.Go.run_equalIn_bool'
def KU:= @_root_.Go.run_loadCells_list
def Hz:= @_root_.Go.run_loadVar_row
def sX:= @_root_.true_and
def ET:= @_root_.Go.wp_mono
def HG:= @_root_.Go.wrap_within
open Go.RowKit
def yI{w w1:World}{p:Addr}{v:Value}(hb:Below w.heap.size w w1)(h:w.cell? p=some v):w1.cell? p=some v:=by rw [hb.cell (gR h)];exact h
def bt{w a b:World}(h:Below w.heap.size w a)(k:Below a.heap.size a b):Below w.heap.size w b:=h.trans (k.mono h.size)
def aDx{P:Program}{id:Nat}{Q:Exit->Act->World->Prop}{a:Act}{w:World}{l:List Oper}(n:Nat)(hm:P.follows .mixedOrders=true)(hB:Region.lexTailB .any l.toArray n=true)
  (h:wpStill P l.toArray w.drew (fun a'=>wpList P l.toArray Q (l.drop n) a' w.drew) (l.take n) a):(Code.region id l.toArray true).wp P Q a w:=wp_region_still_tail n hm hB h
def aC(w:World)(g:Nat)(t:TypeId)(cs:Array Value):Prop:=w.heap[g]? =some (.cells cs t (0,0))
section
variable {w w':World}{g:Nat}{t:TypeId}{cs:Array Value}
def aC.lt(h:aC w g t cs):g<w.heap.size:=by
 rcases dY g w.heap.size with hlt|hge
 ·exact hlt
 ·unfold aC at h;rw [yC hge] at h;cases h
def aC.cell(h:aC w g t cs)(i:Nat):w.cell? ⟨g,i,none⟩=cs[i]? :=z7 w g i cs t (0,0) h
def aC.frozen(h:aC w g t cs)(i:Nat):w.frozen? ⟨g,i,none⟩=false:=by unfold aC at h;simp [World.frozen?,h]
def aC.new(w:World)(t:TypeId)(cs:Array Value):aC (w.alloc (.cells cs t)) w.heap.size t cs:=xn w _
def aC.alloc(h:aC w g t cs)(o:Obj):aC (w.alloc o) g t cs:=(Ku w o g h.lt).trans h
def aC.sr(h:aC w g t cs)(i:Nat)(u:Value):aC (w.setCell ⟨g,i,none⟩ u) g t (cs.setIfInBounds i u):=by unfold aC at h ⊢;simp [World.setCell,G9,h]
def aC.far(h:aC w g t cs){p:Addr}(hp:g≠p.block)(u:Value):aC (w.setCell p u) g t cs:=(Below.heap_setCell w p u g hp).trans h
def aC.below{B:Nat}(h:aC w g t cs)(hb:Below B w w')(hg:g<B):aC w' g t cs:=(hb.block g hg).trans h
def aC.grown{row:Option Nat}(h:aC w g t cs)(hb:w.grownBy w' row)(hg:some g≠row):aC w' g t cs:=(hb.block g h.lt hg).trans h
end
def aDz{P:Program}{fn:Func}{p:Tmp}{ty:TypeId}(h:fn.results= #[.cell p ty])(tmps:Array Value)(w:World){g:Nat}{t:TypeId}{cs:Array Value}(d:TypeDesc)
  (hp:tmps.getD p undef= .pointer (some ⟨g,0,none⟩)) (hg:aC w g t cs) (hu:P.underlying ty=some d) (hd:(match d with| .struct _| .array _ _=>true|_=>false)=true) (hi:(P.info? ty).map (·.size)=some cs.size) :
  (results fn tmps).run P w= .ok (.agg cs) w:=results_cell_row h tmps w g t cs (0,0) d hp hg hu hd hi
end
section
open Go.RowKit
class GC where
 inv:World->Prop
 ng:Nat
 keep: ∀{w w':World},(∀k,k<ng->w'.heap[k]? =w.heap[k]?)->inv w->inv w'
section
variable [GC]
def NG:Nat:=GC.ng
def mT(w:World):Prop:=GC.inv w
def mT.keep{w w':World}(h: ∀k,k<NG->w'.heap[k]? =w.heap[k]?)(hw:mT w):mT w':=GC.keep h hw
end
def lV(w:World)(g:Nat)(p:Array Value->Prop):Prop:= ∃cs t f,w.heap[g]? =some (.cells cs t f)/\p cs
def lV.keep{w w':World}{g n:Nat}{p:Array Value->Prop}(hg:g<n)(h: ∀k,k<n->w'.heap[k]? =w.heap[k]?)(hh:lV w g p):lV w' g p:=by obtain ⟨cs,t,f,h1,h2⟩:=hh;exact ⟨cs,t,f,by rw [h g hg];exact h1,h2⟩
inductive D where
 | bool (b:Bool)
 | int (k:IntKind) (n:Int)
 | str (s:ByteArray)
 | agg (l:List D)
 | aL (l:List D)
 | sl (rows:List (List D))
 | mem (n:Nat)
 | fn (f:Nat) (jQ:List (List D))
 | un
instance :Inhabited D:=⟨.un⟩
mutual
def R(w:World)(M:Addr->Prop):D->Value->Prop
 | .bool b,v=>v= .bool b
 | .int k n,v=>v= .int k n/\k.min<=n/\n<=k.max
 | .str s,v=>v= .string s/\s.size<=maxLen
 | .agg l,v=> ∃cs:Array Value,v= .agg cs/\Rs w M l cs.toList
 | .aL l,v=> ∃cs:Array Value,v= .tuple cs/\Rs w M l cs.toList
 | .sl rows,v=> ∃a len cap,v= .slice a len cap/\len=rows.length/\len<=cap/\cap<=maxLen/\(a=none->cap=0) /\
   ∀b o s,a=some ⟨b,o,s⟩->(0<len->s=none)/\iU w M rows b o
 | .mem n,v=> ∃a cap,v= .slice a n cap/\n<=cap/\cap<=maxLen/\(a=none->cap=0)/\ ∀b o s,a=some ⟨b,o,s⟩->0<n->s=none
 | .fn f jQ,v=> ∃ps:Array Value,v= .func (.func f) #[] ps/\vJ w M jQ ps.toList
 | .un,_=>False
def Rs(w:World)(M:Addr->Prop):List D->List Value->Prop
 | [],vs=>vs=[]
 | d::l,vs=> ∃v r,vs=v::r/\R w M d v/\Rs w M l r
def Rw(w:World)(M:Addr->Prop):List D->Nat->Nat->Prop
 | [],_,_=>True
 | d::l,b,o=>(∃v,w.cell? ⟨b,o,none⟩=some v/\ ¬M ⟨b,o,none⟩/\R w M d v)/\Rw w M l b (o+1)
def iU(w:World)(M:Addr->Prop):List (List D)->Nat->Nat->Prop
 | [],_,_=>True
 | r::l,b,o=>Rw w M r b o/\iU w M l b (o+r.length)
def vJ(w:World)(M:Addr->Prop):List (List D)->List Value->Prop
 | [],vs=>vs=[]
 | r::l,vs=> ∃b q,vs= .pointer (some ⟨b,0,none⟩)::q/\Rw w M r b 0/\vJ w M l q
end
def bY(w:World)(M:Addr->Prop)(w':World)(M':Addr->Prop):Prop:= ∀p v,w.cell? p=some v-> ¬M p->w'.cell? p=some v/\ ¬M' p
section
variable {w w':World}{M M':Addr->Prop}
mutual
def R.keep(h:bY w M w' M'): ∀(d:D) (v:Value),R w M d v->R w' M' d v
 | .bool _,_,hr=>hr
 | .int _ _,_,hr=>hr
 | .str _,_,hr=>hr
 | .agg l,v,⟨cs,e,hr⟩=>⟨cs,e,Rs.keep h l _ hr⟩
 | .aL l,v,⟨cs,e,hr⟩=>⟨cs,e,Rs.keep h l _ hr⟩
 | .sl rows,v,⟨a,len,cap,e,h1,h2,h3,h4,h5⟩=>⟨a,len,cap,e,h1,h2,h3,h4,fun b o s ha=>⟨(h5 b o s ha).1,iU.keep h rows b o (h5 b o s ha).2⟩⟩
 | .mem _,_,hr=>hr
 | .fn _ jQ,v,⟨ps,e,hr⟩=>⟨ps,e,vJ.keep h jQ _ hr⟩
 | .un,_,hr=>hr
def Rs.keep(h:bY w M w' M'): ∀(l:List D) (vs:List Value),Rs w M l vs->Rs w' M' l vs
 | [],_,hr=>hr
 | d::l,vs,⟨v,r,e,h1,h2⟩=>⟨v,r,e,R.keep h d v h1,Rs.keep h l r h2⟩
def Rw.keep(h:bY w M w' M'): ∀(l:List D) (b o:Nat),Rw w M l b o->Rw w' M' l b o
 | [],_,_,_=>trivial
 | d::l,b,o,⟨⟨v,h1,h2,h3⟩,h4⟩=>⟨⟨v,(h _ _ h1 h2).1,(h _ _ h1 h2).2,R.keep h d v h3⟩,Rw.keep h l b (o+1) h4⟩
def iU.keep(h:bY w M w' M'): ∀(l:List (List D)) (b o:Nat),iU w M l b o->iU w' M' l b o
 | [],_,_,_=>trivial
 | r::l,b,o,⟨h1,h2⟩=>⟨Rw.keep h r b o h1,iU.keep h l b (o+r.length) h2⟩
def vJ.keep(h:bY w M w' M'): ∀(l:List (List D)) (vs:List Value),vJ w M l vs->vJ w' M' l vs
 | [],_,hr=>hr
 | r::l,vs,⟨b,q,e,h1,h2⟩=>⟨b,q,e,Rw.keep h r b 0 h1,vJ.keep h l q h2⟩
end
def vJ.snoc{r:List D}{b:Nat}(h:Rw w M r b 0): ∀{l:List (List D)} {vs:List Value},vJ w M l vs->vJ w M (l++[r]) (vs++[.pointer (some ⟨b,0,none⟩)])
 | [],_,hr=>by subst hr;exact ⟨b,[],rfl,h,rfl⟩
 | r'::l,vs,⟨b',q,e,h1,h2⟩=>by subst e;exact ⟨b',q++[_],rfl,h1,vJ.snoc h h2⟩
def Rs.length: ∀{l:List D} {vs:List Value},Rs w M l vs->vs.length=l.length
 | [],_,h=>by subst h;rfl
 | d::l,vs,⟨v,r,e,h1,h2⟩=>by subst e;simp [Rs.length h2]
def Rs.get: ∀{l:List D} {vs:List Value},Rs w M l vs-> ∀{i:Nat} {d:D},l[i]? =some d-> ∃v,vs[i]? =some v/\R w M d v
 | [],_,_,i,d,hd=>by simp at hd
 | d::l,vs,⟨v,r,e,h1,h2⟩,0,d',hd=>by subst e;simp at hd;subst hd;exact ⟨v,rfl,h1⟩
 | d::l,vs,⟨v,r,e,h1,h2⟩,i+1,d',hd=>by subst e;simp at hd;obtain ⟨u,hu,hr⟩:=Rs.get h2 hd;exact ⟨u,by simpa using hu,hr⟩
def Rs.append: ∀{l l':List D} {vs vs':List Value},Rs w M l vs->Rs w M l' vs'->Rs w M (l++l') (vs++vs')
 | [],_,_,_,h,h'=>by subst h;simpa using h'
 | d::l,_,vs,vs',⟨v,r,e,h1,h2⟩,h'=>by subst e;exact ⟨v,r++vs',rfl,h1,Rs.append h2 h'⟩
def Rs.drop: ∀{l:List D} {vs:List Value},Rs w M l vs-> ∀n,Rs w M (l.drop n) (vs.drop n)
 | _,_,h,0=>by simpa using h
 | [],_,h,n+1=>by subst h;simp [Rs]
 | d::l,vs,⟨v,r,e,h1,h2⟩,n+1=>by subst e;simpa using Rs.drop h2 n
def Rs.take: ∀{l:List D} {vs:List Value},Rs w M l vs-> ∀n,Rs w M (l.take n) (vs.take n)
 | _,_,h,0=>by simp [Rs]
 | [],_,h,n+1=>by subst h;simp [Rs]
 | d::l,vs,⟨v,r,e,h1,h2⟩,n+1=>by subst e;exact ⟨v,r.take n,by simp,h1,Rs.take h2 n⟩
def Rs.one{d:D}{v:Value}(h:R w M d v):Rs w M [d] [v]:=⟨v,[],rfl,h,rfl⟩
def Rw.get: ∀{l:List D} {b o:Nat},Rw w M l b o-> ∀{i:Nat} {d:D},l[i]? =some d-> ∃v,w.cell? ⟨b,o+i,none⟩=some v/\ ¬M ⟨b,o+i,none⟩/\R w M d v
 | [],_,_,_,i,d,hd=>by simp at hd
 | d::l,b,o,⟨h1,h2⟩,0,d',hd=>by simp at hd;subst hd;simpa using h1
 | d::l,b,o,⟨h1,h2⟩,i+1,d',hd=>by
  simp at hd;have:=Rw.get h2 hd
  rwa [show o+1+i=o+(i+1) by omega] at this
def Rw.drop: ∀{l:List D} {b o:Nat},Rw w M l b o-> ∀n,Rw w M (l.drop n) b (o+n)
 | _,_,_,h,0=>by simpa using h
 | [],_,_,h,n+1=>by simp [Rw]
 | d::l,b,o,⟨h1,h2⟩,n+1=>by have:=Rw.drop h2 n;simpa [zX,Ck 1 n] using this
def Rw.take: ∀{l:List D} {b o:Nat},Rw w M l b o-> ∀n,Rw w M (l.take n) b o
 | _,_,_,h,0=>by simp [Rw]
 | [],_,_,h,n+1=>by simp [Rw]
 | d::l,b,o,⟨h1,h2⟩,n+1=>⟨h1,Rw.take h2 n⟩
def G6: ∀{l:List D} {b o:Nat},(∀i d,l[i]? =some d-> ∃v,w.cell? ⟨b,o+i,none⟩=some v/\ ¬M ⟨b,o+i,none⟩/\R w M d v)->Rw w M l b o
 | [],_,_,_=>trivial
 | d::l,b,o,h=>⟨by simpa using h 0 d rfl,G6 fun i d' hd=>by
   have:=h (i+1) d' (by simpa using hd)
   rwa [show o+(i+1)=o+1+i by omega] at this⟩
def Rw.cells: ∀{l:List D} {b o:Nat},Rw w M l b o-> ∃vs:List Value,vs.length=l.length/\Rs w M l vs/\ ∀i u,vs[i]? =some u->w.cell? ⟨b,o+i,none⟩=some u
 | [],_,_,_=>⟨[],rfl,rfl,fun i u h=>by simp at h⟩
 | d::l,b,o,⟨⟨v,h1,h2,h3⟩,h4⟩=>by
  obtain ⟨vs,e,hr,hc⟩:=Rw.cells h4;refine ⟨v::vs,by simp [e],⟨v,vs,rfl,h3,hr⟩,fun i u hu=> ?_⟩;cases i with
  | zero=>simp at hu;subst hu;simpa using h1
  | succ i=>simp at hu;have:=hc i u hu;rwa [show o+1+i=o+(i+1) by omega] at this
def iU.get{n:Nat}: ∀{rows:List (List D)} {b o:Nat},iU w M rows b o->(∀r∈rows,r.length=n)-> ∀{i:Nat} {r:List D},rows[i]? =some r->Rw w M r b (o+i*n)
 | [],_,_,_,_,i,r,hr=>by simp at hr
 | r::l,b,o,⟨h1,h2⟩,hn,0,r',hr=>by simp at hr;subst hr;simpa using h1
 | r::l,b,o,⟨h1,h2⟩,hn,i+1,r',hr=>by
  simp at hr;have e:=hn r (by simp);have:=iU.get h2 (fun x hx=>hn x (by simp [hx])) hr;rw [e] at this
  rwa [show o+n+i*n=o+(i+1)*n by rw [jO];omega] at this
def B6{n:Nat}: ∀{rows:List (List D)} {b o:Nat},(∀r∈rows,r.length=n)->(∀i r,rows[i]? =some r->Rw w M r b (o+i*n))->iU w M rows b o
 | [],_,_,_,_=>trivial
 | r::l,b,o,hn,h=>⟨by simpa using h 0 r rfl,B6 (fun x hx=>hn x (by simp [hx])) fun i r' hr=>by
   have:=h (i+1) r' (by simpa using hr);rw [hn r (by simp)]
   rwa [show o+(i+1)*n=o+n+i*n by rw [jO];omega] at this⟩
end
section
variable [GC]
def fN(w:World)(M:Addr->Prop):Prop:=(∀p,M p->p.block<w.heap.size)/\mT w/\NG<=w.heap.size
def fN.below{w w':World}{M M':Addr->Prop}(h:fN w M)(hb:Below w.heap.size w w')(hM: ∀p,M' p->p.block<w'.heap.size):fN w' M' :=
 ⟨hM,h.2.1.keep fun k hk=>hb.block k (dm hk h.2.2),dq h.2.2 hb.size⟩
end
def bY.below{w w':World}{M M':Addr->Prop}(hb:Below w.heap.size w w')(hM: ∀p,p.block<w.heap.size->M' p->M p):bY w M w' M' :=
 fun p v hp hm=>⟨by rw [hb.cell (gR hp)];exact hp,fun h=>hm (hM p (gR hp) h)⟩
inductive CT where
 | bool|int (k:IntKind)|str|sl (e:Nat)|mem|fn
 deriving DecidableEq
mutual
def cD(tab:Nat->List CT):CT->D->Prop
 | .bool,.bool _=>True
 | .int k,.int k' _=>k=k'
 | .str,.str _=>True
 | .sl e,.sl rows=>cN tab (tab e) rows
 | .mem,.mem _=>True
 | .fn,.fn _ _=>True
 | _,_=>False
def br(tab:Nat->List CT):List CT->List D->Prop
 | [],[]=>True
 | t::ts,d::ds=>cD tab t d/\br tab ts ds
 | _,_=>False
def cN(tab:Nat->List CT):List CT->List (List D)->Prop
 | _,[]=>True
 | ts,r::rs=>br tab ts r/\cN tab ts rs
end
def br.length{tab:Nat->List CT}: ∀{ts:List CT} {l:List D},br tab ts l->l.length=ts.length
 | [],[],_=>rfl
 | t::ts,d::ds,h=>by simp [br] at h;simp [br.length h.2]
 | [],_::_,h=>by simp [br] at h
 | _::_,[],h=>by simp [br] at h
def cN.mem{tab:Nat->List CT}{ts:List CT}: ∀{rows:List (List D)},cN tab ts rows-> ∀r∈rows,br tab ts r
 | [],_,r,hr=>by simp at hr
 | r::l,h,r',hr=>by
  simp [cN] at h;rcases fJ.1 hr with e|e
  ·subst e;exact h.1
  ·exact cN.mem h.2 r' e
def ud{tab:Nat->List CT}{ts:List CT}: ∀{rows:List (List D)},(∀r∈rows,br tab ts r)->cN tab ts rows
 | [],_=>by simp [cN]
 | r::l,h=>by simp only [cN];exact ⟨h r (by simp),ud fun x hx=>h x (by simp [hx])⟩
def cN.len{tab:Nat->List CT}{ts:List CT}{rows:List (List D)}(h:cN tab ts rows): ∀r∈rows,r.length=ts.length:=fun r hr=>(h.mem r hr).length
def br.get{tab:Nat->List CT}: ∀{ts:List CT} {l:List D},br tab ts l-> ∀{i:Nat} {t:CT},ts[i]? =some t-> ∃d,l[i]? =some d/\cD tab t d
 | [],_,_,i,t,ht=>by simp at ht
 | t::ts,d::ds,h,0,t',ht=>by simp [br] at h;simp at ht;subst ht;exact ⟨d,rfl,h.1⟩
 | t::ts,d::ds,h,i+1,t',ht=>by simp [br] at h;simp at ht;obtain ⟨x,hx,h2⟩:=br.get h.2 ht;exact ⟨x,by simpa using hx,h2⟩
 | _::_,[],h,_,_,_=>by simp [br] at h
def br.append{tab:Nat->List CT}: ∀{ts ts':List CT} {l l':List D},br tab ts l->br tab ts' l'->br tab (ts++ts') (l++l')
 | [],_,[],_,_,h'=>by simpa using h'
 | t::ts,_,d::ds,_,h,h'=>by simp [br] at h;simp only [iH,br];exact ⟨h.1,br.append h.2 h'⟩
 | [],_,_::_,_,h,_=>by simp [br] at h
 | _::_,_,[],_,h,_=>by simp [br] at h
def br.drop{tab:Nat->List CT}: ∀{ts:List CT} {l:List D},br tab ts l-> ∀n,br tab (ts.drop n) (l.drop n)
 | _,_,h,0=>by simpa using h
 | [],[],h,n+1=>by simp [br]
 | t::ts,d::ds,h,n+1=>by simp [br] at h;simpa using br.drop h.2 n
 | [],_::_,h,_+1=>by simp [br] at h
 | _::_,[],h,_+1=>by simp [br] at h
def br.take{tab:Nat->List CT}: ∀{ts:List CT} {l:List D},br tab ts l-> ∀n,br tab (ts.take n) (l.take n)
 | _,_,h,0=>by simp [br]
 | [],[],h,n+1=>by simp [br]
 | t::ts,d::ds,h,n+1=>by simp [br] at h;simp only [PY,br];exact ⟨h.1,br.take h.2 n⟩
 | [],_::_,h,_+1=>by simp [br] at h
 | _::_,[],h,_+1=>by simp [br] at h
mutual
def Fits:D->Prop
 | .int k n=>k.min<=n/\n<=k.max
 | .str s=>s.size<=maxLen
 | .agg l=>dW l
 | .aL l=>dW l
 | .sl rows=>rows.length<=maxLen/\Kf rows
 | _=>True
def dW:List D->Prop
 | []=>True
 | d::l=>Fits d/\dW l
def Kf:List (List D)->Prop
 | []=>True
 | r::l=>dW r/\Kf l
end
section
variable {w:World}{M:Addr->Prop}
mutual
def Kl: ∀(d:D) (v:Value),R w M d v->Fits d
 | .bool _,_,_=>trivial
 | .int _ _,_,h=>h.2
 | .str _,_,h=>h.2
 | .agg l,v,⟨cs,e,hr⟩=>Km l _ hr
 | .aL l,v,⟨cs,e,hr⟩=>Km l _ hr
 | .sl rows,v,⟨a,len,cap,e,h1,h2,h3,h4,h5⟩=>⟨by omega,by
   rcases a with _|⟨b,o,s⟩
   ·have:rows=[]:=oR (by have:=h4 rfl;omega);subst this;trivial
   ·exact aeG rows b o (h5 b o s rfl).2⟩
 | .mem _,_,_=>trivial
 | .fn _ _,_,_=>trivial
 | .un,_,h=>h.elim
def Km: ∀(l:List D) (vs:List Value),Rs w M l vs->dW l
 | [],_,_=>trivial
 | d::l,vs,⟨v,r,e,h1,h2⟩=>⟨Kl d v h1,Km l r h2⟩
def aeF: ∀(l:List D) (b o:Nat),Rw w M l b o->dW l
 | [],_,_,_=>trivial
 | d::l,b,o,⟨⟨v,h1,h2,h3⟩,h4⟩=>⟨Kl d v h3,aeF l b (o+1) h4⟩
def aeG: ∀(l:List (List D)) (b o:Nat),iU w M l b o->Kf l
 | [],_,_,_=>trivial
 | r::l,b,o,⟨h1,h2⟩=>⟨aeF r b o h1,aeG l b (o+r.length) h2⟩
end
end
def D.eT:D->Int| .int _ n=>n|_=>0
def D.jZ:D->Bool| .bool b=>b|_=>false
def D.Bq:D->ByteArray| .str s=>s|_=> .empty
def D.mQ:D->List D| .agg l=>l|_=>[]
def D.UH:D->List D| .aL l=>l|_=>[]
def D.tN:D->List (List D)| .sl r=>r|_=>[]
@[simp] def iF (k:IntKind) (n:Int):(D.int k n).eT=n:=rfl
@[simp] def BR (b:Bool):(D.bool b).jZ=b:=rfl
@[simp] def xe (s:ByteArray):(D.str s).Bq=s:=rfl
@[simp] def pQ (l:List D):(D.agg l).mQ=l:=rfl
@[simp] def asJ (l:List D):(D.aL l).UH=l:=rfl
@[simp] def Ke (l:List (List D)):(D.sl l).tN=l:=rfl
def fW:CT->D
 | .bool=> .bool false| .int k=> .int k 0| .str=> .str .empty| .sl _=> .sl []| .mem=> .mem 0| .fn=> .fn 0 []
def dL:D->Int
 | .str s=>s.size
 | .sl r=>r.length
 | .mem n=>n
 | _=>0
def dJ(op:BinOp)(k:IntKind)(x y:Int):Int :=
 match op with
 | .add=>k.wrap (x+y)| .sub=>k.wrap (x-y)| .mul=>k.wrap (x*y)
 | .quo=>k.wrap (x.tdiv y)| .rem=>x.tmod y
 | .and=>k.wrap (BitVec.ofInt k.bits x &&& BitVec.ofInt k.bits y).toNat
 | .or=>k.wrap (BitVec.ofInt k.bits x ||| BitVec.ofInt k.bits y).toNat
 | .xor=>k.wrap (BitVec.ofInt k.bits x ^^^ BitVec.ofInt k.bits y).toNat
 | .andNot=>k.wrap (BitVec.ofInt k.bits x &&& ~~~(BitVec.ofInt k.bits y)).toNat
 | .shl=>k.wrap (x*2^(min y.toNat k.bits))
 | .shr=>x.fdiv (2^(min y.toNat k.bits))
 | _=>0
def ba(op:BinOp)(x y:Int):Bool :=
 match op with
 | .eql=>x==y| .neq=>x != y| .lss=>decide (x<y)| .leq=>decide (x<=y)| .gtr=>decide (x>y)| .geq=>decide (x>=y)
 | _=>false
def iK(op:BinOp)(x y:ByteArray):Bool :=
 match op with
 | .eql=>x.toList==y.toList| .neq=> !(x.toList==y.toList)
 | .lss=>Op.bytesLess x.toList y.toList
 | .leq=>Op.bytesLess x.toList y.toList||x.toList==y.toList
 | .gtr=> !(Op.bytesLess x.toList y.toList||x.toList==y.toList)
 | .geq=> !Op.bytesLess x.toList y.toList
 | _=>false
def qI(d:D)(lo hi:Int):D :=
 match d with
 | .str s=> .str (s.extract lo.toNat hi.toNat)
 | .sl r=> .sl ((r.drop lo.toNat).take (hi.toNat-lo.toNat))
 | _=> .un
def IC:D->D->Bool
 | .bool a,.bool b=>a==b
 | .int _ a,.int _ b=>a==b
 | .str a,.str b=>a.toList==b.toList
 | _,_=>false
def lZ:List D->List D->Bool
 | [],[]=>true
 | a::l,b::r=>IC a b&&lZ l r
 | _,_=>false
def K6(d:D):ByteArray:=strOfNums (d.tN.map fun r=>(r.headD .un).eT)
inductive E where
 | var (i:Nat)
 | lb (x:Bool)|li (k:IntKind) (n:Int)|ls (x:ByteArray)|iB (e:Nat)
 | ar (op:BinOp) (k:IntKind) (x y:E)
 | ic (op:BinOp) (x y:E)
 | sc (op:BinOp) (x y:E)
 | iD (x y:E)|jD (x y:E)
 | bc (x y:E)
 | ae (x y:E)
 | no (x:E)
 | an (x y:E)|or (x y:E)
 | conv (k:IntKind) (x:E)
 | len (x:E)
 | HZ (x:E)
 | ite (c x y:E)
 | row (ts:List CT) (x i:E)
 | at (x i:E)
 | cell (x:E) (j:Nat)
 | sub (x:E) (j n:Nat)
 | proj (x:E) (j:Nat)
 | Es|aj (x:E)|cat (x y:E)
 | yc|aR (x y:E)
 | cut (x lo hi:E)
 | app (x y:E)
 | put (x r:E)
 | dE (x i:E)
 | inc (x lo hi:E)
 | few (x y:E)
 | Bo (t:CT) (x i:E)
 | mem (l:E)
 | rep (e:Nat) (ts:List CT) (n:E)
 | bF (x i r:E) (off:Nat)
 | fn0 (f:Nat)
 | RG (x r:E)
 deriving DecidableEq
def xX{α:Type}:List α->Nat->List α->List α
 | cs,_,[]=>cs
 | cs,off,x::r=>xX (cs.set off x) (off+1) r
def yf(rows:List (List D))(i off:Nat)(l:List D):List (List D):=rows.set i (xX (rows.getD i []) off l)
def aeP:D->D->D
 | .fn f jQ,r=> .fn f (jQ++[r.mQ])
 | _,_=> .un
def E.den(env:List D):E->D
 | .fn0 f=> .fn f []
 | .RG x r=>aeP (x.den env) (r.den env)
 | .mem l=> .mem (l.den env).eT.toNat
 | .rep _ ts n=> .sl (List.replicate (n.den env).eT.toNat (ts.map fW))
 | .bF x i r off=> .sl (yf (x.den env).tN (i.den env).eT.toNat off (r.den env).mQ)
 | .Bo t x i=>((x.den env).mQ[(i.den env).eT.toNat]?).getD (fW t)
 | .var i=>env.getD i .un
 | .lb x=> .bool x| .li k n=> .int k n| .ls x=> .str x| .iB _=> .sl []
 | .ar op k x y=> .int k (dJ op k (x.den env).eT (y.den env).eT)
 | .ic op x y=> .bool (ba op (x.den env).eT (y.den env).eT)
 | .sc op x y=> .bool (iK op (x.den env).Bq (y.den env).Bq)
 | .iD x y=> .str ((x.den env).Bq++(y.den env).Bq)
 | .jD x y=> .bool (decide ((x.den env).Bq.size+(y.den env).Bq.size<=maxLen))
 | .bc x y=> .bool ((x.den env).jZ==(y.den env).jZ)
 | .ae x y=> .bool (lZ (x.den env).mQ (y.den env).mQ)
 | .no x=> .bool (!(x.den env).jZ)
 | .an x y=> .bool ((x.den env).jZ&&(y.den env).jZ)
 | .or x y=> .bool ((x.den env).jZ||(y.den env).jZ)
 | .conv k x=> .int k (k.wrap (x.den env).eT)
 | .len x=> .int .i64 (dL (x.den env))
 | .HZ x=> .str (K6 (x.den env))
 | .ite c x y=>bif (c.den env).jZ then x.den env else y.den env
 | .row ts x i=> .agg (((x.den env).tN[(i.den env).eT.toNat]?).getD (ts.map fW))
 | .at x i=> .int .u8 ((((x.den env).Bq[(i.den env).eT.toNat]?).map (fun (c:UInt8)=>(c.toNat:Int))).getD 0)
 | .cell x j=>(x.den env).mQ.getD j .un
 | .sub x j n=> .agg (((x.den env).mQ.drop j).take n)
 | .proj x j=>(x.den env).UH.getD j .un
 | .Es=> .agg []
 | .aj x=> .agg [x.den env]
 | .cat x y=> .agg ((x.den env).mQ++(y.den env).mQ)
 | .yc=> .aL []
 | .aR x y=> .aL ((x.den env).UH++[y.den env])
 | .cut x lo hi=>qI (x.den env) (lo.den env).eT (hi.den env).eT
 | .app x y=> .sl ((x.den env).tN++(y.den env).tN)
 | .put x r=> .sl ((x.den env).tN++[(r.den env).mQ])
 | .dE x i=> .bool (decide (0<=(i.den env).eT/\(i.den env).eT<dL (x.den env)))
 | .inc x lo hi=> .bool (decide (0<=(lo.den env).eT/\(lo.den env).eT<=(hi.den env).eT/\(hi.den env).eT<=dL (x.den env)))
 | .few x y=> .bool (decide ((x.den env).tN.length+(y.den env).tN.length<=4294967296))
inductive V1 where
 | c (t:CT)|agg (l:List CT)
 deriving DecidableEq
inductive VT where
 | one (v:V1)|aL (l:List V1)
 deriving DecidableEq
def V1.cells:V1->List CT| .c t=>[t]| .agg l=>l
def db(tab:Nat->List CT):V1->D->Prop
 | .c t,d=>cD tab t d
 | .agg ts,.agg l=>br tab ts l
 | .agg _,_=>False
def kH(tab:Nat->List CT):List V1->List D->Prop
 | [],[]=>True
 | v::vs,d::ds=>db tab v d/\kH tab vs ds
 | _,_=>False
def bA(tab:Nat->List CT):VT->D->Prop
 | .one v,d=>db tab v d
 | .aL vs,.aL l=>kH tab vs l
 | .aL _,_=>False
def kH.get{tab:Nat->List CT}: ∀{vs:List V1} {l:List D},kH tab vs l-> ∀{i:Nat} {v:V1},vs[i]? =some v-> ∃d,l[i]? =some d/\db tab v d
 | [],_,_,i,t,ht=>by simp at ht
 | t::ts,d::ds,h,0,t',ht=>by simp [kH] at h;simp at ht;subst ht;exact ⟨d,rfl,h.1⟩
 | t::ts,d::ds,h,i+1,t',ht=>by simp [kH] at h;simp at ht;obtain ⟨x,hx,h2⟩:=kH.get h.2 ht;exact ⟨x,by simpa using hx,h2⟩
 | _::_,[],h,_,_,_=>by simp [kH] at h
def kH.snoc{tab:Nat->List CT}{v:V1}{d:D}(hd:db tab v d): ∀{vs:List V1} {l:List D},kH tab vs l->kH tab (vs++[v]) (l++[d])
 | [],[],_=>by simp [kH,hd]
 | t::ts,e::ds,h=>by simp [kH] at h;simp only [iH,kH];exact ⟨h.1,kH.snoc hd h.2⟩
 | [],_::_,h=>by simp [kH] at h
 | _::_,[],h=>by simp [kH] at h
def isInt:Option VT->Option IntKind
 | some (.one (.c (.int k)))=>some k
 | _=>none
def iO(t:CT)(o:Option VT):Bool:=o==some (.one (.c t))
def E.inf(tab:Nat->List CT)(Γ:List VT):E->Option VT
 | .mem l=>if (isInt (l.inf tab Γ)).isSome then some (.one (.c .mem)) else none
 | .fn0 _=>some (.one (.c .fn))
 | .RG x r=>match x.inf tab Γ,r.inf tab Γ with|some (.one (.c .fn)),some (.one (.agg _))=>some (.one (.c .fn))|_,_=>none
 | .rep e ts n=>if tab e=ts/\(isInt (n.inf tab Γ)).isSome then some (.one (.c (.sl e))) else none
 | .bF x i r off=>match x.inf tab Γ,r.inf tab Γ with
  | some (.one (.c (.sl e))),some (.one (.agg us))=>if us=((tab e).drop off).take us.length/\(isInt (i.inf tab Γ)).isSome then some (.one (.c (.sl e))) else none
  | _,_=>none
 | .Bo t x i=>match x.inf tab Γ with|some (.one (.agg ts))=>if ts.all (fun u=>decide (u=t))=true/\(isInt (i.inf tab Γ)).isSome=true then some (.one (.c t)) else none|_=>none
 | .var i=>Γ[i]?
 | .lb _=>some (.one (.c .bool))
 | .li k n=>if k.min<=n/\n<=k.max then some (.one (.c (.int k))) else none
 | .ls x=>if x.size<=maxLen then some (.one (.c .str)) else none
 | .iB e=>some (.one (.c (.sl e)))
 | .ar _ k x y=>if (isInt (x.inf tab Γ)).isSome/\(isInt (y.inf tab Γ)).isSome then some (.one (.c (.int k))) else none
 | .ic _ x y=>if (isInt (x.inf tab Γ)).isSome/\(isInt (y.inf tab Γ)).isSome then some (.one (.c .bool)) else none
 | .sc _ x y=>if iO .str (x.inf tab Γ)/\iO .str (y.inf tab Γ) then some (.one (.c .bool)) else none
 | .iD x y=>if iO .str (x.inf tab Γ)/\iO .str (y.inf tab Γ) then some (.one (.c .str)) else none
 | .jD _ _=>some (.one (.c .bool))
 | .bc x y=>if iO .bool (x.inf tab Γ)/\iO .bool (y.inf tab Γ) then some (.one (.c .bool)) else none
 | .ae _ _=>some (.one (.c .bool))
 | .no x=>if iO .bool (x.inf tab Γ) then some (.one (.c .bool)) else none
 | .an x y| .or x y=>if iO .bool (x.inf tab Γ)/\iO .bool (y.inf tab Γ) then some (.one (.c .bool)) else none
 | .conv k x=>if (isInt (x.inf tab Γ)).isSome then some (.one (.c (.int k))) else none
 | .len x=>match x.inf tab Γ with|some (.one (.c .str))|some (.one (.c (.sl _)))|some (.one (.c .mem))=>some (.one (.c (.int .i64)))|_=>none
 | .HZ x=>match x.inf tab Γ with|some (.one (.c (.sl e)))=>if tab e=[.int .u8] then some (.one (.c .str)) else none|_=>none
 | .ite c x y=>if iO .bool (c.inf tab Γ)/\x.inf tab Γ=y.inf tab Γ then x.inf tab Γ else none
 | .row ts x i=>match x.inf tab Γ with
  | some (.one (.c (.sl e)))=>if tab e=ts/\(isInt (i.inf tab Γ)).isSome then some (.one (.agg ts)) else none
  | _=>none
 | .at x i=>if iO .str (x.inf tab Γ)/\(isInt (i.inf tab Γ)).isSome then some (.one (.c (.int .u8))) else none
 | .cell x j=>match x.inf tab Γ with|some (.one (.agg ts))=>(ts[j]?).map (fun t=> .one (.c t))|_=>none
 | .sub x j n=>match x.inf tab Γ with|some (.one (.agg ts))=>if j+n<=ts.length then some (.one (.agg ((ts.drop j).take n))) else none|_=>none
 | .proj x j=>match x.inf tab Γ with|some (.aL vs)=>(vs[j]?).map .one|_=>none
 | .Es=>some (.one (.agg []))
 | .aj x=>match x.inf tab Γ with|some (.one (.c t))=>some (.one (.agg [t]))|_=>none
 | .cat x y=>match x.inf tab Γ,y.inf tab Γ with|some (.one (.agg a)),some (.one (.agg b))=>some (.one (.agg (a++b)))|_,_=>none
 | .yc=>some (.aL [])
 | .aR x y=>match x.inf tab Γ,y.inf tab Γ with|some (.aL a),some (.one b)=>some (.aL (a++[b]))|_,_=>none
 | .cut x lo hi=>if (isInt (lo.inf tab Γ)).isSome/\(isInt (hi.inf tab Γ)).isSome then
   match x.inf tab Γ with|some (.one (.c .str))=>some (.one (.c .str))|some (.one (.c (.sl e)))=>some (.one (.c (.sl e)))|_=>none
  else none
 | .app x y=>match x.inf tab Γ,y.inf tab Γ with|some (.one (.c (.sl e))),some (.one (.c (.sl f)))=>if e=f then some (.one (.c (.sl e))) else none|_,_=>none
 | .put x r=>match x.inf tab Γ,r.inf tab Γ with|some (.one (.c (.sl e))),some (.one (.agg ts))=>if tab e=ts then some (.one (.c (.sl e))) else none|_,_=>none
 | .dE _ _| .inc _ _ _| .few _ _=>some (.one (.c .bool))
def cq(tab:Nat->List CT)(Γ:List VT)(env:List D):Prop:= ∀(i:Nat) (t:VT),Γ[i]? =some t->bA tab t (env.getD i .un)
def aef{tab:Nat->List CT}: ∀ts:List CT,br tab ts (ts.map fW)
 | []=>by simp [br]
 | t::ts=>by simp only [kU,br];refine ⟨?_,aef ts⟩;cases t<;>simp [fW,cD,cN]
def Av{tab:Nat->List CT}{k:IntKind}{d:D}(h:cD tab (.int k) d): ∃n,d= .int k n:=by cases d<;>simp [cD] at h;subst h;exact ⟨_,rfl⟩
def yU{tab:Nat->List CT}{d:D}(h:cD tab .bool d): ∃b,d= .bool b:=by cases d<;>simp [cD] at h;exact ⟨_,rfl⟩
def Fs{tab:Nat->List CT}{d:D}(h:cD tab .str d): ∃s,d= .str s:=by cases d<;>simp [cD] at h;exact ⟨_,rfl⟩
def RU{tab:Nat->List CT}{d:D}(h:cD tab .fn d): ∃f jQ,d= .fn f jQ:=by cases d<;>simp [cD] at h;exact ⟨_,_,rfl⟩
def wy{tab:Nat->List CT}{e:Nat}{d:D}(h:cD tab (.sl e) d): ∃r,d= .sl r/\cN tab (tab e) r:=by cases d<;>simp [cD] at h;exact ⟨_,rfl,h⟩
def lO{tab:Nat->List CT}{ts:List CT}{d:D}(h:db tab (.agg ts) d): ∃l,d= .agg l/\br tab ts l:=by cases d<;>simp [db] at h;exact ⟨_,rfl,h⟩
def Zz{tab:Nat->List CT}{vs:List V1}{d:D}(h:bA tab (.aL vs) d): ∃l,d= .aL l/\kH tab vs l:=by cases d<;>simp [bA] at h;exact ⟨_,rfl,h⟩
def CS{o:Option VT}(h:(isInt o).isSome=true): ∃k,o=some (.one (.c (.int k))):=by
 unfold isInt at h;split at h
 ·exact ⟨_,rfl⟩
 ·simp at h
def wH{t:CT}{o:Option VT}(h:iO t o=true):o=some (.one (.c t)):=by simpa [iO] using h
def aIn(tab:Nat->List CT)(t:CT):cD tab t (fW t):=by cases t<;>simp [fW,cD,cN]
def ak3{tab:Nat->List CT}: ∀{ts:List CT} {l:List D},l.length=ts.length->(∀(i:Nat) (t:CT) (d:D),ts[i]? =some t->l[i]? =some d->cD tab t d)->br tab ts l
 | [],[],_,_=>by simp [br]
 | t::ts,d::ds,hl,h=>by simp only [br];exact ⟨h 0 t d rfl rfl,ak3 (by simpa using hl) fun i t' d' h1 h2=>h (i+1) t' d' (by simpa using h1) (by simpa using h2)⟩
 | [],_::_,h,_=>by simp at h
 | _::_,[],h,_=>by simp at h
def Tu{α:Type}: ∀(l:List α) (cs:List α) (off:Nat),(xX cs off l).length=cs.length
 | [],_,_=>rfl
 | x::r,cs,off=>by simp [xX,Tu r]
def Um{α:Type}: ∀(l:List α) (cs:List α) (off i:Nat),(xX cs off l)[i]? =if off<=i/\i<off+l.length/\i<cs.length then l[i-off]? else cs[i]?
 | [],cs,off,i=>by simp [xX];omega
 | x::r,cs,off,i=>by
  rw [xX,Um r];simp only [uh,fw,Ew];by_cases e:off=i
  ·subst e;by_cases h:off<cs.length
   ·rw [ak (by omega),aA rfl,aA h,aA (by omega),Nat.sub_self];rfl
   ·rw [ak (by omega),aA rfl,ak h,ak (by omega),nU (by omega)]
  ·rw [ak e];by_cases h:off+1<=i/\i<off+1+r.length/\i<cs.length
   ·rw [aA h,aA (by omega),show i-off=(i-(off+1))+1 by omega];rfl
   ·rw [ak h,ak (by omega)]
def br.get?{tab:Nat->List CT}{ts:List CT}{l:List D}(h:br tab ts l){i:Nat}{t:CT}{d:D}(h1:ts[i]? =some t)(h2:l[i]? =some d):cD tab t d:=by obtain ⟨d',h3,h4⟩:=h.get h1;rw [h2] at h3;cases h3;exact h4
def aEG{tab:Nat->List CT}{ts us:List CT}{l r:List D}{off:Nat}(hu:us=(ts.drop off).take us.length)(hl:br tab ts l)(hr:br tab us r):br tab ts (xX l off r):=by
 refine ak3 (by rw [Tu,hl.length]) fun i t d h1 h2=> ?_;rw [Um] at h2;split at h2
 ·rename_i h;have:us[i-off]? =some t:=by rw [hu,pV,xm,aA (by rw [<-hr.length];omega),show off+(i-off)=i by omega,h1]
  exact hr.get? this h2
 ·exact hl.get? h1 h2
def aHI{tab:Nat->List CT}{ts us:List CT}{rows:List (List D)}{r:List D}{i off:Nat}(hu:us=(ts.drop off).take us.length)(hl:cN tab ts rows)(hr:br tab us r):cN tab ts (yf rows i off r):=by
 refine ud fun z hz=> ?_;unfold yf at hz;rcases sU hz with h|h
 ·exact hl.mem z h
 ·subst h;by_cases hi:i<rows.length
  ·refine aEG hu (hl.mem _ ?_) hr;simp [List.getD,cO hi]
  ·rw [List.set_eq_of_length_le (by omega)] at hz;exact hl.mem _ hz
def eG{tab:Nat->List CT}{Γ:List VT}{env:List D}(h:cq tab Γ env): ∀(e:E) (t:VT),e.inf tab Γ=some t->bA tab t (e.den env)
 | .Bo c x i,t,ht=>by
  simp only [E.inf] at ht;split at ht
  ·rename_i ts he;split at ht
   ·rename_i hc;simp at ht;subst ht;obtain ⟨l,hl,hlt⟩:=lO (eG h x _ he);simp only [E.den,hl,pQ,bA,db];cases hg:l[(i.den env).eT.toNat]? with
    | none=>exact aIn tab c
    | some d =>
     have hlt2:(i.den env).eT.toNat<ts.length:=by rw [<-hlt.length];exact (dQ.1 hg).1
     obtain ⟨d',hd',hty⟩:=hlt.get (cO hlt2);rw [hg] at hd';cases hd';have:=fO.1 hc.1 _ (vM hlt2);simp at this;rw [this] at hty;exact hty
   ·simp at ht
  ·simp at ht
 | .mem l,t,ht=>by simp [E.inf] at ht;obtain ⟨_,rfl⟩:=ht;simp [E.den,bA,db,cD]
 | .fn0 f,t,ht=>by simp [E.inf] at ht;subst ht;simp [E.den,bA,db,cD]
 | .RG x r,t,ht=>by
  simp only [E.inf] at ht;split at ht
  ·rename_i us hx hr;simp at ht;subst ht;obtain ⟨f,jQ,hf⟩:=RU (eG h x _ hx);simp only [E.den,hf,aeP,bA,db,cD]
  ·simp at ht
 | .rep e ts n,t,ht=>by
  simp only [E.inf] at ht;split at ht
  ·rename_i hc;simp at ht;subst ht;simp only [E.den,bA,db,cD];refine ud fun z hz=> ?_;rw [List.eq_of_mem_replicate hz,hc.1];exact aef _
  ·simp at ht
 | .bF x i r off,t,ht=>by
  simp only [E.inf] at ht;split at ht
  ·rename_i e us hx hr;split at ht
   ·rename_i hc;simp at ht;subst ht;obtain ⟨q,hq,MP⟩:=wy (eG h x _ hx);obtain ⟨l,hl,hlt⟩:=lO (eG h r _ hr);simp only [E.den,hq,hl,Ke,pQ,bA,db,cD];exact aHI hc.1 MP hlt
   ·simp at ht
  ·simp at ht
 | .var i,t,ht=>h i t ht
 | .lb _,t,ht=>by simp [E.inf] at ht;subst ht;simp [E.den,bA,db,cD]
 | .li _ _,t,ht=>by simp [E.inf] at ht;obtain ⟨_,rfl⟩:=ht;simp [E.den,bA,db,cD]
 | .ls _,t,ht=>by simp [E.inf] at ht;obtain ⟨_,rfl⟩:=ht;simp [E.den,bA,db,cD]
 | .iB _,t,ht=>by simp [E.inf] at ht;subst ht;simp [E.den,bA,db,cD,cN]
 | .ar _ _ _ _,t,ht=>by simp [E.inf] at ht;obtain ⟨_,rfl⟩:=ht;simp [E.den,bA,db,cD]
 | .ic _ _ _,t,ht=>by simp [E.inf] at ht;obtain ⟨_,rfl⟩:=ht;simp [E.den,bA,db,cD]
 | .sc _ _ _,t,ht=>by simp [E.inf] at ht;obtain ⟨_,rfl⟩:=ht;simp [E.den,bA,db,cD]
 | .iD _ _,t,ht=>by simp [E.inf] at ht;obtain ⟨_,rfl⟩:=ht;simp [E.den,bA,db,cD]
 | .jD _ _,t,ht=>by simp [E.inf] at ht;subst ht;simp [E.den,bA,db,cD]
 | .bc _ _,t,ht=>by simp [E.inf] at ht;obtain ⟨_,rfl⟩:=ht;simp [E.den,bA,db,cD]
 | .ae _ _,t,ht=>by simp [E.inf] at ht;subst ht;simp [E.den,bA,db,cD]
 | .no _,t,ht=>by simp [E.inf] at ht;obtain ⟨_,rfl⟩:=ht;simp [E.den,bA,db,cD]
 | .an _ _,t,ht=>by simp [E.inf] at ht;obtain ⟨_,rfl⟩:=ht;simp [E.den,bA,db,cD]
 | .or _ _,t,ht=>by simp [E.inf] at ht;obtain ⟨_,rfl⟩:=ht;simp [E.den,bA,db,cD]
 | .conv _ _,t,ht=>by simp [E.inf] at ht;obtain ⟨_,rfl⟩:=ht;simp [E.den,bA,db,cD]
 | .len x,t,ht=>by simp only [E.inf] at ht;split at ht<;>first|(simp at ht;done)|(simp at ht;subst ht;simp [E.den,bA,db,cD])
 | .HZ x,t,ht=>by
  simp only [E.inf] at ht;split at ht
  ·split at ht
   ·simp at ht;subst ht;simp [E.den,bA,db,cD]
   ·simp at ht
  ·simp at ht
 | .ite c x y,t,ht=>by
  simp only [E.inf] at ht;split at ht
  ·rename_i hc;have h1:=eG h x t ht;have h2:=eG h y t (hc.2▸ht);simp only [E.den];cases (c.den env).jZ<;>simpa
  ·simp at ht
 | .row ts x i,t,ht=>by
  simp only [E.inf] at ht;split at ht
  ·rename_i e he;split at ht
   ·rename_i hc;simp at ht;subst ht;have h1:=eG h x _ he;obtain ⟨r,hr,fK⟩:=wy h1;simp only [E.den,hr,Ke,bA,db];rw [<-hc.1];cases hg:r[(i.den env).eT.toNat]? with
    | none=>simp;exact aef _
    | some z=>simp;exact fK.mem z (kV hg)
   ·simp at ht
  ·simp at ht
 | .at _ _,t,ht=>by simp [E.inf] at ht;obtain ⟨_,rfl⟩:=ht;simp [E.den,bA,db,cD]
 | .cell x j,t,ht=>by
  simp only [E.inf] at ht;split at ht
  ·rename_i ts he;simp at ht;obtain ⟨c,hc,rfl⟩:=ht;obtain ⟨l,hl,hlt⟩:=lO (eG h x _ he);obtain ⟨d,hd,ZF⟩:=hlt.get hc;simp [E.den,hl,List.getD,hd,bA,db,ZF]
  ·simp at ht
 | .sub x j n,t,ht=>by
  simp only [E.inf] at ht;split at ht
  ·rename_i ts he;split at ht
   ·simp at ht;subst ht;obtain ⟨l,hl,hlt⟩:=lO (eG h x _ he);simp only [E.den,hl,pQ,bA,db];exact (hlt.drop j).take n
   ·simp at ht
  ·simp at ht
 | .proj x j,t,ht=>by
  simp only [E.inf] at ht;split at ht
  ·rename_i vs he;simp at ht;obtain ⟨c,hc,rfl⟩:=ht;obtain ⟨l,hl,hlt⟩:=Zz (eG h x _ he);obtain ⟨d,hd,ZF⟩:=hlt.get hc;simp [E.den,hl,List.getD,hd,bA,ZF]
  ·simp at ht
 | .Es,t,ht=>by simp [E.inf] at ht;subst ht;simp [E.den,bA,db,br]
 | .aj x,t,ht=>by
  simp only [E.inf] at ht;split at ht
  ·rename_i c he;simp at ht;subst ht;have:=eG h x _ he;simp only [E.den,bA,db,br];exact ⟨this,trivial⟩
  ·simp at ht
 | .cat x y,t,ht=>by
  simp only [E.inf] at ht;split at ht
  ·rename_i a b ha hb;simp at ht;subst ht;obtain ⟨l,hl,hlt⟩:=lO (eG h x _ ha);obtain ⟨m,hm,Z0⟩:=lO (eG h y _ hb);simp only [E.den,hl,hm,pQ,bA,db];exact hlt.append Z0
  ·simp at ht
 | .yc,t,ht=>by simp [E.inf] at ht;subst ht;simp [E.den,bA,kH]
 | .aR x y,t,ht=>by
  simp only [E.inf] at ht;split at ht
  ·rename_i a b ha hb;simp at ht;subst ht;obtain ⟨l,hl,hlt⟩:=Zz (eG h x _ ha);have hy:=eG h y _ hb;simp only [E.den,hl,asJ,bA];exact hlt.snoc hy
  ·simp at ht
 | .cut x lo hi,t,ht=>by
  simp only [E.inf] at ht;split at ht
  ·split at ht
   ·rename_i he;simp at ht;subst ht;obtain ⟨s,hs⟩:=Fs (eG h x _ he);simp [E.den,hs,qI,bA,db,cD]
   ·rename_i e he;simp at ht;subst ht;obtain ⟨r,hr,fK⟩:=wy (eG h x _ he);simp only [E.den,hr,qI,bA,db,cD];exact ud fun z hz=>fK.mem z (PT (PU hz))
   ·simp at ht
  ·simp at ht
 | .app x y,t,ht=>by
  simp only [E.inf] at ht;split at ht
  ·rename_i e f he hf;split at ht
   ·rename_i ZN;simp at ht;subst ht;subst ZN;obtain ⟨r,hr,fK⟩:=wy (eG h x _ he);obtain ⟨q,hq,MP⟩:=wy (eG h y _ hf);simp only [E.den,hr,hq,Ke,bA,db,cD];exact ud fun z hz=>(jx.1 hz).elim (fK.mem z) (MP.mem z)
   ·simp at ht
  ·simp at ht
 | .put x r,t,ht=>by
  simp only [E.inf] at ht;split at ht
  ·rename_i e ts he hr;split at ht
   ·rename_i hts;simp at ht;subst ht;subst hts;obtain ⟨q,hq,MP⟩:=wy (eG h x _ he);obtain ⟨l,hl,hlt⟩:=lO (eG h r _ hr);simp only [E.den,hq,hl,Ke,pQ,bA,db,cD];exact ud fun z hz=>(jx.1 hz).elim (MP.mem z) (fun e=>by simp at e;subst e;exact hlt)
   ·simp at ht
  ·simp at ht
 | .dE _ _,t,ht=>by simp [E.inf] at ht;subst ht;simp [E.den,bA,db,cD]
 | .inc _ _ _,t,ht=>by simp [E.inf] at ht;subst ht;simp [E.den,bA,db,cD]
 | .few _ _,t,ht=>by simp [E.inf] at ht;subst ht;simp [E.den,bA,db,cD]
structure TI where
 vt:VT
 fs:List (Nat×Nat)
 bytes:Nat
 eq:Bool:=false
abbrev TB:=List (Nat×TI)
def TB.get:TB->Nat->Option TI
 | [],_=>none
 | (t,i)::r,T=>bif Nat.beq t T then some i else TB.get r T
def TI.cells(i:TI):List CT:=match i.vt with| .one v=>v.cells| .aL _=>[]
def TB.tab(tb:TB)(e:Nat):List CT:=match tb.get e with|some i=>i.cells|none=>[]
def zeroV:CT->Value->Bool
 | .bool,.bool b=> !b
 | .int k,.int k' n=>k==k'&&n==0
 | .str,.string s=>s.size==0
 | .sl _,.slice none 0 0=>true
 | _,_=>false
def GU:List CT->List Value->Bool
 | [],[]=>true
 | t::ts,v::vs=>zeroV t v&&GU ts vs
 | _,_=>false
def WG:V1->Option Value->Bool
 | .c t,some v=>zeroV t v
 | .agg ts,some (.agg cs)=>GU ts cs.toList
 | _,_=>false
def tq(tb:TB):List (Nat×Nat)->List Field->Bool
 | [],[]=>true
 | (o,t)::r,f::fs=>o==f.offset&&t==f.type&&(match tb.get t with|some i=>(match i.vt with| .one _=>true| .aL _=>false)|none=>false)&&tq tb r fs
 | _,_=>false
def LL(tb:TB)(v:V1)(fs:List (Nat×Nat))(d:Option TypeDesc):Bool :=
 match v,d with
 | .c .bool,some .bool=>true
 | .c (.int k),some (.int k')=>k==k'
 | .c .str,some .string=>true
 | .c (.sl e),some (.slice e')=>e==e'
 | .agg _,some (.struct fields)=>tq tb fs fields.toList
 | _,_=>false
def Ag(tb:TB):Nat->List CT->List (Nat×Nat)->Bool
 | _,ts,[]=>ts.isEmpty
 | o,ts,(o',t)::r=>Nat.beq o o'&&match tb.get t with
  | some i=>decide (ts.take i.cells.length=i.cells)&&Ag tb (o+i.cells.length) (ts.drop i.cells.length) r
  | none=>false
def Fa(P:Program)(tb:TB):Nat->Nat->Bool
 | 0,_=>false
 | d+1,T=>match tb.get T with
  | none=>false
  | some ti=>match ti.vt with
   | .one (.c (.sl _))=>false
   | .one (.c _)=>true
   | .one (.agg ts)=> !P.stoodInHeld T&&(P.fieldsOf T).toList.all (fun f=> !(f.name== "_"))&&ti.fs.all (fun x=>Fa P tb d x.2)&&Ag tb 0 ts ti.fs
   | .aL _=>false
def JD(P:Program)(tb:TB)(T:Nat)(ti:TI):Bool :=
 match ti.vt with
 | .aL _=>(match ti.fs with
  | []=>true
  | [(n,e)]=>(match P.underlying T with|some (.array n' e')=>Nat.beq n n'&&Nat.beq e e'|_=>false)&&(match P.info? T with|some i=>Nat.beq i.size n|none=>false)
  | _=>false)
 | .one v=>match P.info? T with
  | none=>false
  | some i=>i.size==v.cells.length&&i.bytes==ti.bytes&&WG v i.zero&&LL tb v ti.fs (P.underlying T)&&(!ti.eq||(Fa P tb 8 T&& !P.eqGuardType P.depth T))
def dz(P:Program)(tb:TB):TB->Bool
 | []=>true
 | (T,ti)::r=>JD P tb T ti&&dz P tb r
abbrev Gd:=List (E×Bool)
inductive KK where
 | d|own (g:Nat)|full
 deriving DecidableEq
inductive K where
 | d|own (g:Nat)|full|ag (ks:List KK)
 deriving DecidableEq
def KK.k:KK->K
 | .d=> .d| .own g=> .own g| .full=> .full
def K.kk:K->KK
 | .own g=> .own g| .full=> .full|_=> .d
def K.nth:K->Nat->K
 | .ag ks,j=>(ks.getD j .d).k
 | _,_=> .d
def zm(ks:List K):K:=bif ks.all (fun k=>decide (k.kk= .d)) then .d else .ag (ks.map K.kk)
def abO(k:K)(off:Nat):Option V1->K
 | some (.c _)=>k.nth off
 | some (.agg ts)=>zm ((List.range ts.length).map fun j=>k.nth (off+j))
 | none=> .d
def Bc:List V1->Nat->Nat
 | v::r,i+1=>v.cells.length+Bc r i
 | _,_=>0
structure LV where
 n:Nat
 body:Option (E×Option (Nat×List Nat)):=none
 deriving DecidableEq
inductive ST where
 | un
 | v (gs:Gd) (k:K) (e:E)
 | ptr (gs:Gd) (id off:Nat)
 | ro (gs:Gd) (e:E) (off:Nat)
 | box (cs:List (K×E))
 | live (n:LV)
 | gp (gs:Gd) (g:Nat) (x i:E)
 | mp (gs:Gd) (g n:Nat) (i:E) (off:Nat)
 | iv (gs:Gd) (g gv n:Nat) (i:E) (off:Nat) (l:E)
 | ip (gs:Gd) (g gv n:Nat) (i:E) (off:Nat) (j:E) (m o2:Nat)
 deriving DecidableEq
abbrev Sg:=List (Nat×ST)
def Sg.get:Sg->Nat->ST
 | [],_=> .un
 | (l,s)::r,x=>bif Nat.beq l x then s else Sg.get r x
def v8(g gs:Gd):Bool:=g.all fun x=>gs.contains x
def under(gs:Gd):ST->Option ST
 | .v g k e=>bif v8 g gs then some (.v gs k e) else none
 | .ptr g id off=>bif v8 g gs then some (.ptr gs id off) else none
 | .ro g e off=>bif v8 g gs then some (.ro gs e off) else none
 | _=>none
def gX(gs:Gd)(s:Option ST):Option (K×E) :=
 match s.bind (under gs) with
 | some (.v _ k e)=>some (k,e)
 | _=>none
inductive Rq where
 | cond (gs:Gd) (c:E)
 | call (gs:Gd) (f:Nat) (bx:Option (List E)) (args:List E) (vt:VT) (nb:List CT)
 | cF (f:Nat) (bx:Option (List E)) (args:List E) (vt:VT) (nb:List CT) (rt:List (Nat×Nat))
 | new (f:Nat) (args:List E) (nb:List CT)
 | oZ (gs:Gd) (e:E) (args:List E) (vt:VT)
 | rK (g:Nat) (vt:VT) (ix:Option (Gd×E×Nat))
structure bf where
 wr:List (Nat×ST)
 rq:List Rq
abbrev RB:=List (Nat×List (Nat×Nat))
def RB.get:RB->Nat->List (Nat×Nat)
 | [],_=>[]
 | (f,r)::q,x=>bif Nat.beq f x then r else RB.get q x
structure Cx where
 tb:TB
 nt:Nat
 rb:RB:=[]
def rm:Nat:=8
def tM:Nat->List (Nat×Nat)->Nat->KK
 | _,[],_=> .d
 | g,(q,_)::r,p=>bif Nat.beq q p then .own g else tM (g+1) r p
def awu:VT->Nat
 | .one v=>v.cells.length
 | .aL vs=>(vs.map fun v=>v.cells.length).sum
def Gh(g:Nat)(rt:List (Nat×Nat)):VT->K
 | .one (.c _)=>(tM g rt 0).k
 | vt=> .ag ((List.range (awu vt)).map (tM g rt))
def mh:Nat->List (Nat×Nat)->List (Nat×ST)
 | _,[]=>[]
 | g,(_,m)::r=>(3*g+2,.live ⟨m,none⟩)::mh (g+1) r
def E5(tb:TB)(T:Nat):Value->Option ST
 | .bool b=>some (.v [] .d (.lb b))
 | .int k n=>if k.min<=n/\n<=k.max then some (.v [] .d (.li k n)) else none
 | .string s=>if s.size<=maxLen then some (.v [] .d (.ls s)) else none
 | .slice none 0 0=>match tb.get T with
  | some ⟨.one (.c (.sl e)),_,_,_⟩=>some (.v [] .full (.iB e))
  | _=>none
 | _=>none
def aY(tb:TB)(σ:Nat->ST)(T:Nat):Operand->Option ST
 | .tmp t=>some (σ (3*t))
 | .const v=>E5 tb T v
 | _=>none
def yR(tab:Nat->List CT)(Γ:List VT)(ops:Array Oper)(σ:Nat->ST)(o:Oper):Option Gd :=
 match o.guard with
 | none=>some []
 | some (j,b)=>match (ops[j]?).bind (·.dst) with
  | some d=>match σ (3*d) with
   | .v gs _ c=>bif iO .bool (c.inf tab Γ) then some (gs++[(c,b)]) else none
   | _=>none
  | none=>none
def wv(dst:Option Nat)(st:ST):List (Nat×ST):=match dst with|some d=>[(3*d,st)]|none=>[]
def mk:List E->E
 | []=> .Es
 | e::r=> .cat (.aj e) (mk r)
def pack(tab:Nat->List CT)(Γ:List VT)(es:List E):E :=
 match es with
 | .cell x i::r=>match x.inf tab Γ with
  | some (.one (.agg us))=>if es=(List.range' i es.length).map (.cell x)/\i+es.length<=us.length then (if i=0/\es.length=us.length then x else .sub x i es.length) else mk es
  | _=>mk es
 | _=>mk es
def apart(k:K)(n:Nat)(e:E):List (K×E):=(List.range n).map fun j=>(k.nth j,.cell e j)
def mi{α:Type}(cs:List α)(off:Nat):List α->List α
 | []=>cs
 | x::r=>mi (cs.set off x) (off+1) r
def BP:CT->K×E
 | .bool=>(.d,.lb false)| .int k=>(.d,.li k 0)| .str=>(.d,.ls .empty)| .sl e=>(.full,.iB e)| .mem=>(.d,.mem (.li .i64 0))| .fn=>(.d,.fn0 0)
def YN(gs:Gd)(dst:Option Nat)(s:Option ST):Option bf:=(s.bind (under gs)).map fun s=>⟨wv dst s,[]⟩
def Ix(tab:Nat->List CT)(Γ:List VT)(gs:Gd)(dst:Option Nat)(σ:Nat->ST)(ti:TI)(s:Option ST):Option bf :=
 match s.bind (under gs) with
 | some (.ptr _ id off)=>match σ (3*id+1) with
  | .box cs=>match ti.vt with
   | .one (.c _)=>match cs[off]? with
    | some (k,e)=>some ⟨wv dst (.v gs k e),[]⟩
    | none=>none
   | .one (.agg ts)=>if off+ts.length<=cs.length then some ⟨wv dst (.v gs (zm (((cs.drop off).take ts.length).map (·.1))) (pack tab Γ (((cs.drop off).take ts.length).map (·.2)))),[]⟩ else none
   | _=>none
  | _=>none
 | some (.ro _ e off)=>match e.inf tab Γ with
  | some (.one (.agg us))=>match ti.vt with
   | .one (.c _)=>if off<us.length then some ⟨wv dst (.v gs .d (.cell e off)),[]⟩ else none
   | .one (.agg ts)=>if off=0/\ts.length=us.length then some ⟨wv dst (.v gs .d e),[]⟩
     else if off+ts.length<=us.length then some ⟨wv dst (.v gs .d (.sub e off ts.length)),[]⟩ else none
   | _=>none
  | _=>none
 | _=>none
def Cu(tab:Nat->List CT)(Γ:List VT)(gs:Gd)(dst:Option Nat)(σ:Nat->ST)(ti:TI)(s:Option ST)(x:Option ST):Option bf :=
 match gs,dst,s.bind (under []),gX [] x with
 | [],none,some (.ptr _ id off),some (k,e)=>match σ (3*id+1) with
  | .box cs=>match ti.vt,e.inf tab Γ with
   | .one (.c _),some (.one (.c _))=>if off<cs.length then some ⟨[(3*id+1,.box (cs.set off (k,e)))],[]⟩ else none
   | .one (.agg ts),some (.one (.agg us))=>if ts.length=us.length/\off+ts.length<=cs.length then some ⟨[(3*id+1,.box (mi cs off (apart k ts.length e)))],[]⟩ else none
   | _,_=>none
  | _=>none
 | _,_,_,_=>none
def YI(tb:TB)(Γ:List VT)(gs:Gd)(dst:Option Nat)(ti:TI)(s:Option ST)(f:Nat):Option bf :=
 match ti.vt,ti.fs[f]? with
 | .one (.agg _),some (fo,ft)=>match tb.get ft with
  | some fi=>if fi.cells.length=0 then none else match fi.vt with
   | .aL _=>none
   | .one _=>match s.bind (under gs) with
    | some (.ptr _ id off)=>some ⟨wv dst (.ptr gs id (off+fo)),[]⟩
    | some (.ro _ e off)=>some ⟨wv dst (.ro gs e (off+fo)),[]⟩
    | _=>none
  | none=>none
 | _,_=>none
def Rt(tb:TB)(Γ:List VT)(gs:Gd)(dst:Option Nat)(ti:TI)(x i:Option ST):Option bf :=
 match ti.vt,gX gs x,gX gs i with
 | .one (.c (.sl el)),some (_,ex),some (_,ei)=>match tb.get el with
  | some Ry=>match Ry.vt with
   | .aL _=>none
   | .one _=>if iO (.sl el) (ex.inf tb.tab Γ)/\(isInt (ei.inf tb.tab Γ)).isSome then some ⟨wv dst (.ro gs (.row (tb.tab el) ex ei) 0),[.cond gs (.dE ex ei)]⟩ else none
  | none=>none
 | _,_,_=>none
def YF(tab:Nat->List CT)(Γ:List VT)(gs:Gd)(dst:Option Nat)(g:Nat)(x:Option ST):Option bf :=
 match gs,gX [] x with
 | [],some (k,e)=>match e.inf tab Γ with
  | some (.one (.c _))=>some ⟨wv dst (.ptr [] g 0)++[(3*g+1,.box [(k,e)])],[]⟩
  | some (.one (.agg ts))=>some ⟨wv dst (.ptr [] g 0)++[(3*g+1,.box (apart k ts.length e))],[]⟩
  | _=>none
 | _,_=>none
def YC(gs:Gd)(dst:Option Nat)(g:Nat)(ti:TI):Option bf :=
 match gs,ti.vt with
 | [],.one v=>some ⟨wv dst (.ptr [] g 0)++[(3*g+1,.box (v.cells.map BP))],[]⟩
 | _,_=>none
def tk(tb:TB)(Γ:List VT)(gs:Gd)(σ:Nat->ST)(fs:List (Nat×Nat)):List (Nat×Operand)->List (K×E)->Option (List (K×E))
 | [],cs=>some cs
 | (f,x)::r,cs=>match fs[f]? with
  | some (fo,ft)=>match tb.get ft,gX gs (aY tb σ ft x) with
   | some fi,some (k,e)=>match fi.vt,e.inf tb.tab Γ with
    | .one (.c _),some (.one (.c _))=>if fo<cs.length then tk tb Γ gs σ fs r (cs.set fo (k,e)) else none
    | .one (.agg us),some (.one (.agg ts))=>if us.length=ts.length/\fo+ts.length<=cs.length then tk tb Γ gs σ fs r (mi cs fo (apart k ts.length e)) else none
    | _,_=>none
   | _,_=>none
  | none=>none
def Rm(tb:TB)(Γ:List VT)(gs:Gd)(dst:Option Nat)(σ:Nat->ST)(ti:TI)(parts:List (Nat×Operand)):Option bf :=
 match ti.vt with
 | .one (.agg ts)=>(tk tb Γ gs σ ti.fs parts (ts.map BP)).map fun cs=>⟨wv dst (.v gs (zm (cs.map (·.1))) (pack tb.tab Γ (cs.map (·.2)))),[]⟩
 | _=>none
def qK(tb:TB)(Γ:List VT)(gs:Gd)(σ:Nat->ST)(el:Nat):Nat->List (Nat×Operand)->E->Option E
 | _,[],acc=>some acc
 | n,(i,x)::r,acc=>if i=n then
   match gX gs (aY tb σ el x) with
   | some (_,e)=>match e.inf tb.tab Γ with
    | some (.one (.c t))=>if tb.tab el=[t] then qK tb Γ gs σ el (n+1) r (.put acc (.aj e)) else none
    | some (.one (.agg ts))=>if tb.tab el=ts then qK tb Γ gs σ el (n+1) r (.put acc e) else none
    | _=>none
   | none=>none
  else none
def Rv(tb:TB)(el len:Nat):Bool :=
 match tb.get el with
 | some i=>match i.vt with| .one _=>decide (len*i.cells.length<=65536)&&decide (0<i.cells.length)|_=>false
 | none=>false
def Ro(tb:TB)(Γ:List VT)(gs:Gd)(dst:Option Nat)(σ:Nat->ST)(ti:TI)(len:Nat)(parts:List (Nat×Operand)):Option bf :=
 match ti.vt with
 | .one (.c (.sl el))=>if parts.length=len/\Rv tb el len=true then (qK tb Γ gs σ el 0 parts (.iB el)).map fun e=>⟨wv dst (.v gs (bif Nat.beq len 0 then .full else .d) e),[]⟩ else none
 | _=>none
def Rn(tb:TB)(Γ:List VT)(gs:Gd)(dst:Option Nat)(σ:Nat->ST)(g:Nat)(ti:TI)(len:Nat)(parts:List (Nat×Operand)):Option bf :=
 match gs,ti.vt with
 | [],.one (.c (.sl el))=>if parts.length=len/\Rv tb el len=true then (qK tb Γ [] σ el 0 parts (.iB el)).map fun e=>⟨wv dst (.v [] (.own g) e)++[(3*g+2,.live ⟨(tb.tab el).length,none⟩)],[]⟩ else none
 | _,_=>none
def Tj:VT->Bool
 | .one (.c .str)| .one (.c (.sl _))=>true
 | _=>false
def ai0:VT->Bool
 | .one (.c (.sl _))=>true
 | _=>false
def Uq(tb:TB):VT->Bool
 | .one (.c (.sl e))=>(match tb.get e with|some i=>(match i.vt with| .one _=>true| .aL _=>false)|none=>false)
 | _=>true
def Rx(tb:TB)(Γ:List VT)(gs:Gd)(dst:Option Nat)(ti:TI)(x:Option ST)(lo hi:Option (Option ST)):Option bf :=
 match gX gs x,(match lo with|none=>some (K.d,E.li .i64 0)|some s=>gX gs s) with
 | some (_,ex),some (_,el)=>match (match hi with|none=>some (K.d,E.len ex)|some s=>gX gs s) with
  | some (_,eh)=>if ex.inf tb.tab Γ=some ti.vt/\(isInt (el.inf tb.tab Γ)).isSome/\(isInt (eh.inf tb.tab Γ)).isSome/\Tj ti.vt=true/\Uq tb ti.vt=true then
    some ⟨wv dst (.v gs .d (.cut ex el eh)),[.cond gs (.inc ex el eh)]⟩ else none
  | none=>none
 | _,_=>none
def abZ(tb:TB)(src:TI):Bool:=match src.vt with
 | .one (.c (.sl el))=>(match tb.get el with|some i=>(match i.vt with| .one (.c (.int .u8))=>true|_=>false)|none=>false)
 | _=>false
def YG(tab:Nat->List CT)(Γ:List VT)(gs:Gd)(dst:Option Nat)(u8:Bool)(src ti:TI)(x:Option ST):Option bf :=
 match src.vt,ti.vt,gX gs x with
 | .one (.c (.int _)),.one (.c (.int k)),some (_,e)=>if (isInt (e.inf tab Γ)).isSome then some ⟨wv dst (.v gs .d (.conv k e)),[]⟩ else none
 | .one (.c (.sl el)),.one (.c .str),some (_,e)=>if iO (.sl el) (e.inf tab Γ)/\u8=true/\tab el=[.int .u8] then some ⟨wv dst (.v gs .d (.HZ e)),[]⟩ else none
 | _,_,_=>none
def YH(tab:Nat->List CT)(Γ:List VT)(gs:Gd)(dst:Option Nat)(x:Option ST)(i:Nat):Option bf :=
 match gX gs x with
 | some (k,e)=>match e.inf tab Γ with
  | some (.aL vs)=>if i<vs.length then some ⟨wv dst (.v gs (abO k (Bc vs i) vs[i]?) (.proj e i)),[]⟩ else none
  | _=>none
 | none=>none
def YQ(tab:Nat->List CT)(Γ:List VT)(gs:Gd)(dst:Option Nat)(x:Option ST):Option bf :=
 match gX gs x with
 | some (_,e)=>if iO .bool (e.inf tab Γ) then some ⟨wv dst (.v gs .d (.no e)),[]⟩ else none
 | none=>none
def YO(tab:Nat->List CT)(Γ:List VT)(gs:Gd)(dst:Option Nat)(x:Option ST):Option bf :=
 match gX gs x with
 | some (_,e)=>match e.inf tab Γ with
  | some (.one (.c (.int k)))=>some ⟨wv dst (.v gs .d (.ar .sub k (.li k 0) e)),[]⟩
  | _=>none
 | none=>none
def aa9(tab:Nat->List CT)(Γ:List VT)(ec ea eb:E):E :=
 if ea= .lb true/\iO .bool (eb.inf tab Γ)=true then .or ec eb else if eb= .lb false/\iO .bool (ea.inf tab Γ)=true then .an ec ea else .ite ec ea eb
def YR(tab:Nat->List CT)(Γ:List VT)(gs:Gd)(dst:Option Nat)(c a b:Option ST):Option bf :=
 match gX gs c with
 | some (_,ec)=>if iO .bool (ec.inf tab Γ) then
   match gX (gs++[(ec,true)]) a,gX (gs++[(ec,false)]) b with
   | some (_,ea),some (_,eb)=>some ⟨wv dst (.v gs .d (aa9 tab Γ ec ea eb)),[]⟩
   | _,_=>none
  else none
 | none=>none
def YM(tab:Nat->List CT)(Γ:List VT)(gs:Gd)(dst:Option Nat)(ti:TI)(x:Option ST):Option bf :=
 match gX gs x with
 | some (_,e)=>if (e.inf tab Γ=some ti.vt/\Tj ti.vt=true)\/(e.inf tab Γ=some (.one (.c .mem))/\ai0 ti.vt=true) then some ⟨wv dst (.v gs .d (.len e)),[]⟩ else none
 | none=>none
def Iq(tb:TB)(Γ:List VT)(gs:Gd)(dst:Option Nat)(σ:Nat->ST)(g:Nat)(ti ti':TI)(x y:Option ST):Option bf :=
 match gs,ti.vt,ti'.vt with
 | [],.one (.c (.sl el)),.one (.c (.sl _))=>match gX [] x,gX [] y,tb.get el with
  | some (k,ex),some (_,ey),some ei=>if iO (.sl el) (ex.inf tb.tab Γ)/\iO (.sl el) (ey.inf tb.tab Γ)/\ei.bytes<=1024/\0<ei.bytes/\0<ei.cells.length then
    match ei.vt with
    | .aL _=>none
    | .one _=>match k with
     | .full=>some ⟨wv dst (.v [] (.own g) (.app ex ey))++[(3*g+2,.live ⟨ei.cells.length,none⟩)],[.cond [] (.few ex ey)]⟩
     | .own h=>match σ (3*h+2) with
      | .live n=>if n=⟨ei.cells.length,none⟩ then some ⟨wv dst (.v [] (.own g) (.app ex ey))++[(3*h+2,.un),(3*g+2,.live ⟨ei.cells.length,none⟩)],[.cond [] (.few ex ey)]⟩ else none
      | _=>none
     | _=>none
   else none
  | _,_,_=>none
 | _,_,_=>none
def YD(tab:Nat->List CT)(Γ:List VT)(gs:Gd)(dst:Option Nat)(ti:TI)(x i:Option ST):Option bf :=
 match ti.vt,gX gs x,gX gs i with
 | .one (.c .str),some (_,ex),some (_,ei)=>if iO .str (ex.inf tab Γ)/\(isInt (ei.inf tab Γ)).isSome then some ⟨wv dst (.v gs .d (.at ex ei)),[.cond gs (.dE ex ei)]⟩ else none
 | _,_,_=>none
def YP(gs:Gd)(dst:Option Nat)(s:Option ST):Option bf :=
 match s.bind (under gs) with
 | some (.ptr _ id off)=>some ⟨wv dst (.ptr gs id off),[]⟩
 | some (.ro _ e off)=>some ⟨wv dst (.ro gs e off),[]⟩
 | _=>none
def I9:BinOp->Bool
 | .add| .sub| .mul| .and| .or| .xor| .andNot=>true
 | _=>false
def FN:BinOp->Bool
 | .eql| .neq| .lss| .leq| .gtr| .geq=>true
 | _=>false
def YE(tab:Nat->List CT)(Γ:List VT)(gs:Gd)(dst:Option Nat)(op:BinOp)(ti:Option TI)(x y:Option ST):Option bf :=
 match gX gs x,gX gs y with
 | some (_,a),some (_,b)=>match a.inf tab Γ,b.inf tab Γ with
  | some (.one (.c (.int k))),some (.one (.c (.int k'))) =>
   if op= .shl\/op= .shr then some ⟨wv dst (.v gs .d (.ar op k a b)),[.cond gs (.ic .geq b (.li k' 0))]⟩
   else if k≠k' then none
   else if I9 op then some ⟨wv dst (.v gs .d (.ar op k a b)),[]⟩
   else if FN op then some ⟨wv dst (.v gs .d (.ic op a b)),[]⟩
   else if op= .quo\/op= .rem then some ⟨wv dst (.v gs .d (.ar op k a b)),[.cond gs (.ic .neq b (.li k 0))]⟩
   else none
  | some (.one (.c .str)),some (.one (.c .str)) =>
   if FN op then some ⟨wv dst (.v gs .d (.sc op a b)),[]⟩
   else if op= .add then some ⟨wv dst (.v gs .d (.iD a b)),[.cond gs (.jD a b)]⟩
   else none
  | some (.one (.agg ts)),some (.one (.agg us))=>match ti with
   | some i=>if i.eq=true/\i.vt= .one (.agg ts)/\i.vt= .one (.agg us) then
     if op= .eql then some ⟨wv dst (.v gs .d (.ae a b)),[]⟩ else if op= .neq then some ⟨wv dst (.v gs .d (.no (.ae a b))),[]⟩ else none
    else none
   | none=>none
  | some (.one (.c .bool)),some (.one (.c .bool))=>match ti with
   | some i=>if i.vt= .one (.c .bool) then
     if op= .eql then some ⟨wv dst (.v gs .d (.bc a b)),[]⟩ else if op= .neq then some ⟨wv dst (.v gs .d (.no (.bc a b))),[]⟩ else none
    else none
   | none=>none
  | _,_=>none
 | _,_=>none
def ny(tb:TB)(Γ:List VT)(gs:Gd)(σ:Nat->ST):List Operand->List Nat->Option (List E)
 | [],[]=>some []
 | x::xs,T::Ts=>match gX gs (aY tb σ T x),ny tb Γ gs σ xs Ts with
  | some (_,e),some es=>some (e::es)
  | _,_=>none
 | _,_=>none
def Ja:Option ST->Option (Gd×Nat)
 | some (.ptr g id 0)=>some (g,id)
 | _=>none
def vars(n:Nat):List CT->List (K×E)
 | []=>[]
 | _::r=>(.d,.var n)::vars (n+1) r
def I8(tab:Nat->List CT)(Γ:List VT):List (K×E)->Option (List CT)
 | []=>some []
 | (_,e)::r=>match e.inf tab Γ,I8 tab Γ r with
  | some (.one (.c t)),some ts=>some (t::ts)
  | _,_=>none
def Ao:Gd->E
 | []=> .lb true
 | (c,b)::r=> .an (bif b then c else .no c) (Ao r)
def zh(g:E):List (K×E)->List (K×E)->List (K×E)
 | x::r,y::q=>(.d,.ite g x.2 y.2)::zh g r q
 | _,_=>[]
def Iu(tb:TB)(Γ:List VT)(gs:Gd)(dst:Option Nat)(σ:Nat->ST)(rt:List (Nat×Nat))(ti:TI)(f:Nat)(xs:List Operand)(Ts:List Nat)(g':Gd)(id:Nat):Option bf :=
 match σ (3*id+1),ny tb Γ gs σ xs Ts with
 | .box cs,some es=>match I8 tb.tab Γ cs with
  | some nb=>if rt=[]/\v8 g' gs=true/\gs.all (fun x=>iO .bool (x.1.inf tb.tab Γ))=true then some ⟨wv dst (.v gs .d (.var Γ.length))++[(3*id+1,.box (zh (Ao gs) (vars (Γ.length+1) nb) cs))],[.call gs f (some (cs.map (·.2))) es ti.vt nb]⟩ else none
  | none=>none
 | _,_=>none
def Ir(tb:TB)(Γ:List VT)(gs:Gd)(dst:Option Nat)(σ:Nat->ST)(g:Nat)(rt:List (Nat×Nat))(ti:TI)(f:Nat)(args:List Operand)(dR:List Nat):Option bf :=
 match args,dR with
 | x::xs,T::Ts=>match Ja (aY tb σ T x) with
  | some (g',id)=>match gs,g',σ (3*id+1),ny tb Γ [] σ xs Ts with
   | [],[],.box cs,some es=>match I8 tb.tab Γ cs with
    | some nb=>if rt=[] then some ⟨wv dst (.v [] .d (.var Γ.length))++[(3*id+1,.box (vars (Γ.length+1) nb))],[.call [] f (some (cs.map (·.2))) es ti.vt nb]⟩
      else if rt.length<=rm then some ⟨wv dst (.v [] (Gh g rt ti.vt) (.var Γ.length))++((3*id+1,.box (vars (Γ.length+1) nb))::mh g rt),[.cF f (some (cs.map (·.2))) es ti.vt nb rt]⟩ else none
    | none=>none
   | _,_,_,_=>Iu tb Γ gs dst σ rt ti f xs Ts g' id
  | none=>match ny tb Γ gs σ args dR with
   | some es=>if gs=[]/\rt≠[]/\rt.length<=rm then some ⟨wv dst (.v [] (Gh g rt ti.vt) (.var Γ.length))++mh g rt,[.cF f none es ti.vt [] rt]⟩
     else some ⟨wv dst (.v gs .d (.var Γ.length)),[.call gs f none es ti.vt []]⟩
   | none=>none
 | [],[]=>some ⟨wv dst (.v gs .d (.var Γ.length)),[.call gs f none [] ti.vt []]⟩
 | _,_=>none
def aiZ(ti:TI):Option (List CT) :=
 match ti.vt with
 | .aL [.agg nb]=>bif ti.eq then some nb else none
 | _=>none
def eNew(tb:TB)(Γ:List VT)(gs:Gd)(dst:Option Nat)(σ:Nat->ST)(g:Nat)(nb:List CT)(f:Nat)(args:List Operand)(dR:List Nat):Option bf :=
 match gs,ny tb Γ [] σ args dR with
 | [],some es=>some ⟨wv dst (.ptr [] g 0)++[(3*g+1,.box (vars Γ.length nb))],[.new f es nb]⟩
 | _,_=>none
def KX(tb:TB)(ti:TI):Option (Nat×CT) :=
 match ti.vt,ti.fs with
 | .aL _,[(n,e)]=>match tb.get e with
  | some ei=>match ei.vt with
   | .one (.c t)=>some (n,t)
   | _=>none
  | none=>none
 | _,_=>none
def YL(tb:TB)(Γ:List VT)(gs:Gd)(dst:Option Nat)(ti:TI)(g:Nat):Option bf :=
 match KX tb ti with
 | some (n,t)=>some ⟨wv dst (.v gs .d (.var Γ.length)),[.rK g (.one (.agg (List.replicate n t))) none]⟩
 | none=>none
def YK(tb:TB)(Γ:List VT)(gs:Gd)(dst:Option Nat)(ti:TI)(g:Nat)(i:Option ST):Option bf :=
 match KX tb ti,gX gs i with
 | some (n,t),some (_,ei)=>if (isInt (ei.inf tb.tab Γ)).isSome then some ⟨wv dst (.gp gs g (.var Γ.length) ei),[.rK g (.one (.agg (List.replicate n t))) (some (gs,ei,n))]⟩ else none
 | _,_=>none
def agh(tb:TB)(Γ:List VT)(gs:Gd)(dst:Option Nat)(σ:Nat->ST)(ti:TI)(g0:Gd)(g n:Nat)(i:E)(off:Nat):Option bf:=none
def agi(tb:TB)(Γ:List VT)(σ:Nat->ST)(g0:Nat)(ti:TI)(g n:Nat)(i:E)(off:Nat)(x:Option ST):Option bf:=none
def agb(tb:TB)(Γ:List VT)(gs:Gd)(dst:Option Nat)(ti:TI)(gd:Gd)(g gv n:Nat)(i:E)(off:Nat)(l:E)(x:Option ST):Option bf:=none
def agc(tb:TB)(Γ:List VT)(gs:Gd)(dst:Option Nat)(σ:Nat->ST)(ti:TI)(gd:Gd)(g gv n:Nat)(i:E)(off:Nat)(j:E)(m o2:Nat):Option bf:=none
def agd(tb:TB)(Γ:List VT)(σ:Nat->ST)(ti:TI)(g gv n:Nat)(i:E)(off:Nat)(j:E)(m o2:Nat)(x:Option ST):Option bf:=none
def age(tb:TB)(gs:Gd)(dst:Option Nat)(ti:TI)(g0:Gd)(g n:Nat)(i:E)(off f:Nat):Option bf:=none
def agf(tb:TB)(Γ:List VT)(gs:Gd)(dst:Option Nat)(ti:TI)(g0:Gd)(g:Nat)(l:E)(i:Option ST):Option bf:=none
def agj(tb:TB)(Γ:List VT)(gs:Gd)(dst:Option Nat)(g:Nat)(ti:TI)(l c:Option ST):Option bf:=none
def Rp(tb:TB)(Γ:List VT)(dst:Option Nat)(σ:Nat->ST)(g:Nat)(ti:TI)(h:Nat)(ex:E)(lo:Option ST):Option bf :=
 match ti.vt,gX [] lo,σ (3*h+2) with
 | .one (.c (.sl el)),some (_,IB),.live ⟨n,none⟩ =>
  if ex.inf tb.tab Γ=some ti.vt/\(isInt (IB.inf tb.tab Γ)).isSome/\Uq tb ti.vt=true/\n=(tb.tab el).length then
   some ⟨wv dst (.v [] (.own g) (.cut ex IB (.len ex)))++[(3*h+2,.un),(3*g+2,.live ⟨n,none⟩)],[.cond [] (.inc ex IB (.len ex))]⟩
  else none
 | _,_,_=>none
def Iy(tb:TB)(Γ:List VT)(gs:Gd)(dst:Option Nat)(σ:Nat->ST)(g:Nat)(ti:TI)(x:Option ST)(lo hi:Option (Option ST)):Option bf :=
 match gs,x,lo,hi with
 | [],some (.v [] (.own h) ex),some l,none=>match Rp tb Γ dst σ g ti h ex l with
  | some e=>some e
  | none=>Rx tb Γ gs dst ti x lo hi
 | _,_,_,_=>Rx tb Γ gs dst ti x lo hi
def af9(tb:TB)(Γ:List VT)(dst:Option Nat)(σ:Nat->ST)(g:Nat)(ti ui:TI)(x:Option ST)(h gv n:Nat)(i:E)(off:Nat)(l:E):Option bf:=none
def Ip(tb:TB)(Γ:List VT)(gs:Gd)(dst:Option Nat)(σ:Nat->ST)(g:Nat)(ti ui:TI)(x y:Option ST):Option bf :=
 match gs,y with
 | [],some (.iv [] h gv n i off l)=>af9 tb Γ dst σ g ti ui x h gv n i off l
 | _,_=>Iq tb Γ gs dst σ g ti ui x y
def Iw(tb:TB)(Γ:List VT)(gs:Gd)(dst:Option Nat)(σ:Nat->ST)(ti:TI)(a:Operand):Option bf :=
 match a with
 | .global g=>YL tb Γ gs dst ti g
 | a=>match aY tb σ 0 a with
  | some (.gp g0 g x ei)=>match ti.vt,x.inf tb.tab Γ with
   | .one (.c t),some (.one (.agg ts))=>if v8 g0 gs=true/\ts.all (fun u=>decide (u=t))=true then some ⟨wv dst (.v gs .d (.Bo t x ei)),[]⟩ else none
   | _,_=>none
  | some (.mp g0 g n i off)=>agh tb Γ gs dst σ ti g0 g n i off
  | some (.ip gd g gv n i off j m o2)=>agc tb Γ gs dst σ ti gd g gv n i off j m o2
  | s=>Ix tb.tab Γ gs dst σ ti s
def Iz(tb:TB)(Γ:List VT)(gs:Gd)(dst:Option Nat)(σ:Nat->ST)(g0:Nat)(ti:TI)(s x:Option ST):Option bf :=
 match gs,dst,s with
 | [],none,some (.mp [] g n i off)=>agi tb Γ σ g0 ti g n i off x
 | [],none,some (.ip [] g gv n i off j m o2)=>agd tb Γ σ ti g gv n i off j m o2 x
 | _,_,_=>Cu tb.tab Γ gs dst σ ti s x
def YJ(tb:TB)(Γ:List VT)(gs:Gd)(dst:Option Nat)(ti:TI)(s:Option ST)(f:Nat):Option bf :=
 match s with
 | some (.mp g0 g n i off)=>age tb gs dst ti g0 g n i off f
 | _=>YI tb Γ gs dst ti s f
def Iv(tb:TB)(Γ:List VT)(gs:Gd)(dst:Option Nat)(σ:Nat->ST)(ti:TI)(T:Nat)(x i:Operand):Option bf :=
 match x with
 | .global g=>YK tb Γ gs dst ti g (aY tb σ 0 i)
 | x=>match aY tb σ T x with
  | some (.v g0 (.own g) l)=>bif iO .mem (l.inf tb.tab Γ) then agf tb Γ gs dst ti g0 g l (aY tb σ 0 i) else Rt tb Γ gs dst ti (aY tb σ T x) (aY tb σ 0 i)
  | some (.iv gd g gv n k off l)=>agb tb Γ gs dst ti gd g gv n k off l (aY tb σ 0 i)
  | s=>Rt tb Γ gs dst ti s (aY tb σ 0 i)
def YS(tb:TB)(Γ:List VT)(gs:Gd)(dst:Option Nat)(ti:TI)(x i:Option ST):Option bf :=
 match KX tb ti with
 | some (n,t)=>match gX gs x,gX gs i with
  | some (_,ex),some (_,ei)=>if ex.inf tb.tab Γ=some (.one (.agg (List.replicate n t)))/\(isInt (ei.inf tb.tab Γ)).isSome=true then some ⟨wv dst (.v gs .d (.Bo t ex ei)),[.cond gs (.an (.ic .leq (.li .i64 0) ei) (.ic .lss ei (.li .i64 n)))]⟩ else none
  | _,_=>none
 | none=>YD tb.tab Γ gs dst ti x i
def aga(tb:TB)(Γ:List VT)(gs:Gd)(dst:Option Nat)(σ:Nat->ST)(ti:TI)(x:Option ST)(args:List Operand)(dR:List Nat):Option bf:=none
def Ru(tab:Nat->List CT)(Γ:List VT)(gs:Gd)(dst:Option Nat)(σ:Nat->ST)(f:Nat)(first jQ:List Operand):Option bf:=none
def Io(nt:Nat):Option Nat->Bool
 | some d=>Nat.blt d nt
 | none=>true
def xS(cx:Cx)(ops:Array Oper)(Γ:List VT)(g:Nat)(o:Oper)(σ:Nat->ST):Option bf :=
 match yR cx.tb.tab Γ ops σ o with
 | none=>none
 | some gs =>
  bif Io cx.nt o.dst then
   match o.op with
   | .move x| .assign x=>YN gs o.dst (aY cx.tb σ o.type x)
   | .load T a=>match cx.tb.get T with|some ti=>Iw cx.tb Γ gs o.dst σ ti a|none=>none
   | .store T a x=>match cx.tb.get T with|some ti=>Iz cx.tb Γ gs o.dst σ g ti (aY cx.tb σ 0 a) (aY cx.tb σ T x)|none=>none
   | .fieldAddr T a f=>match cx.tb.get T with|some ti=>YJ cx.tb Γ gs o.dst ti (aY cx.tb σ 0 a) f|none=>none
   | .indexAddr T x i=>match cx.tb.get T with|some ti=>Iv cx.tb Γ gs o.dst σ ti T x i|none=>none
   | .index T x i=>match cx.tb.get T with|some ti=>YS cx.tb Γ gs o.dst ti (aY cx.tb σ T x) (aY cx.tb σ 0 i)|none=>none
   | .box T x=>YF cx.tb.tab Γ gs o.dst g (aY cx.tb σ T x)
   | .alloc T=>match cx.tb.get T with|some ti=>YC gs o.dst g ti|none=>none
   | .build T parts=>match cx.tb.get T with|some ti=>Rm cx.tb Γ gs o.dst σ ti parts.toList|none=>none
   | .makeSlice T l c=>match cx.tb.get T with|some ti=>agj cx.tb Γ gs o.dst g ti (aY cx.tb σ 0 l) (aY cx.tb σ 0 c)|none=>none
   | .buildSlice T len parts=>match cx.tb.get T with|some ti=>bif Nat.blt 0 len&&gs.isEmpty then Rn cx.tb Γ gs o.dst σ g ti len parts.toList else Ro cx.tb Γ gs o.dst σ ti len parts.toList|none=>none
   | .slice T x lo hi none=>match cx.tb.get T with|some ti=>Iy cx.tb Γ gs o.dst σ g ti (aY cx.tb σ T x) (lo.map (aY cx.tb σ 0)) (hi.map (aY cx.tb σ 0))|none=>none
   | .convert S T x=>match cx.tb.get S,cx.tb.get T with|some si,some ti=>YG cx.tb.tab Γ gs o.dst (abZ cx.tb si) si ti (aY cx.tb σ S x)|_,_=>none
   | .extract t i=>YH cx.tb.tab Γ gs o.dst (aY cx.tb σ 0 t) i
   | .unOp .not _ x=>YQ cx.tb.tab Γ gs o.dst (aY cx.tb σ 0 x)
   | .unOp .neg _ x=>YO cx.tb.tab Γ gs o.dst (aY cx.tb σ 0 x)
   | .pick c a b=>YR cx.tb.tab Γ gs o.dst (aY cx.tb σ 0 c) (aY cx.tb σ o.type a) (aY cx.tb σ o.type b)
   | .makeFunc (.func f) first jQ=>Ru cx.tb.tab Γ gs o.dst σ f first.toList jQ.toList
   | .nilCheck x=>YP gs o.dst (aY cx.tb σ 0 x)
   | .binOp op T x y _=>YE cx.tb.tab Γ gs o.dst op (cx.tb.get T) (aY cx.tb σ T x) (aY cx.tb σ T y)
   | .call c=>match c.callee with
    | .value (.func f)=>match cx.tb.get o.type with
     | some ti=>match aiZ ti with
      | some nb=>eNew cx.tb Γ gs o.dst σ g nb f c.args.toList c.argTypes.toList
      | none=>Ir cx.tb Γ gs o.dst σ g (cx.rb.get f) ti f c.args.toList c.argTypes.toList
     | none=>none
    | .value (.tmp t)=>match cx.tb.get o.type with
     | some ti=>aga cx.tb Γ gs o.dst σ ti (aY cx.tb σ 0 (.tmp t)) c.args.toList c.argTypes.toList
     | none=>none
    | .builtin .len=>match c.args.toList,c.argTypes.toList with
     | [x],[T]=>match cx.tb.get T with|some ti=>YM cx.tb.tab Γ gs o.dst ti (aY cx.tb σ T x)|none=>none
     | _,_=>none
    | .builtin .append=>match c.args.toList,c.argTypes.toList with
     | [x,y],[T,U]=>match cx.tb.get T,cx.tb.get U with|some ti,some ui=>Ip cx.tb Γ gs o.dst σ g ti ui (aY cx.tb σ T x) (aY cx.tb σ U y)|_,_=>none
     | _,_=>none
    | _=>none
   | _=>none
  else none
def tmpsOf(ops:Array Oper)(o:Oper):List Nat :=
 (o.op.operands.toList.filterMap fun| .tmp t=>some t|_=>none)++(match o.guard with|none=>[]|some (j,_)=>((ops[j]?).bind (·.dst)).toList)
def p8(σ:Nat->ST):List Nat->List Nat
 | []=>[]
 | t::r=>match σ (3*t) with
  | .ptr _ id _=>(3*id+1)::p8 σ r
  | .v _ (.own g) _=>(3*g+2)::p8 σ r
  | .mp _ g _ _ _=>(3*g+2)::p8 σ r
  | .ip _ g _ _ _ _ _ _ _=>(3*g+2)::p8 σ r
  | .iv _ g _ _ _ _ _=>(3*g+2)::p8 σ r
  | _=>p8 σ r
def looks:Op->Bool
 | .load _ _| .store _ _ _| .call _| .slice .. | .makeFunc .. =>true
 | _=>false
def readsOf(ops:Array Oper)(σ:Nat->ST)(o:Oper):List Nat:=(tmpsOf ops o).map (3* ·)++bif looks o.op then p8 σ (tmpsOf ops o) else []
structure SS where
 Γ:List VT
 nt:Nat
 lv:Nat
 σ:Sg
def kN:List Rq->List VT
 | []=>[]
 | .cond _ _::r=>kN r
 | .call _ _ _ _ vt nb::r=>vt::nb.map (fun t=> .one (.c t))++kN r
 | .cF _ _ _ vt nb _::r=>vt::nb.map (fun t=> .one (.c t))++kN r
 | .new _ _ nb::r=>nb.map (fun t=> .one (.c t))++kN r
 | .oZ _ _ _ vt::r=>vt::kN r
 | .rK _ vt _::r=>vt::kN r
def SS.step(ss:SS)(e:bf):SS:={ss with Γ:=ss.Γ++kN e.rq,nt:=ss.nt+rm,σ:=e.wr.reverse++ss.σ}
def nM(cx:Cx)(ops:Array Oper):List Oper->SS->Option (List bf×SS)
 | [],ss=>some ([],ss)
 | o::r,ss=>match xS cx ops ss.Γ ss.nt o ss.σ.get with
  | none=>none
  | some e=>match nM cx ops r (ss.step e) with
   | none=>none
   | some (es,s)=>some (e::es,s)
inductive VC where
 | fail (why:Nat)
 | ret (e:E) (bs:List E)
 | rq (r:Rq) (k:VC)
 | ite (c:E) (a b:VC)
 | loop (dR:List VT) (inits:List E) (body:VC)
 | again (d:Nat) (es:List E)
def Dn:List bf->VC->VC
 | [],k=>k
 | e::r,k=>e.rq.foldr .rq (Dn r k)
def NN{P:Program}{tb0:TB}: ∀{tb:TB},dz P tb0 tb=true-> ∀{T:Nat} {ti:TI},tb.get T=some ti->JD P tb0 T ti=true
 | [],_,T,ti,h=>by simp [TB.get] at h
 | (t,i)::r,hk,T,ti,h=>by
  simp [dz] at hk;simp only [TB.get] at h;cases e:Nat.beq t T with
  | true => rw [e] at h;simp only [ib,bg] at h;subst h;have:t=T:=iW e;subst this;exact hk.1
  | false=>rw [e] at h;exact NN hk.2 h
def ju:CT->TypeDesc->Prop
 | .bool,d=>d= .bool
 | .int k,d=>d= .int k
 | .str,d=>d= .string
 | .sl e,d=>d= .slice e
 | .mem,_=>False
 | .fn,_=>False
section
variable {P:Program}{tb:TB}(aJ:dz P tb tb=true){T:Nat}{ti:TI}(hg:tb.get T=some ti)
include aJ hg
def jl{t:CT}(hv:ti.vt= .one (.c t)): ∃i d,P.info? T=some i/\i.size=1/\i.bytes=ti.bytes/\(∃z,i.zero=some z/\zeroV t z=true)/\P.underlying T=some d/\ju t d:=by
 have h:=NN aJ hg;simp only [JD,hv] at h;split at h
 ·simp at h
 ·rename_i i hi;simp only [aP,um] at h;obtain ⟨⟨⟨⟨h1,h2⟩,h3⟩,h4⟩,_⟩:=h;cases hu:P.underlying T with
  | none=>rw [hu] at h4;cases t<;>simp [LL] at h4
  | some d =>
   rw [hu] at h4;refine ⟨i,d,hi,h1,h2,?_,rfl,?_⟩
   ·cases hz:i.zero with
    | none=>rw [hz] at h3;simp [WG] at h3
    | some z=>rw [hz] at h3;exact ⟨z,rfl,h3⟩
   ·cases t<;>cases d<;>simp [LL] at h4<;>simp [ju,h4]
def tP{ts:List CT}(hv:ti.vt= .one (.agg ts)): ∃i fields cs,P.info? T=some i/\i.size=ts.length/\i.bytes=ti.bytes/\i.zero=some (.agg cs)/\GU ts cs.toList=true/\P.underlying T=some (.struct fields)/\tq tb ti.fs fields.toList=true:=by
 have h:=NN aJ hg;simp only [JD,hv] at h;split at h
 ·simp at h
 ·rename_i i hi;simp only [aP,um] at h;obtain ⟨⟨⟨⟨h1,h2⟩,h3⟩,h4⟩,_⟩:=h;cases hu:P.underlying T with
  | none=>rw [hu] at h4;simp [LL] at h4
  | some d =>
   rw [hu] at h4;cases d<;>simp [LL] at h4;rename_i fields;cases hz:i.zero with
   | none=>rw [hz] at h3;simp [WG] at h3
   | some z => rw [hz] at h3;cases z<;>simp [WG] at h3;rename_i cs;exact ⟨i,fields,cs,hi,h1,h2,hz,h3,rfl,h4⟩
def abX{n:Nat}{t:CT}(ha:KX tb ti=some (n,t)): ∃e ei i,P.underlying T=some (.array n e)/\tb.get e=some ei/\ei.vt= .one (.c t)/\P.info? T=some i/\i.size=n:=by
 have h:=NN aJ hg;unfold KX at ha;split at ha
 ·rename_i vs n' e hv hfs;split at ha
  ·rename_i ei jG;split at ha
   ·rename_i t' MW;simp at ha;obtain ⟨rfl,rfl⟩:=ha;simp only [JD,hv,hfs,aP] at h;obtain ⟨h1,h2⟩:=h;split at h1
    ·rename_i n2 e2 hu;simp only [aP] at h1;have q1:=iW h1.1;have q2:=iW h1.2;subst q1 q2;split at h2
     ·rename_i i hi;exact ⟨_,ei,i,hu,jG,MW,hi,iW h2⟩
     ·simp at h2
    ·simp at h1
   ·simp at ha
  ·simp at ha
 ·simp at ha
def ye{v:V1}(hv:ti.vt= .one v): ∃i,P.info? T=some i/\i.size=v.cells.length/\i.bytes=ti.bytes:=by
 cases v with
 | c t=>obtain ⟨i,d,h1,h2,h3,_⟩:=jl aJ hg hv;exact ⟨i,h1,h2,h3⟩
 | agg ts=>obtain ⟨i,f,c,h1,h2,h3,_⟩:=tP aJ hg hv;exact ⟨i,h1,h2,h3⟩
end
section
variable {P:Program}{w:World}
def run_typeInfo{T:Nat}{i:TypeInfo}(h:P.info? T=some i):(typeInfo T).run P w= .ok i w:=by simp [typeInfo,h]
def run_sizeOf{T:Nat}{i:TypeInfo}(h:P.info? T=some i):(sizeOf T).run P w= .ok i.size w:=by simp [sizeOf,run_typeInfo h]
def run_underlying{T:Nat}{d:TypeDesc}(h:P.underlying T=some d):(underlying T).run P w= .ok d w:=by simp [underlying,h]
def abz{T:Nat}{d:TypeDesc}{t:CT}(h:P.underlying T=some d)(hd:ju t d):(isAgg T).run P w= .ok false w:=by cases t<;>simp [ju] at hd<;>subst hd<;>simp [isAgg,run_underlying h]
def alc{T:Nat}{f:Array Field}(h:P.underlying T=some (.struct f)):(isAgg T).run P w= .ok true w:=by simp [isAgg,run_underlying h]
def Ui{T:Nat}{d:TypeDesc}{t:CT}(h:P.underlying T=some d)(hd:ju t d){a:Addr}{v:Value}(hc:w.cell? a=some v):(loadVar T a).run P w= .ok v w:=by simp [loadVar,abz h hd,hc]
def addr_add(b o j:Nat):(⟨b,o,none⟩:Addr).add j=⟨b,o+j,none⟩:=by unfold Addr.add;by_cases h:j=0<;>simp [h]
def Uj{T:Nat}{f:Array Field}(h:P.underlying T=some (.struct f)){i:TypeInfo}(hi:P.info? T=some i){b o:Nat}{vs:List Value}(hl:vs.length=i.size)
  (hc: ∀j u,vs[j]? =some u->w.cell? ⟨b,o+j,none⟩=some u):(loadVar T ⟨b,o,none⟩).run P w= .ok (.agg vs.toArray) w:=by
 have h1:=KU (P:=P) (w:=w) ⟨b,o,none⟩ vs (fun j u hu=>by rw [addr_add];exact hc j u hu);rw [hl] at h1;simp [loadVar,alc h,run_sizeOf hi,h1]
def aDM{T n e:Nat}(h:P.underlying T=some (.array n e)):(isAgg T).run P w= .ok true w:=by simp [isAgg,run_underlying h]
def aDN{T n e:Nat}(h:P.underlying T=some (.array n e)){i:TypeInfo}(hi:P.info? T=some i){b o:Nat}{vs:List Value}(hl:vs.length=i.size)
  (hc: ∀j u,vs[j]? =some u->w.cell? ⟨b,o+j,none⟩=some u):(loadVar T ⟨b,o,none⟩).run P w= .ok (.agg vs.toArray) w:=by
 have h1:=KU (P:=P) (w:=w) ⟨b,o,none⟩ vs (fun j u hu=>by rw [addr_add];exact hc j u hu);rw [hl] at h1;simp [loadVar,aDM h,run_sizeOf hi,h1]
def iQ(cs:Array Value)(off:Nat):List Value->Array Value
 | []=>cs
 | x::r=>iQ (cs.setIfInBounds off x) (off+1) r
def Gl: ∀(l:List Value) (cs:Array Value) (off:Nat),(iQ cs off l).toList=mi cs.toList off l
 | [],_,_=>rfl
 | x::r,cs,off=>by simp [iQ,mi,Gl r]
def Jz: ∀(l:List Value) (cs:Array Value) (off:Nat),(iQ cs off l).size=cs.size
 | [],_,_=>rfl
 | x::r,cs,off=>by simp [iQ,Jz r]
structure bN(w w':World)(g:Nat):Prop where
 os:w'.os=w.os
 tape:w'.tape=w.tape
 output:w'.output=w.output
 size:w'.heap.size=w.heap.size
 block: ∀k,k≠g->w'.heap[k]? =w.heap[k]?
def bN.refl(w:World)(g:Nat):bN w w g:=⟨rfl,rfl,rfl,rfl,fun _ _=>rfl⟩
def bN.set{w w':World}{g:Nat}(h:bN w w' g)(o:Nat)(v:Value):bN w (w'.setCell ⟨g,o,none⟩ v) g :=
 ⟨h.os,h.tape,h.output,by simpa using h.size,fun k hk=>(heap_setCell_other w' ⟨g,o,none⟩ k v hk).trans (h.block k hk)⟩
def Jy(g:Nat)(T:TypeId): ∀(vs:List Value) (w:World) (C:Array Value) (o i:Nat),w.heap[g]? =some (.cells C T (0,0))->(∀v∈vs,v.oneCell'=true)->o+i+vs.length<=C.size ->
  ∃w',(storeCells ⟨g,o,none⟩ vs i).run P w= .ok () w'/\w'.heap[g]? =some (.cells (iQ C (o+i) vs) T (0,0))/\bN w w' g
 | [],w,C,o,i,hg,_,_=>⟨w,by simp [storeCells],hg,bN.refl _ _⟩
 | v::r,w,C,o,i,hg,hv,hl=>by
  simp only [fw] at hl;have hlt:o+i<C.size:=by omega
  have hcell:w.cell? ⟨g,o+i,none⟩=some C[o+i]:=by rw [z7 w g (o+i) C T (0,0) hg];exact G8 hlt
  have hfz:=frozen_of_row w g (o+i) C T hg;have hset:=heap_setCell_same w g (o+i) C T v hg;obtain ⟨w',h1,h2,h3⟩:=Jy g T r (w.setCell ⟨g,o+i,none⟩ v) (C.setIfInBounds (o+i) v) o (i+1) hset (fun x hx=>hv x (by simp [hx])) (by simp;omega);refine ⟨w',?_,?_,?_⟩
  ·simp only [storeCells,lK,addr_add,run_store P w _ v .plain (hv v (by simp)),hcell,hfz];simpa using h1
  ·simpa [iQ,zX] using h2
  ·exact ⟨h3.os,h3.tape,h3.output,by simpa using h3.size,fun k hk=>(h3.block k hk).trans (heap_setCell_other w ⟨g,o+i,none⟩ k v hk)⟩
end
end
end Go.Proofs.YtekplmpbkgchfaaGreatDoor
