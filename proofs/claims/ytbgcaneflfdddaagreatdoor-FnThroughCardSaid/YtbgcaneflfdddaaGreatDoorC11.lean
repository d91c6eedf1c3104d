/- Cores, parts, recipes: what the program and the reference compute. -/
import Derived.Test.YtbgcaneflfdddaaGreatDoorC10
import Derived.Lib.Split
import Derived.Lib.Join
import Derived.Lib.Atoi
import Derived.Lib.ItoaNum
set_option linter.unusedVariables false
set_option linter.unusedSimpArgs false
set_option maxRecDepth 100000
set_option linter.unusedSectionVars false
namespace Go.Proofs.YtbgcaneflfdddaaGreatDoor
open Go.RowKit Go
variable [GC]
def cellB (l : List Cell) (k : Nat) : Bool := nameB (nth l k).key && numB (nth l k).val && (k == 0 || ltB (nth l (k - 1)).key (nth l k).key)
def cellsB (l : List Cell) : Bool := decide (l.length ≤ 4) && allTo (cellB l) l.length
theorem sub_one {k : Nat} (h : 0 < k) (hk : k ≤ 9223372036854775807) : (arI .sub .i64 (k : Int) 1).toNat = k - 1 := by
 rw [ar_sub (by omega) (by omega)]; omega
theorem c_impl_IsCells (l : List Cell) : Fun Tryz.prog 105 none [encS l] (.bool (cellsB l)) [] := by
 refine Fun.ofV vc_impl_IsCells_ok ty_impl_IsCells_ok rfl ?_ (fun hfit => ?_)
 ·exact ⟨ty_CellS l, trivial⟩
 have hl : l.length ≤ 9223372036854775807 := fits_encS hfit.1
 unfold vc_impl_IsCells
 refine den_ite (fun h => ?_) (fun h => ?_)
 ·simp only [E.den, dEq, iEq, sEq] at h
  refine den_ret ?_
  simp only [E.den, D.bool.injEq]
  unfold cellsB; grind
 simp only [E.den, dEq, iEq, sEq] at h
 have h4 : l.length ≤ 4 := by grind
 refine den_for l.length (fun k => [.int .i64 k]) (fun k => allTo (cellB l) k = true) rfl rfl ?_
 intro k hk hI _
 simp only [cA]
 refine den_ite (fun h2 => ?_) (fun h2 => ?_)
 ·simp only [E.den, dEq, iEq, sEq] at h2
  have h2 : k < l.length := by simp at h2; exact h2
  (refine den_cond (fun hg => ?_) ?_; (focus (simp only [gsH, gE, E.den, dEq, iEq, sEq] at hg ⊢; (try simp only [D.bool.injEq] at hg); (try simp only [D.bool.injEq]); grind)))
  ((first | refine den_call ?_ (c_impl_IsName (nth l k).key) (trivial) ?_ | refine den_callR ?_ (c_impl_IsName (nth l k).key) (trivial) ?_ | refine den_call ?_ (.ofR (c_impl_IsName (nth l k).key)) (trivial) ?_); (focus (simp only [VC.den, E.den, dEq, gsH_nil, and_true, row_Cell, cells_Cell, Int.toNat_natCast]; try exact rfl)); (simp only [cA]))
  ((first | refine den_call ?_ (c_impl_isNumber (nth l k).val) (trivial) ?_ | refine den_callR ?_ (c_impl_isNumber (nth l k).val) (trivial) ?_ | refine den_call ?_ (.ofR (c_impl_isNumber (nth l k).val)) (trivial) ?_); (focus (simp only [VC.den, E.den, dEq, gsH_nil, and_true, row_Cell, cells_Cell, Int.toNat_natCast]; try exact rfl)); (simp only [cA]))
  refine den_cond (fun hg => ?_) ?_
  ·simp [gsH, E.den, cmpI] at hg ⊢
   rw [ar_sub (by omega) (by omega)]; omega
  refine den_ite (fun h3 => ?_) (fun h3 => ?_)
  ·simp only [E.den, dEq, iEq, sEq, row_Cell, cells_Cell] at h3
   have hb : cellB l k = false := by
    unfold cellB
    by_cases e : 0 < k
    ·rw [sub_one e (by omega)] at h3; grind
    ·grind
   refine den_ret ?_
   simp [E.den, cellsB, allTo_bad h2 hb]
  ·simp only [E.den, dEq, iEq, sEq, row_Cell, cells_Cell] at h3
   have hb : cellB l k = true := by
    unfold cellB
    by_cases e : 0 < k
    ·rw [sub_one e (by omega)] at h3; grind
    ·grind
   refine den_next h2 ?_ (show (allTo (cellB l) k && cellB l k) = true by rw [hI, hb]; rfl)
   simp only [E.den, dEq, iEq, sEq]
   rw [ar_add (by omega) (by omega)]; rfl
 ·simp only [E.den, dEq, iEq, sEq] at h2
  obtain rfl : k = l.length := by simp at h2; omega
  exact den_ret (by simp [E.den, cellsB, hI, h4])
theorem c_spec_IsCells (l : List Cell) : Fun Tryz.prog 109 none [encS l] (.bool (cellsB l)) [] := by
 refine Fun.ofV vc_spec_IsCells_ok ty_spec_IsCells_ok rfl ?_ (fun hfit => ?_)
 ·exact ⟨ty_CellS l, trivial⟩
 have hl : l.length ≤ 9223372036854775807 := fits_encS hfit.1
 unfold vc_spec_IsCells
 refine den_for l.length (fun k => [.int .i64 k]) (fun k => allTo (cellB l) k = true) rfl rfl ?_
 intro k hk hI _
 simp only [cA]
 refine den_ite (fun h2 => ?_) (fun h2 => ?_)
 ·simp only [E.den, dEq, iEq, sEq] at h2
  have h2 : k < l.length := by simp at h2; exact h2
  (refine den_cond (fun hg => ?_) ?_; (focus (simp only [gsH, gE, E.den, dEq, iEq, sEq] at hg ⊢; (try simp only [D.bool.injEq] at hg); (try simp only [D.bool.injEq]); grind)))
  ((first | refine den_call ?_ (c_spec_IsName (nth l k).key) (trivial) ?_ | refine den_callR ?_ (c_spec_IsName (nth l k).key) (trivial) ?_ | refine den_call ?_ (.ofR (c_spec_IsName (nth l k).key)) (trivial) ?_); (focus (simp only [VC.den, E.den, dEq, gsH_nil, and_true, row_Cell, cells_Cell, Int.toNat_natCast]; try exact rfl)); (simp only [cA]))
  refine den_cond (fun hg => ?_) ?_
  ·simp [gsH, E.den, cmpI] at hg ⊢
   rw [ar_sub (by omega) (by omega)]; omega
  refine den_ite (fun h3 => ?_) (fun h3 => ?_)
  ·simp only [E.den, dEq, iEq, sEq, row_Cell, cells_Cell] at h3
   have hb : cellB l k = false := by
    unfold cellB numB
    by_cases e : 0 < k
    ·rw [sub_one e (by omega)] at h3; grind
    ·grind
   refine den_ret ?_
   simp [E.den, cellsB, allTo_bad h2 hb]
  ·simp only [E.den, dEq, iEq, sEq, row_Cell, cells_Cell] at h3
   have hb : cellB l k = true := by
    unfold cellB numB
    by_cases e : 0 < k
    ·rw [sub_one e (by omega)] at h3; grind
    ·grind
   refine den_next h2 ?_ (show (allTo (cellB l) k && cellB l k) = true by rw [hI, hb]; rfl)
   simp only [E.den, dEq, iEq, sEq]
   rw [ar_add (by omega) (by omega)]; rfl
 ·simp only [E.den, dEq, iEq, sEq] at h2
  obtain rfl : k = l.length := by simp at h2; omega
  refine den_ret ?_
  simp only [E.den, dEq, iEq, sEq]
  simp only [cellsB, hI, Bool.and_true, D.bool.injEq]
  grind
def coreB (p : Core) : Bool := kindOk p.kind && cellsB p.cells && (p.cells.length == 0 || (kindN p.kind).testBit 1) && numB p.count && !(p.on && p.broken) && ((kindN p.kind).testBit 0 || (!p.on && !p.broken))
theorem bit1 : ∀ n : Fin 64, cmpI .eql (arI .and .i64 ((n.val : Nat) : Int) 2) 0 = !n.val.testBit 1 := by decide +kernel
theorem bit0 : ∀ n : Fin 64, cmpI .eql (arI .and .i64 ((n.val : Nat) : Int) 1) 1 = n.val.testBit 0 := by decide +kernel
theorem c_impl_IsCore (p : Core) : Fun Tryz.prog 63 none [enc p] (.bool (coreB p)) [] := by
 refine Fun.ofV vc_impl_IsCore_ok ty_impl_IsCore_ok rfl ?_ (fun hfit => ?_)
 ·exact ⟨ty_Core p, trivial⟩
 have b1 := bit1 ⟨kindN p.kind, kindN_lt _⟩
 have b0 := bit0 ⟨kindN p.kind, kindN_lt _⟩
 simp only [cmpI_eql] at b1 b0
 unfold vc_impl_IsCore
 ((first | refine den_call ?_ (c_impl_KindFace p.kind) (⟨rfl, trivial, trivial⟩) ?_ | refine den_callR ?_ (c_impl_KindFace p.kind) (⟨rfl, trivial, trivial⟩) ?_ | refine den_call ?_ (.ofR (c_impl_KindFace p.kind)) (⟨rfl, trivial, trivial⟩) ?_); (focus (simp only [VC.den, E.den, dEq, gsH_nil, and_true, cells_Core]; try exact rfl)); (simp only [cA]))
 ((first | refine den_call ?_ (c_impl_IsCells p.cells) (trivial) ?_ | refine den_callR ?_ (c_impl_IsCells p.cells) (trivial) ?_ | refine den_call ?_ (.ofR (c_impl_IsCells p.cells)) (trivial) ?_); (focus (simp only [VC.den, E.den, dEq, gsH_nil, and_true, cells_Core]; try exact rfl)); (simp only [cA]))
 ((first | refine den_call ?_ (c_impl_isNumber p.count) (trivial) ?_ | refine den_callR ?_ (c_impl_isNumber p.count) (trivial) ?_ | refine den_call ?_ (.ofR (c_impl_isNumber p.count)) (trivial) ?_); (focus (simp only [VC.den, E.den, dEq, gsH_nil, and_true, cells_Core]; try exact rfl)); (simp only [cA]))
 refine den_ite (fun h => ?_) (fun h => ?_)
 ·simp only [E.den, dEq, iEq, sEq, cells_Core, b1] at h
  refine den_ret ?_
  simp only [E.den, D.bool.injEq]
  unfold coreB; grind
 ·simp only [E.den, dEq, iEq, sEq, cells_Core, b1] at h
  refine den_ret ?_
  simp only [E.den, dEq, iEq, sEq, cells_Core, b0]
  simp only [D.bool.injEq]
  unfold coreB; grind
theorem c_spec_IsCore (p : Core) : Fun Tryz.prog 70 none [enc p] (.bool (coreB p)) [] := by
 refine Fun.ofV vc_spec_IsCore_ok ty_spec_IsCore_ok rfl ?_ (fun hfit => ?_)
 ·exact ⟨ty_Core p, trivial⟩
 unfold vc_spec_IsCore
 ((first | refine den_call ?_ (c_spec_KindFace p.kind) (⟨rfl, trivial, trivial⟩) ?_ | refine den_callR ?_ (c_spec_KindFace p.kind) (⟨rfl, trivial, trivial⟩) ?_ | refine den_call ?_ (.ofR (c_spec_KindFace p.kind)) (⟨rfl, trivial, trivial⟩) ?_); (focus (simp only [VC.den, E.den, dEq, gsH_nil, and_true, cells_Core]; try exact rfl)); (simp only [cA]))
 ((first | refine den_call ?_ (c_spec_l2Has (kindN p.kind) 0 (kindN_lt _) (by omega)) (trivial) ?_ | refine den_callR ?_ (c_spec_l2Has (kindN p.kind) 0 (kindN_lt _) (by omega)) (trivial) ?_ | refine den_call ?_ (.ofR (c_spec_l2Has (kindN p.kind) 0 (kindN_lt _) (by omega))) (trivial) ?_); (focus (simp only [VC.den, E.den, dEq, gsH_nil, and_true]; try exact rfl)); (simp only [cA]))
 ((first | refine den_call ?_ (c_spec_IsCells p.cells) (trivial) ?_ | refine den_callR ?_ (c_spec_IsCells p.cells) (trivial) ?_ | refine den_call ?_ (.ofR (c_spec_IsCells p.cells)) (trivial) ?_); (focus (simp only [VC.den, E.den, dEq, gsH_nil, and_true, cells_Core]; try exact rfl)); (simp only [cA]))
 ((first | refine den_call ?_ (c_spec_l2Has (kindN p.kind) 1 (kindN_lt _) (by omega)) (trivial) ?_ | refine den_callR ?_ (c_spec_l2Has (kindN p.kind) 1 (kindN_lt _) (by omega)) (trivial) ?_ | refine den_call ?_ (.ofR (c_spec_l2Has (kindN p.kind) 1 (kindN_lt _) (by omega))) (trivial) ?_); (focus (simp only [VC.den, E.den, dEq, gsH_nil, and_true]; try exact rfl)); (simp only [cA]))
 refine den_ite (fun h => ?_) (fun h => ?_)
 ·simp only [E.den, dEq, iEq, sEq, cells_Core] at h
  refine den_ret ?_
  simp only [E.den, D.bool.injEq]
  unfold coreB numB; grind
 ·simp only [E.den, dEq, iEq, sEq, cells_Core] at h
  refine den_ret ?_
  simp only [E.den, dEq, iEq, sEq, cells_Core]
  simp only [D.bool.injEq]
  unfold coreB numB; grind
theorem c_impl_copyCore (p : Core) (h : p.cells.length ≤ 4294967296) : FunR Tryz.prog 94 none [enc p] (enc p) [] [(3, 2)] := by
 refine FunR.ofV vc_impl_copyCore_ok ty_impl_copyCore_ok rt_impl_copyCore_ok rfl ?_ (fun hfit => ?_)
 ·exact ⟨ty_Core p, trivial⟩
 unfold vc_impl_copyCore
 refine den_cond (fun _ => ?_) (den_ret ?_)
 ·simp [E.den, cells_Core, h]
 ·simp [E.den, cells_Core, enc, encS]
theorem c_spec_l3Copy (p : Core) (h : p.cells.length ≤ 4294967296) : FunR Tryz.prog 98 none [enc p] (enc p) [] [(3, 2)] := by
 refine FunR.ofV vc_spec_l3Copy_ok ty_spec_l3Copy_ok rt_spec_l3Copy_ok rfl ?_ (fun hfit => ?_)
 ·exact ⟨ty_Core p, trivial⟩
 unfold vc_spec_l3Copy
 refine den_cond (fun _ => ?_) (den_ret ?_)
 ·simp [E.den, cells_Core, h]
 ·simp [E.den, cells_Core, enc, encS]
theorem c_impl_copyPart (p : Part) (h : p.core.cells.length ≤ 4294967296) (h' : p.layers.length ≤ 4294967296) : FunR Tryz.prog 55 none [enc p] (enc p) [] [(3, 2), (5, 2)] := by
 refine FunR.ofV vc_impl_copyPart_ok ty_impl_copyPart_ok rt_impl_copyPart_ok rfl ?_ (fun hfit => ?_)
 ·exact ⟨ty_Part p, trivial⟩
 unfold vc_impl_copyPart
 ((first | refine den_call ?_ (c_impl_copyCore p.core h) (ty_Core _) ?_ | refine den_callR ?_ (c_impl_copyCore p.core h) (ty_Core _) ?_ | refine den_call ?_ (.ofR (c_impl_copyCore p.core h)) (ty_Core _) ?_); (focus (simp only [VC.den, E.den, dEq, gsH_nil, and_true, cells_Part]; try exact rfl)); (simp only [cA]))
 refine den_cond (fun _ => ?_) (den_ret ?_)
 ·simp [E.den, cells_Part, h']
 ·simp [E.den, cells_Part, cells_Core, enc, encS]
theorem c_spec_l4Copy (p : Part) (h : p.core.cells.length ≤ 4294967296) (h' : p.layers.length ≤ 4294967296) : FunR Tryz.prog 58 none [enc p] (enc p) [] [(3, 2), (5, 2)] := by
 refine FunR.ofV vc_spec_l4Copy_ok ty_spec_l4Copy_ok rt_spec_l4Copy_ok rfl ?_ (fun hfit => ?_)
 ·exact ⟨ty_Part p, trivial⟩
 unfold vc_spec_l4Copy
 ((first | refine den_call ?_ (c_spec_l3Copy p.core h) (ty_Core _) ?_ | refine den_callR ?_ (c_spec_l3Copy p.core h) (ty_Core _) ?_ | refine den_call ?_ (.ofR (c_spec_l3Copy p.core h)) (ty_Core _) ?_); (focus (simp only [VC.den, E.den, dEq, gsH_nil, and_true, cells_Part]; try exact rfl)); (simp only [cA]))
 refine den_cond (fun _ => ?_) (den_ret ?_)
 ·simp [E.den, cells_Part, h']
 ·simp [E.den, cells_Part, cells_Core, enc, encS]
def faceAt (p : Part) (k : Nat) : Nat := if k = 0 then kindN p.core.kind else giveN (nth p.layers (k - 1)).name
theorem faceAt_lt (p : Part) (k : Nat) : faceAt p k < 64 := by unfold faceAt; split; exact kindN_lt _; exact giveN_lt _
def faceOf (p : Part) : Nat := faceAt p p.layers.length
theorem c_impl_faceBelow (p : Part) (k : Nat) (hk : k ≤ p.layers.length) : Fun Tryz.prog 64 none [enc p, .int .i64 k] (.int .i64 (faceAt p k)) [] := by
 refine Fun.ofV vc_impl_faceBelow_ok ty_impl_faceBelow_ok rfl ?_ (fun hfit => ?_)
 ·exact ⟨ty_Part p, rfl, trivial⟩
 have hb : (k : Int) ≤ 9223372036854775807 := hfit.2.1.2
 unfold vc_impl_faceBelow
 refine den_ite (fun h => ?_) (fun h => ?_)
 ·simp only [E.den, dEq, iEq, sEq] at h
  have h : k = 0 := by simp at h; exact h
  subst h
  ((first | refine den_call ?_ (c_impl_KindFace p.core.kind) (⟨rfl, trivial, trivial⟩) ?_ | refine den_callR ?_ (c_impl_KindFace p.core.kind) (⟨rfl, trivial, trivial⟩) ?_ | refine den_call ?_ (.ofR (c_impl_KindFace p.core.kind)) (⟨rfl, trivial, trivial⟩) ?_); (focus (simp only [VC.den, E.den, dEq, gsH_nil, and_true, cells_Part]; try exact rfl)); (simp only [cA]))
  exact den_ret rfl
 ·simp only [E.den, dEq, iEq, sEq] at h
  have h : k ≠ 0 := by simpa using h
  have e := sub_one (k := k) (by omega) (by omega)
  refine den_cond (fun _ => ?_) ?_
  ·simp [E.den, cells_Part]
   rw [ar_sub (by omega) (by omega)]; omega
  ((first | refine den_call ?_ (c_impl_layerFaces (nth p.layers (k - 1)).name) (⟨rfl, rfl, trivial, trivial⟩) ?_ | refine den_callR ?_ (c_impl_layerFaces (nth p.layers (k - 1)).name) (⟨rfl, rfl, trivial, trivial⟩) ?_ | refine den_call ?_ (.ofR (c_impl_layerFaces (nth p.layers (k - 1)).name)) (⟨rfl, rfl, trivial, trivial⟩) ?_); (focus (simp only [VC.den, E.den, dEq, gsH_nil, and_true, cells_Part, row_Layer, cells_Layer, e]; try exact rfl)); (simp only [cA]))
  exact den_ret (by simp [E.den, layD, faceAt, h])
theorem c_spec_l4Face (p : Part) (k : Nat) (hk : k ≤ p.layers.length) : Fun Tryz.prog 72 none [enc p, .int .i64 k] (.int .i64 (faceAt p k)) [] := by
 refine Fun.ofV vc_spec_l4Face_ok ty_spec_l4Face_ok rfl ?_ (fun hfit => ?_)
 ·exact ⟨ty_Part p, rfl, trivial⟩
 have hb : (k : Int) ≤ 9223372036854775807 := hfit.2.1.2
 unfold vc_spec_l4Face
 refine den_ite (fun h => ?_) (fun h => ?_)
 ·simp only [E.den, dEq, iEq, sEq] at h
  have h : k = 0 := by simp at h; exact h
  subst h
  ((first | refine den_call ?_ (c_spec_KindFace p.core.kind) (⟨rfl, trivial, trivial⟩) ?_ | refine den_callR ?_ (c_spec_KindFace p.core.kind) (⟨rfl, trivial, trivial⟩) ?_ | refine den_call ?_ (.ofR (c_spec_KindFace p.core.kind)) (⟨rfl, trivial, trivial⟩) ?_); (focus (simp only [VC.den, E.den, dEq, gsH_nil, and_true, cells_Part]; try exact rfl)); (simp only [cA]))
  exact den_ret rfl
 ·simp only [E.den, dEq, iEq, sEq] at h
  have h : k ≠ 0 := by simpa using h
  have e := sub_one (k := k) (by omega) (by omega)
  refine den_cond (fun _ => ?_) ?_
  ·simp [E.den, cells_Part]
   rw [ar_sub (by omega) (by omega)]; omega
  ((first | refine den_call ?_ (c_spec_l4Row (nth p.layers (k - 1)).name) (⟨rfl, rfl, trivial, trivial⟩) ?_ | refine den_callR ?_ (c_spec_l4Row (nth p.layers (k - 1)).name) (⟨rfl, rfl, trivial, trivial⟩) ?_ | refine den_call ?_ (.ofR (c_spec_l4Row (nth p.layers (k - 1)).name)) (⟨rfl, rfl, trivial, trivial⟩) ?_); (focus (simp only [VC.den, E.den, dEq, gsH_nil, and_true, cells_Part, row_Layer, cells_Layer, e]; try exact rfl)); (simp only [cA]))
  exact den_ret (by simp [E.den, layD, faceAt, h])
theorem c_impl_FaceOf (p : Part) : Fun Tryz.prog 25 none [enc p] (.int .i64 (faceOf p)) [] := by
 refine Fun.ofV vc_impl_FaceOf_ok ty_impl_FaceOf_ok rfl ?_ (fun hfit => ?_)
 ·exact ⟨ty_Part p, trivial⟩
 unfold vc_impl_FaceOf
 ((first | refine den_call ?_ (c_impl_faceBelow p p.layers.length (Nat.le_refl _)) (rfl) ?_ | refine den_callR ?_ (c_impl_faceBelow p p.layers.length (Nat.le_refl _)) (rfl) ?_ | refine den_call ?_ (.ofR (c_impl_faceBelow p p.layers.length (Nat.le_refl _))) (rfl) ?_); (focus (simp only [VC.den, E.den, dEq, gsH_nil, and_true, cells_Part]; try exact rfl)); (simp only [cA]))
 exact den_ret rfl
theorem c_spec_FaceOf (p : Part) : Fun Tryz.prog 61 none [enc p] (.int .i64 (faceOf p)) [] := by
 refine Fun.ofV vc_spec_FaceOf_ok ty_spec_FaceOf_ok rfl ?_ (fun hfit => ?_)
 ·exact ⟨ty_Part p, trivial⟩
 unfold vc_spec_FaceOf
 ((first | refine den_call ?_ (c_spec_l4Face p p.layers.length (Nat.le_refl _)) (rfl) ?_ | refine den_callR ?_ (c_spec_l4Face p p.layers.length (Nat.le_refl _)) (rfl) ?_ | refine den_call ?_ (.ofR (c_spec_l4Face p p.layers.length (Nat.le_refl _))) (rfl) ?_); (focus (simp only [VC.den, E.den, dEq, gsH_nil, and_true, cells_Part]; try exact rfl)); (simp only [cA]))
 exact den_ret rfl
def counts : ByteArray := ⟨#[99, 111, 117, 110, 116, 115]⟩
def hears : ByteArray := ⟨#[104, 101, 97, 114, 115]⟩
def layerB (p : Part) (k : Nat) : Bool := layOk (nth p.layers k).name && offersB (faceAt p k) (needN (nth p.layers k).name) && numB (nth p.layers k).count && (decide ((nth p.layers k).count = 0) || decide ((nth p.layers k).name = counts) || decide ((nth p.layers k).name = hears))
def partB (p : Part) : Bool := coreB p.core && decide (p.layers.length ≤ 3) && allTo (layerB p) p.layers.length
theorem c_impl_IsPart (p : Part) : Fun Tryz.prog 20 none [enc p] (.bool (partB p)) [] := by
 refine Fun.ofV vc_impl_IsPart_ok ty_impl_IsPart_ok rfl ?_ (fun hfit => ?_)
 ·exact ⟨ty_Part p, trivial⟩
 unfold vc_impl_IsPart
 ((first | refine den_call ?_ (c_impl_IsCore p.core) (trivial) ?_ | refine den_callR ?_ (c_impl_IsCore p.core) (trivial) ?_ | refine den_call ?_ (.ofR (c_impl_IsCore p.core)) (trivial) ?_); (focus (simp only [VC.den, E.den, dEq, gsH_nil, and_true, cells_Part]; try exact rfl)); (simp only [cA]))
 refine den_ite (fun h => ?_) (fun h => ?_)
 ·simp only [E.den, dEq, iEq, sEq, cells_Part] at h
  refine den_ret ?_
  simp only [E.den, D.bool.injEq]
  unfold partB; grind
 simp only [E.den, dEq, iEq, sEq, cells_Part] at h
 have hc : coreB p.core = true := by grind
 have h3 : p.layers.length ≤ 3 := by grind
 refine den_for p.layers.length (fun k => [.int .i64 k]) (fun k => allTo (layerB p) k = true) rfl rfl ?_
 intro k hk hI _
 simp only [cA]
 refine den_ite (fun h2 => ?_) (fun h2 => ?_)
 ·simp only [E.den, dEq, iEq, sEq, cells_Part] at h2
  have h2 : k < p.layers.length := by simp at h2; exact h2
  (refine den_cond (fun hg => ?_) ?_; (focus (simp only [gsH, gE, E.den, dEq, iEq, sEq, cells_Part] at hg ⊢; (try simp only [D.bool.injEq] at hg); (try simp only [D.bool.injEq]); grind)))
  ((first | refine den_call ?_ (c_impl_layerFaces (nth p.layers k).name) (⟨rfl, rfl, trivial, trivial⟩) ?_ | refine den_callR ?_ (c_impl_layerFaces (nth p.layers k).name) (⟨rfl, rfl, trivial, trivial⟩) ?_ | refine den_call ?_ (.ofR (c_impl_layerFaces (nth p.layers k).name)) (⟨rfl, rfl, trivial, trivial⟩) ?_); (focus (simp only [VC.den, E.den, dEq, gsH_nil, and_true, cells_Part, row_Layer, cells_Layer]; try exact rfl)); (simp only [cA]))
  ((first | refine den_call ?_ (c_impl_faceBelow p k hk) (rfl) ?_ | refine den_callR ?_ (c_impl_faceBelow p k hk) (rfl) ?_ | refine den_call ?_ (.ofR (c_impl_faceBelow p k hk)) (rfl) ?_); (focus (simp only [VC.den, E.den, dEq, gsH_nil, and_true]; try exact rfl)); (simp only [cA]))
  ((first | refine den_call ?_ (c_impl_Offers (faceAt p k) (needN (nth p.layers k).name)) (trivial) ?_ | refine den_callR ?_ (c_impl_Offers (faceAt p k) (needN (nth p.layers k).name)) (trivial) ?_ | refine den_call ?_ (.ofR (c_impl_Offers (faceAt p k) (needN (nth p.layers k).name))) (trivial) ?_); (focus (simp only [VC.den, E.den, dEq, gsH_nil, and_true, layD]; try exact rfl)); (simp only [cA]))
  ((first | refine den_call ?_ (c_impl_isNumber (nth p.layers k).count) (trivial) ?_ | refine den_callR ?_ (c_impl_isNumber (nth p.layers k).count) (trivial) ?_ | refine den_call ?_ (.ofR (c_impl_isNumber (nth p.layers k).count)) (trivial) ?_); (focus (simp only [VC.den, E.den, dEq, gsH_nil, and_true, cells_Part, row_Layer, cells_Layer]; try exact rfl)); (simp only [cA]))
  refine den_ite (fun h3 => ?_) (fun h3 => ?_)
  ·simp only [E.den, dEq, iEq, sEq, cells_Part, row_Layer, cells_Layer, layD] at h3
   have hb : layerB p k = false := by unfold layerB counts hears; grind
   refine den_ret ?_
   simp [E.den, partB, allTo_bad h2 hb]
  ·simp only [E.den, dEq, iEq, sEq, cells_Part, row_Layer, cells_Layer, layD] at h3
   have hb : layerB p k = true := by unfold layerB counts hears; grind
   refine den_next h2 ?_ (show (allTo (layerB p) k && layerB p k) = true by rw [hI, hb]; rfl)
   simp only [E.den, dEq, iEq, sEq]
   rw [ar_add (by omega) (by omega)]; rfl
 ·simp only [E.den, dEq, iEq, sEq, cells_Part] at h2
  obtain rfl : k = p.layers.length := by simp at h2; omega
  exact den_ret (by simp [E.den, partB, hI, hc, h3])
theorem c_spec_IsPart (p : Part) : Fun Tryz.prog 28 none [enc p] (.bool (partB p)) [] := by
 refine Fun.ofV vc_spec_IsPart_ok ty_spec_IsPart_ok rfl ?_ (fun hfit => ?_)
 ·exact ⟨ty_Part p, trivial⟩
 unfold vc_spec_IsPart
 ((first | refine den_call ?_ (c_spec_IsCore p.core) (trivial) ?_ | refine den_callR ?_ (c_spec_IsCore p.core) (trivial) ?_ | refine den_call ?_ (.ofR (c_spec_IsCore p.core)) (trivial) ?_); (focus (simp only [VC.den, E.den, dEq, gsH_nil, and_true, cells_Part]; try exact rfl)); (simp only [cA]))
 refine den_ite (fun h => ?_) (fun h => ?_)
 ·simp only [E.den, dEq, iEq, sEq, cells_Part] at h
  refine den_ret ?_
  simp only [E.den, D.bool.injEq]
  unfold partB; grind
 simp only [E.den, dEq, iEq, sEq, cells_Part] at h
 have hc : coreB p.core = true := by grind
 have h3 : p.layers.length ≤ 3 := by grind
 refine den_for p.layers.length (fun k => [.int .i64 k]) (fun k => allTo (layerB p) k = true) rfl rfl ?_
 intro k hk hI _
 simp only [cA]
 refine den_ite (fun h2 => ?_) (fun h2 => ?_)
 ·simp only [E.den, dEq, iEq, sEq, cells_Part] at h2
  have h2 : k < p.layers.length := by simp at h2; exact h2
  (refine den_cond (fun hg => ?_) ?_; (focus (simp only [gsH, gE, E.den, dEq, iEq, sEq, cells_Part] at hg ⊢; (try simp only [D.bool.injEq] at hg); (try simp only [D.bool.injEq]); grind)))
  ((first | refine den_call ?_ (c_spec_LayerNeeds (nth p.layers k).name) (⟨rfl, trivial, trivial⟩) ?_ | refine den_callR ?_ (c_spec_LayerNeeds (nth p.layers k).name) (⟨rfl, trivial, trivial⟩) ?_ | refine den_call ?_ (.ofR (c_spec_LayerNeeds (nth p.layers k).name)) (⟨rfl, trivial, trivial⟩) ?_); (focus (simp only [VC.den, E.den, dEq, gsH_nil, and_true, cells_Part, row_Layer, cells_Layer]; try exact rfl)); (simp only [cA]))
  ((first | refine den_call ?_ (c_spec_l4Face p k hk) (rfl) ?_ | refine den_callR ?_ (c_spec_l4Face p k hk) (rfl) ?_ | refine den_call ?_ (.ofR (c_spec_l4Face p k hk)) (rfl) ?_); (focus (simp only [VC.den, E.den, dEq, gsH_nil, and_true]; try exact rfl)); (simp only [cA]))
  ((first | refine den_call ?_ (c_spec_Offers (faceAt p k) (needN (nth p.layers k).name)) (trivial) ?_ | refine den_callR ?_ (c_spec_Offers (faceAt p k) (needN (nth p.layers k).name)) (trivial) ?_ | refine den_call ?_ (.ofR (c_spec_Offers (faceAt p k) (needN (nth p.layers k).name))) (trivial) ?_); (focus (simp only [VC.den, E.den, dEq, gsH_nil, and_true]; try exact rfl)); (simp only [cA]))
  refine den_ite (fun h3 => ?_) (fun h3 => ?_)
  ·simp only [E.den, dEq, iEq, sEq, cells_Part, row_Layer, cells_Layer] at h3
   have hb : layerB p k = false := by unfold layerB counts hears numB; grind
   refine den_ret ?_
   simp [E.den, partB, allTo_bad h2 hb]
  ·simp only [E.den, dEq, iEq, sEq, cells_Part, row_Layer, cells_Layer] at h3
   have hb : layerB p k = true := by unfold layerB counts hears numB; grind
   refine den_next h2 ?_ (show (allTo (layerB p) k && layerB p k) = true by rw [hI, hb]; rfl)
   simp only [E.den, dEq, iEq, sEq]
   rw [ar_add (by omega) (by omega)]; rfl
 ·simp only [E.den, dEq, iEq, sEq, cells_Part] at h2
  obtain rfl : k = p.layers.length := by simp at h2; omega
  exact den_ret (by simp [E.den, partB, hI, hc, h3])
def rep (code val want had : Int) : Reply := ⟨code, val, ⟨#[]⟩, want, had⟩
def wrapP (p : Part) (s : ByteArray) : Part × Reply :=
 if partB p = false ∨ layOk s = false then (p, rep 7 0 0 0)
 else if 3 ≤ p.layers.length then (p, rep 5 0 0 0)
 else if offersB (faceOf p) (needN s) = false then (p, rep 1 0 (needN s) (faceOf p))
 else (⟨p.core, p.layers ++ [⟨s, 0⟩]⟩, rep 0 (giveN s) 0 0)
theorem c_impl_Wrap (p : Part) (s : ByteArray) (h1 : p.core.cells.length ≤ 4294967296) (h2 : p.layers.length ≤ 4294967295) : FunR Tryz.prog 16 none [enc p, .str s] (.tup [enc (wrapP p s).1, enc (wrapP p s).2]) [] [(3, 2), (5, 2)] := by
 refine FunR.ofV vc_impl_Wrap_ok ty_impl_Wrap_ok rt_impl_Wrap_ok rfl ?_ (fun hfit => ?_)
 ·exact ⟨ty_Part p, trivial, trivial⟩
 unfold vc_impl_Wrap
 ((first | refine den_call ?_ (c_impl_copyPart p h1 (by omega)) (ty_Part _) ?_ | refine den_callR ?_ (c_impl_copyPart p h1 (by omega)) (ty_Part _) ?_ | refine den_call ?_ (.ofR (c_impl_copyPart p h1 (by omega))) (ty_Part _) ?_); (focus (simp only [VC.den, E.den, dEq, gsH_nil, and_true]; try exact rfl)); (simp only [cA]))
 ((first | refine den_call ?_ (c_impl_layerFaces s) (⟨rfl, rfl, trivial, trivial⟩) ?_ | refine den_callR ?_ (c_impl_layerFaces s) (⟨rfl, rfl, trivial, trivial⟩) ?_ | refine den_call ?_ (.ofR (c_impl_layerFaces s)) (⟨rfl, rfl, trivial, trivial⟩) ?_); (focus (simp only [VC.den, E.den, dEq, gsH_nil, and_true]; try exact rfl)); (simp only [cA]))
 ((first | refine den_call ?_ (c_impl_IsPart p) (trivial) ?_ | refine den_callR ?_ (c_impl_IsPart p) (trivial) ?_ | refine den_call ?_ (.ofR (c_impl_IsPart p)) (trivial) ?_); (focus (simp only [VC.den, E.den, dEq, gsH_nil, and_true]; try exact rfl)); (simp only [cA]))
 refine den_ite (fun h => ?_) (fun h => ?_)
 ·simp only [E.den, dEq, iEq, sEq, layD] at h
  refine den_ret ?_
  unfold wrapP
  rw [if_pos (by grind)]
  rfl
 simp only [E.den, dEq, iEq, sEq, layD] at h
 have hn : ¬ (partB p = false ∨ layOk s = false) := by grind
 refine den_ite (fun h3 => ?_) (fun h3 => ?_)
 ·simp only [E.den, dEq, iEq, sEq, cells_Part] at h3
  refine den_ret ?_
  unfold wrapP
  rw [if_neg hn, if_pos (by grind)]
  rfl
 simp only [E.den, dEq, iEq, sEq, cells_Part] at h3
 have hm : ¬ 3 ≤ p.layers.length := by grind
 ((first | refine den_call ?_ (c_impl_FaceOf p) (rfl) ?_ | refine den_callR ?_ (c_impl_FaceOf p) (rfl) ?_ | refine den_call ?_ (.ofR (c_impl_FaceOf p)) (rfl) ?_); (focus (simp only [VC.den, E.den, dEq, gsH_nil, and_true]; try exact rfl)); (simp only [cA]))
 ((first | refine den_call ?_ (c_impl_Offers (faceOf p) (needN s)) (trivial) ?_ | refine den_callR ?_ (c_impl_Offers (faceOf p) (needN s)) (trivial) ?_ | refine den_call ?_ (.ofR (c_impl_Offers (faceOf p) (needN s))) (trivial) ?_); (focus (simp only [VC.den, E.den, dEq, gsH_nil, and_true, layD]; try exact rfl)); (simp only [cA]))
 refine den_ite (fun h4 => ?_) (fun h4 => ?_)
 ·simp only [E.den, dEq, iEq, sEq] at h4
  ((first | refine den_call ?_ (c_impl_FaceOf p) (rfl) ?_ | refine den_callR ?_ (c_impl_FaceOf p) (rfl) ?_ | refine den_call ?_ (.ofR (c_impl_FaceOf p)) (rfl) ?_); (focus (simp only [VC.den, E.den, dEq, gsH_nil, and_true]; try exact rfl)); (simp only [cA]))
  refine den_ret ?_
  unfold wrapP
  rw [if_neg hn, if_neg hm, if_pos (by grind)]
  rfl
 ·simp only [E.den, dEq, iEq, sEq] at h4
  refine den_cond (fun _ => ?_) (den_ret ?_)
  ·simp [E.den, cells_Part]; omega
  unfold wrapP
  rw [if_neg hn, if_neg hm, if_neg (by grind)]
  simp [E.den, cells_Part, enc, encS, cells_Layer, layD, rep, cells_Reply]
theorem c_spec_Wrap (p : Part) (s : ByteArray) (h1 : p.core.cells.length ≤ 4294967296) (h2 : p.layers.length ≤ 4294967295) : FunR Tryz.prog 18 none [enc p, .str s] (.tup [enc (wrapP p s).1, enc (wrapP p s).2]) [] [(3, 2), (5, 2)] := by
 refine FunR.ofV vc_spec_Wrap_ok ty_spec_Wrap_ok rt_spec_Wrap_ok rfl ?_ (fun hfit => ?_)
 ·exact ⟨ty_Part p, trivial, trivial⟩
 unfold vc_spec_Wrap
 ((first | refine den_call ?_ (c_spec_l4Copy p h1 (by omega)) (ty_Part _) ?_ | refine den_callR ?_ (c_spec_l4Copy p h1 (by omega)) (ty_Part _) ?_ | refine den_call ?_ (.ofR (c_spec_l4Copy p h1 (by omega))) (ty_Part _) ?_); (focus (simp only [VC.den, E.den, dEq, gsH_nil, and_true]; try exact rfl)); (simp only [cA]))
 ((first | refine den_call ?_ (c_spec_l4Row s) (⟨rfl, rfl, trivial, trivial⟩) ?_ | refine den_callR ?_ (c_spec_l4Row s) (⟨rfl, rfl, trivial, trivial⟩) ?_ | refine den_call ?_ (.ofR (c_spec_l4Row s)) (⟨rfl, rfl, trivial, trivial⟩) ?_); (focus (simp only [VC.den, E.den, dEq, gsH_nil, and_true]; try exact rfl)); (simp only [cA]))
 ((first | refine den_call ?_ (c_spec_IsPart p) (trivial) ?_ | refine den_callR ?_ (c_spec_IsPart p) (trivial) ?_ | refine den_call ?_ (.ofR (c_spec_IsPart p)) (trivial) ?_); (focus (simp only [VC.den, E.den, dEq, gsH_nil, and_true]; try exact rfl)); (simp only [cA]))
 refine den_ite (fun h => ?_) (fun h => ?_)
 ·simp only [E.den, dEq, iEq, sEq, layD] at h
  refine den_ret ?_
  unfold wrapP
  rw [if_pos (by grind)]
  rfl
 simp only [E.den, dEq, iEq, sEq, layD] at h
 have hn : ¬ (partB p = false ∨ layOk s = false) := by grind
 have hp3 : p.layers.length ≤ 3 := by
  have : partB p = true := by grind
  unfold partB at this; grind
 refine den_ite (fun h3 => ?_) (fun h3 => ?_)
 ·simp only [E.den, dEq, iEq, sEq, cells_Part] at h3
  refine den_ret ?_
  unfold wrapP
  rw [if_neg hn, if_pos (by grind)]
  rfl
 simp only [E.den, dEq, iEq, sEq, cells_Part] at h3
 have hm : ¬ 3 ≤ p.layers.length := by grind
 ((first | refine den_call ?_ (c_spec_FaceOf p) (rfl) ?_ | refine den_callR ?_ (c_spec_FaceOf p) (rfl) ?_ | refine den_call ?_ (.ofR (c_spec_FaceOf p)) (rfl) ?_); (focus (simp only [VC.den, E.den, dEq, gsH_nil, and_true]; try exact rfl)); (simp only [cA]))
 ((first | refine den_call ?_ (c_spec_Offers (faceOf p) (needN s)) (trivial) ?_ | refine den_callR ?_ (c_spec_Offers (faceOf p) (needN s)) (trivial) ?_ | refine den_call ?_ (.ofR (c_spec_Offers (faceOf p) (needN s))) (trivial) ?_); (focus (simp only [VC.den, E.den, dEq, gsH_nil, and_true, layD]; try exact rfl)); (simp only [cA]))
 refine den_ite (fun h4 => ?_) (fun h4 => ?_)
 ·simp only [E.den, dEq, iEq, sEq] at h4
  ((first | refine den_call ?_ (c_spec_FaceOf p) (rfl) ?_ | refine den_callR ?_ (c_spec_FaceOf p) (rfl) ?_ | refine den_call ?_ (.ofR (c_spec_FaceOf p)) (rfl) ?_); (focus (simp only [VC.den, E.den, dEq, gsH_nil, and_true]; try exact rfl)); (simp only [cA]))
  refine den_ret ?_
  unfold wrapP
  rw [if_neg hn, if_neg hm, if_pos (by grind)]
  rfl
 ·simp only [E.den, dEq, iEq, sEq] at h4
  refine den_cond (fun _ => ?_) (den_ret ?_)
  ·simp [E.den, cells_Part]; omega
  unfold wrapP
  rw [if_neg hn, if_neg hm, if_neg (by grind)]
  simp [E.den, cells_Part, enc, encS, cells_Layer, layD, rep, cells_Reply]
def firstTo (p : Nat → Bool) : Nat → Option Nat
 | 0 => none
 | n + 1 => match firstTo p n with
  | some k => some k
  | none => if p n then some n else none
theorem firstTo_none {p : Nat → Bool} : ∀ {n : Nat}, (∀ i, i < n → p i = false) → firstTo p n = none
 | 0, _ => rfl
 | n + 1, h => by
  have h1 := firstTo_none (n := n) (fun i hi => h i (by omega))
  simp [firstTo, h1, h n (by omega)]
theorem firstTo_some {p : Nat → Bool} {k : Nat} (hp : p k = true) (h : ∀ i, i < k → p i = false) : ∀ {n : Nat}, k < n → firstTo p n = some k
 | 0, hk => by omega
 | n + 1, hk => by
  by_cases e : k = n
  ·subst e; simp [firstTo, firstTo_none h, hp]
  ·simp [firstTo, firstTo_some hp h (show k < n by omega)]
end Go.Proofs.YtbgcaneflfdddaaGreatDoor
/- Needs, entries, registries, providers: what the program and the reference compute. -/
namespace Go.Proofs.YtbgcaneflfdddaaGreatDoor
open Go.RowKit Go
variable [GC]
def noText : ByteArray := ⟨#[]⟩
theorem firstTo_lt {p : Nat → Bool} {k : Nat} : ∀ {n : Nat}, firstTo p n = some k → k < n ∧ p k = true ∧ ∀ i, i < k → p i = false
 | 0, h => by cases h
 | n + 1, h => by
  simp only [firstTo] at h
  split at h
  ·rename_i j hj
   cases h
   obtain ⟨h1, h2, h3⟩ := firstTo_lt hj
   exact ⟨by omega, h2, h3⟩
  ·rename_i hj
   split at h
   ·rename_i hp
    cases h
    refine ⟨by omega, hp, fun i hi => ?_⟩
    cases hb : p i with
    | false => rfl
    | true =>
     exfalso
     have : ∀ {n : Nat}, firstTo p n = none → ∀ i, i < n → p i = false := by
      intro n
      induction n with
      | zero => intro _ i hi; omega
      | succ n ih =>
       intro h i hi
       simp only [firstTo] at h
       split at h
       ·cases h
       ·rename_i hn
        split at h
        ·cases h
        ·rename_i hp
         by_cases e : i = n
         ·subst e; simpa using hp
         ·exact ih hn i (by omega)
     rw [this hj i hi] at hb; cases hb
   ·cases h
theorem rws_strs {w' : World} {M : Addr → Prop} {b : Nat} (hM : ∀ o, ¬ M ⟨b, o, none⟩) : ∀ (l : List ByteArray) (k : Nat), (∀ i (h : i < l.length), w'.cell? ⟨b, k + i, none⟩ = some (.string l[i])) → (∀ s, s ∈ l → s.size ≤ maxLen) → Rws w' M (l.map Enc.cells) b k
 | [], _, _, _ => by simp [Rws]
 | s :: l, k, h, hs => by
  simp only [List.map_cons, Rws, cells_str, Rw, R, and_true]
  refine ⟨⟨_, h 0 (by simp), hM _, rfl, hs s (by simp)⟩, rws_strs hM l (k + 1) (fun i hi => ?_) fun s' h' => hs s' (by simp [h'])⟩
  have := h (i + 1) (by simp; omega)
  rw [show k + (i + 1) = k + 1 + i by omega] at this
  simpa using this
theorem R_strs {w' : World} {M : Addr → Prop} {cs : Array Value} {T b n : Nat} (l : List ByteArray) (h : w'.heap[b]? = some (.cells cs T)) (hcs : cs = (l.map Value.string).toArray) (hn : n = l.length) (hM : ∀ o, ¬ M ⟨b, o, none⟩) (hs : ∀ s, s ∈ l → s.size ≤ maxLen) (hl : l.length ≤ maxLen) :
  R w' M (encS l) (.slice (some ⟨b, 0, none⟩) n n) := by
 subst hn
 refine ⟨_, _, _, rfl, by simp, Nat.le_refl _, hl, fun h => by (cases h), ?_⟩
 intro b' o s e
 cases e
 refine ⟨fun _ => rfl, rws_strs hM l 0 (fun i hi => ?_) hs⟩
 simp [World.cell?, h, hcs, hi]
theorem heap_old {w : World} {o o' : Obj} {b : Nat} (h : w.heap[b]? = some o) : (w.alloc o').heap[b]? = some o := by
 have hb : b < w.heap.size := by
  rcases Nat.lt_or_ge b w.heap.size with h' | h'
  ·exact h'
  ·rw [Array.getElem?_eq_none h'] at h; cases h
 exact (Below.heap_alloc w o' b hb).trans h
theorem heap_new {w : World} {o : Obj} {b : Nat} (h : b = w.heap.size) : (w.alloc o).heap[b]? = some o := by
 subst h
 show (w.heap.push o)[w.heap.size]? = _
 simp
end Go.Proofs.YtbgcaneflfdddaaGreatDoor
/- What the reference draws for registries: names, needs, recipes, entries, lists of entries. -/
namespace Go.Proofs.YtbgcaneflfdddaaGreatDoor
open Go.RowKit Go
variable [GC]
def isS (r : D) : Prop := ∃ s : ByteArray, r = .str s
theorem isS.ty {r : D} (h : isS r) : HasVT tbl.tab (.one (.c .str)) r := by obtain ⟨x, rfl⟩ := h; trivial
def strRow : List D → Bool
 | [.str _] => true
 | _ => false
theorem strRow_ok {r : List D} (h : strRow r = true) : ∃ s, r = [.str s] := by
 match r, h with
 | [.str s], _ => exact ⟨s, rfl⟩
theorem d_l1Str (rows0 : List (List D)) (h0 : 0 < rows0.length) (hs : rows0.all strRow = true) : Dr 125 [.sl rows0] isS := by
 have hs' : ∀ r ∈ rows0, ∃ s, r = [.str s] := fun r hr => strRow_ok (List.all_eq_true.1 hs r hr)
 have hty : HasVT tbl.tab (.one (.c (.sl 9))) (.sl rows0) := by
  show RowsTy _ (tbl.tab _) _
  rw [tab_str]
  exact RowsTy.of fun r hr => by obtain ⟨s, rfl⟩ := hs' r hr; exact ⟨trivial, trivial⟩
 refine Dr.of vc_spec_l1Str_ok rfl ty_spec_l1Str_ok (fun cs h => by exact ⟨hty, cur_tys h⟩) (.str noText) ⟨_, rfl⟩ fun rows i sd f1 hl hr hi => ?_; (simp only [cA]); unfold vc_spec_l1Str
 have hn : (rows0.length : Int) ≤ 9223372036854775807 := by
  simp [FitsL, Fits, maxLen] at f1; omega
 ((first | apply den_draw | apply den_drawR); (focus (simp only [VC.den, E.den, dEq, gsH_nil, and_true, lenD]; try exact rfl)); (focus (simp only [VC.den, E.den, dEq, gsH_nil, and_true, lenD]; try exact rfl)); (focus (exact ⟨_, _, _, rfl, by assumption, by assumption⟩)); (focus (first | exact d_l1Below rows0.length | exact Dr.ofR (d_l1Below rows0.length))); (focus (exact fun _ h => isBel.ty h)); rintro _ rows i sd ⟨x, rfl, hx⟩ hr hi; (simp only [cA]))
 refine den_cond (fun _ => ?_) ?_
 ·simp [E.den, lenD]; omega
 have hx2 := hx.2 (by omega)
 have e : rows0[x.toNat]? = some rows0[x.toNat] := List.getElem?_eq_getElem (by omega)
 obtain ⟨s, hs1⟩ := hs' _ (List.getElem_mem (show x.toNat < rows0.length by omega))
 refine ⟨⟨s, ?_⟩, _, _, _, rfl, hr, hi⟩
 simp [E.den, e, hs1]
theorem d_l1Word : Dr 124 [] isS := by
 refine Dr.of vc_spec_l1Word_ok rfl ty_spec_l1Word_ok (fun cs h => by exact cur_tys h) (.str noText) ⟨_, rfl⟩ fun rows i sd f1 hl hr hi => ?_; (simp only [cA]); unfold vc_spec_l1Word
 ((first | apply den_draw | apply den_drawR); (iterate 2 (focus (simp only [VC.den, E.den, dEq, gsH_nil, and_true]; try exact rfl))); (focus (exact ⟨_, _, _, rfl, by assumption, by assumption⟩)); (focus (first | exact d_l1Str _ (by decide) rfl | exact Dr.ofR (d_l1Str _ (by decide) rfl))); (focus (exact fun _ h => isS.ty h)); rintro _ rows i sd ⟨s, rfl⟩ hr hi; (simp only [cA]))
 exact ⟨⟨_, rfl⟩, _, _, _, rfl, hr, hi⟩
theorem d_l3Kind : Dr 121 [] isS := by
 refine Dr.of vc_spec_l3Kind_ok rfl ty_spec_l3Kind_ok (fun cs h => by exact cur_tys h) (.str noText) ⟨_, rfl⟩ fun rows i sd f1 hl hr hi => ?_; (simp only [cA]); unfold vc_spec_l3Kind
 ((first | apply den_draw | apply den_drawR); (iterate 2 (focus (simp only [VC.den, E.den, dEq, gsH_nil, and_true]; try exact rfl))); (focus (exact ⟨_, _, _, rfl, by assumption, by assumption⟩)); (focus (first | exact d_l1Once _ | exact Dr.ofR (d_l1Once _))); (focus (exact fun _ h => isB.ty h)); rintro _ rows i sd ⟨b, rfl⟩ hr hi; (simp only [cA]))
 refine den_ite (fun h => ?_) (fun h => ?_)
 ·((first | apply den_draw | apply den_drawR); (iterate 2 (focus (simp only [VC.den, E.den, dEq, gsH_nil, and_true]; try exact rfl))); (focus (exact ⟨_, _, _, rfl, by assumption, by assumption⟩)); (focus (first | exact d_l1Str _ (by decide) rfl | exact Dr.ofR (d_l1Str _ (by decide) rfl))); (focus (exact fun _ h => isS.ty h)); rintro _ rows i sd ⟨s, rfl⟩ hr hi; (simp only [cA]))
  exact ⟨⟨_, rfl⟩, _, _, _, rfl, hr, hi⟩
 ·((first | apply den_draw | apply den_drawR); (iterate 2 (focus (simp only [VC.den, E.den, dEq, gsH_nil, and_true]; try exact rfl))); (focus (exact ⟨_, _, _, rfl, by assumption, by assumption⟩)); (focus (first | exact d_l1Str _ (by decide) rfl | exact Dr.ofR (d_l1Str _ (by decide) rfl))); (focus (exact fun _ h => isS.ty h)); rintro _ rows i sd ⟨s, rfl⟩ hr hi; (simp only [cA]))
  exact ⟨⟨_, rfl⟩, _, _, _, rfl, hr, hi⟩
theorem d_l4Name : Dr 102 [] isS := by
 refine Dr.of vc_spec_l4Name_ok rfl ty_spec_l4Name_ok (fun cs h => by exact cur_tys h) (.str noText) ⟨_, rfl⟩ fun rows i sd f1 hl hr hi => ?_; (simp only [cA]); unfold vc_spec_l4Name
 ((first | apply den_draw | apply den_drawR); (iterate 2 (focus (simp only [VC.den, E.den, dEq, gsH_nil, and_true]; try exact rfl))); (focus (exact ⟨_, _, _, rfl, by assumption, by assumption⟩)); (focus (first | exact d_l1Once _ | exact Dr.ofR (d_l1Once _))); (focus (exact fun _ h => isB.ty h)); rintro _ rows i sd ⟨b, rfl⟩ hr hi; (simp only [cA]))
 refine den_ite (fun h => ?_) (fun h => ?_)
 ·((first | apply den_draw | apply den_drawR); (iterate 2 (focus (simp only [VC.den, E.den, dEq, gsH_nil, and_true]; try exact rfl))); (focus (exact ⟨_, _, _, rfl, by assumption, by assumption⟩)); (focus (first | exact d_l1Str _ (by decide) rfl | exact Dr.ofR (d_l1Str _ (by decide) rfl))); (focus (exact fun _ h => isS.ty h)); rintro _ rows i sd ⟨s, rfl⟩ hr hi; (simp only [cA]))
  exact ⟨⟨_, rfl⟩, _, _, _, rfl, hr, hi⟩
 ·((first | apply den_draw | apply den_drawR); (iterate 2 (focus (simp only [VC.den, E.den, dEq, gsH_nil, and_true]; try exact rfl))); (focus (exact ⟨_, _, _, rfl, by assumption, by assumption⟩)); (focus (first | exact d_l1Str _ (by decide) rfl | exact Dr.ofR (d_l1Str _ (by decide) rfl))); (focus (exact fun _ h => isS.ty h)); rintro _ rows i sd ⟨s, rfl⟩ hr hi; (simp only [cA]))
  exact ⟨⟨_, rfl⟩, _, _, _, rfl, hr, hi⟩
structure FtSt where
 s : ByteArray
 k : Nat
 rows : List (List D)
 i : Int
 h : Int
def FtSt.lay (s : FtSt) : List D := [.str s.s, .int .i64 s.k, .sl s.rows, .int .i64 s.i, .int .i64 s.h]
theorem d_l4Fitting (f : Int) : Dr 88 [.int .i64 f] isS := by
 refine Dr.of vc_spec_l4Fitting_ok rfl ty_spec_l4Fitting_ok (fun cs h => by exact ⟨rfl, cur_tys h⟩) (.str noText) ⟨_, rfl⟩ fun rows i sd f1 hl hr hi => ?_; (simp only [cA]); unfold vc_spec_l4Fitting
 ((first | apply den_draw | apply den_drawR); (iterate 2 (focus (simp only [VC.den, E.den, dEq, gsH_nil, and_true]; try exact rfl))); (focus (exact ⟨_, _, _, rfl, by assumption, by assumption⟩)); (focus (first | exact d_l4Name | exact Dr.ofR (d_l4Name))); (focus (exact fun _ h => isS.ty h)); rintro _ rows i sd ⟨s, rfl⟩ hr hi; (simp only [cA]))
 refine den_loop FtSt FtSt.lay (fun s => s.k ≤ 6 ∧ RowsTy tbl.tab [.int .u8] s.rows ∧ 0 ≤ s.i) (fun s => 6 - s.k) ⟨s, 0, rows, i, sd⟩ (fun s s' h => by simp [FtSt.lay] at h; omega) rfl ⟨by simp, hr, hi⟩ ?_
 rintro ⟨s, k, rows, i, sd⟩ ⟨hk, hr, hi⟩ -
 simp only at hk hr hi
 simp only [FtSt.lay, List.cons_append, List.nil_append]
 refine den_ite (fun h => ?_) (fun h => ?_)
 ·simp [E.den, cmpI] at h
  ((first | refine den_call ?_ (c_spec_LayerNeeds s) (⟨rfl, trivial, trivial⟩) ?_ | refine den_callR ?_ (c_spec_LayerNeeds s) (⟨rfl, trivial, trivial⟩) ?_ | refine den_call ?_ (.ofR (c_spec_LayerNeeds s)) (⟨rfl, trivial, trivial⟩) ?_); (focus (simp only [VC.den, E.den, dEq, gsH_nil, and_true]; try exact rfl)); (simp only [cA]))
  ((first | refine den_call ?_ (c_spec_Offers f (needN s)) (trivial) ?_ | refine den_callR ?_ (c_spec_Offers f (needN s)) (trivial) ?_ | refine den_call ?_ (.ofR (c_spec_Offers f (needN s))) (trivial) ?_); (focus (simp only [VC.den, E.den, dEq, gsH_nil, and_true]; try exact rfl)); (simp only [cA]))
  refine den_ite (fun h2 => ?_) (fun h2 => ?_)
  ·exact ⟨⟨_, rfl⟩, _, _, _, rfl, hr, hi⟩
  ((first | apply den_draw | apply den_drawR); (iterate 2 (focus (simp only [VC.den, E.den, dEq, gsH_nil, and_true]; try exact rfl))); (focus (exact ⟨_, _, _, rfl, by assumption, by assumption⟩)); (focus (first | exact d_l4Name | exact Dr.ofR (d_l4Name))); (focus (exact fun _ h => isS.ty h)); rintro _ rows i sd ⟨s', rfl⟩ hr hi; (simp only [cA]))
  refine ⟨⟨s', k + 1, rows, i, sd⟩, ?_, ⟨by simp only; omega, hr, hi⟩, by simp only; omega⟩
  simp [E.den, FtSt.lay]
  rw [ar_add (by omega) (by omega)]
 ·exact ⟨⟨_, rfl⟩, _, _, _, rfl, hr, hi⟩
theorem code_arg {Γ : List VT} (hΓ : Γ = [.one (.c (.sl 5))]) {ds : List D} (h : HasTys tbl.tab Γ ds) : ∃ rows, ds = [.sl rows] ∧ RowsTy tbl.tab (tbl.tab 5) rows ∧ RowsTy tbl.tab [.int .u8] rows := by
 subst hΓ
 match ds, h with
 | [d], h => obtain ⟨rows, rfl, hr⟩ := hasTy_sl h.1; exact ⟨rows, rfl, hr, by rwa [tab_u8] at hr⟩
end Go.Proofs.YtbgcaneflfdddaaGreatDoor
/- Whether a list of texts has one; where it stands. -/
namespace Go.Proofs.YtbgcaneflfdddaaGreatDoor
open Go.RowKit Go
variable [GC]
def hasB (l : List ByteArray) (s : ByteArray) : Bool := l.any fun t => decide (t = s)
theorem c_impl_hasText (l : List ByteArray) (s : ByteArray) : Fun Tryz.prog 106 none [encS l, .str s] (.bool (hasB l s)) [] := by
 refine Fun.ofV vc_impl_hasText_ok ty_impl_hasText_ok rfl ?_ (fun hfit => ?_)
 ·exact ⟨ty_strS l, trivial, trivial⟩
 have hl : l.length ≤ 9223372036854775807 := fits_encS hfit.1
 unfold vc_impl_hasText
 refine den_for l.length (fun k => [.int .i64 k]) (fun k => ∀ i, i < k → nth l i ≠ s) rfl (by omega) ?_
 intro k hk hI _
 simp only [cA]
 refine den_ite (fun h2 => ?_) (fun h2 => ?_)
 ·simp only [E.den, dEq, iEq, sEq] at h2
  have h2 : k < l.length := by simp at h2; exact h2
  (refine den_cond (fun hg => ?_) ?_; (focus (simp only [gsH, gE, E.den, dEq, iEq, sEq] at hg ⊢; (try simp only [D.bool.injEq] at hg); (try simp only [D.bool.injEq]); grind)))
  refine den_ite (fun h3 => ?_) (fun h3 => ?_)
  ·simp only [E.den, dEq, iEq, sEq, row_str, cells_str] at h3
   have hb : hasB l s = true := by
    unfold hasB; rw [List.any_eq_true]; refine ⟨s, ?_, by simp⟩
    have : nth l k = s := by grind
    rw [← this, nth, List.getD_eq_getElem?_getD, List.getElem?_eq_getElem h2]; simp
   exact den_ret (by simp [E.den, hb])
  ·simp only [E.den, dEq, iEq, sEq, row_str, cells_str] at h3
   refine den_next h2 ?_ fun i hi => ?_
   ·simp only [E.den, dEq, iEq, sEq]
    rw [ar_add (by omega) (by omega)]; rfl
   ·rcases Nat.lt_or_ge i k with h | h
    ·exact hI i h
    ·obtain rfl : i = k := by omega
     grind
 ·simp only [E.den, dEq, iEq, sEq] at h2
  obtain rfl : k = l.length := by simp at h2; omega
  have hb : hasB l s = false := by
   unfold hasB; rw [List.any_eq_false]; intro t h
   obtain ⟨i, hi, rfl⟩ := List.getElem_of_mem h
   have := hI i hi
   simpa [nth, List.getD_eq_getElem?_getD, hi] using this
  exact den_ret (by simp [E.den, hb])
theorem c_spec_l1HasText (l : List ByteArray) (s : ByteArray) : Fun Tryz.prog 134 none [encS l, .str s] (.bool (hasB l s)) [] := by
 refine Fun.ofV vc_spec_l1HasText_ok ty_spec_l1HasText_ok rfl ?_ (fun hfit => ?_)
 ·exact ⟨ty_strS l, trivial, trivial⟩
 have hl : l.length ≤ 9223372036854775807 := fits_encS hfit.1
 unfold vc_spec_l1HasText
 refine den_for l.length (fun k => [.int .i64 k]) (fun k => ∀ i, i < k → nth l i ≠ s) rfl (by omega) ?_
 intro k hk hI _
 simp only [cA]
 refine den_ite (fun h2 => ?_) (fun h2 => ?_)
 ·simp only [E.den, dEq, iEq, sEq] at h2
  have h2 : k < l.length := by simp at h2; exact h2
  (refine den_cond (fun hg => ?_) ?_; (focus (simp only [gsH, gE, E.den, dEq, iEq, sEq] at hg ⊢; (try simp only [D.bool.injEq] at hg); (try simp only [D.bool.injEq]); grind)))
  refine den_ite (fun h3 => ?_) (fun h3 => ?_)
  ·simp only [E.den, dEq, iEq, sEq, row_str, cells_str] at h3
   have hb : hasB l s = true := by
    unfold hasB; rw [List.any_eq_true]; refine ⟨s, ?_, by simp⟩
    have : nth l k = s := by grind
    rw [← this, nth, List.getD_eq_getElem?_getD, List.getElem?_eq_getElem h2]; simp
   exact den_ret (by simp [E.den, hb])
  ·simp only [E.den, dEq, iEq, sEq, row_str, cells_str] at h3
   refine den_next h2 ?_ fun i hi => ?_
   ·simp only [E.den, dEq, iEq, sEq]
    rw [ar_add (by omega) (by omega)]; rfl
   ·rcases Nat.lt_or_ge i k with h | h
    ·exact hI i h
    ·obtain rfl : i = k := by omega
     grind
 ·simp only [E.den, dEq, iEq, sEq] at h2
  obtain rfl : k = l.length := by simp at h2; omega
  have hb : hasB l s = false := by
   unfold hasB; rw [List.any_eq_false]; intro t h
   obtain ⟨i, hi, rfl⟩ := List.getElem_of_mem h
   have := hI i hi
   simpa [nth, List.getD_eq_getElem?_getD, hi] using this
  exact den_ret (by simp [E.den, hb])
end Go.Proofs.YtbgcaneflfdddaaGreatDoor
/- Methods, wants, calls, events: what the program and the reference compute. -/
namespace Go.Proofs.YtbgcaneflfdddaaGreatDoor
open Go.RowKit Go
variable [GC]
def mStart : ByteArray := ⟨#[83, 116, 97, 114, 116]⟩
def mStop : ByteArray := ⟨#[83, 116, 111, 112]⟩
def mGet : ByteArray := ⟨#[71, 101, 116]⟩
def mPut : ByteArray := ⟨#[80, 117, 116]⟩
def mTell : ByteArray := ⟨#[84, 101, 108, 108]⟩
def mHear : ByteArray := ⟨#[72, 101, 97, 114]⟩
def mLoad : ByteArray := ⟨#[76, 111, 97, 100]⟩
def mSave : ByteArray := ⟨#[83, 97, 118, 101]⟩
def mHeal : ByteArray := ⟨#[72, 101, 97, 108]⟩
def methods : Nat → List ByteArray
 | 0 => [mStart, mStop]
 | 1 => [mGet, mPut]
 | 2 => [mTell]
 | 3 => [mHear]
 | 4 => [mLoad, mSave]
 | 5 => [mHeal]
 | _ => []
theorem meth_index (k : Nat) (hk : k < 6) (v0 v1 v2 v3 v4 v5 : Value) (w : World) : (Instr.index 146 (.agg #[v0, v1, v2, v3, v4, v5]) (.int .i64 k)).run Tryz.prog w = .ok ([v0, v1, v2, v3, v4, v5].getD k (.bool false)) w := by
 obtain rfl | rfl | rfl | rfl | rfl | rfl : k = 0 ∨ k = 1 ∨ k = 2 ∨ k = 3 ∨ k = 4 ∨ k = 5 := by omega
 all_goals kernel_rfl
theorem methods_size : ∀ (k : Fin 6), ∀ s, s ∈ methods k.val → s.size ≤ maxLen := by decide
theorem t_impl_methodsOf (k : Nat) (hk : k < 6) (w : World) (M : Addr → Prop) (hM : ∀ p, M p → p.block < w.heap.size) :
  Calls Tryz.prog 107 #[.int .i64 k] w fun e w' => ∃ v, e = .returned v ∧ R w' M (encS (methods k)) v ∧ Below w.heap.size w w' := by
 have hi := meth_index k hk
 go_enter Tryz.func107, Tryz.ntmps107
 go_wp2
 go_returns
 refine ⟨_, rfl, ?_, by go_grown⟩
 have hz := methods_size ⟨k, hk⟩
 have hm : ∀ n, ∀ o, ¬ M ⟨w.heap.size + n, o, none⟩ := fun n o h => by have := hM _ h; simp at this; omega
 obtain rfl | rfl | rfl | rfl | rfl | rfl : k = 0 ∨ k = 1 ∨ k = 2 ∨ k = 3 ∨ k = 4 ∨ k = 5 := by omega
 ·exact R_strs _ (heap_old (heap_old (heap_old (heap_old (heap_old (heap_new (by simp))))))) rfl rfl (hm 0) hz (by decide)
 ·exact R_strs _ (heap_old (heap_old (heap_old (heap_old (heap_new (by simp)))))) rfl rfl (hm 1) hz (by decide)
 ·exact R_strs _ (heap_old (heap_old (heap_old (heap_new (by simp))))) rfl rfl (hm 2) hz (by decide)
 ·exact R_strs _ (heap_old (heap_old (heap_new (by simp)))) rfl rfl (hm 3) hz (by decide)
 ·exact R_strs _ (heap_old (heap_new (by simp))) rfl rfl (hm 4) hz (by decide)
 ·exact R_strs _ (heap_new (by simp)) rfl rfl (hm 5) hz (by decide)
theorem c_impl_methodsOf (k : Nat) (hk : k < 6) : Fun Tryz.prog 107 none [.int .i64 k] (encS (methods k)) [] := by
 refine Fun.of_calls (by kernel_rfl) fun w M vs hM hr => ?_
 obtain ⟨v, q, rfl, ⟨rfl, _⟩, rfl⟩ := hr
 exact t_impl_methodsOf k hk w M hM
theorem c_spec_l2Methods (k : Nat) (hk : k < 6) : FunR Tryz.prog 135 none [.int .i64 k] (encS (methods k)) [] [(0, 1)] := by
 refine FunR.ofV vc_spec_l2Methods_ok ty_spec_l2Methods_ok rt_spec_l2Methods_ok rfl ?_ (fun hfit => ?_)
 ·exact ⟨rfl, trivial⟩
 unfold vc_spec_l2Methods
 obtain rfl | rfl | rfl | rfl | rfl | rfl : k = 0 ∨ k = 1 ∨ k = 2 ∨ k = 3 ∨ k = 4 ∨ k = 5 := by omega
 all_goals
  simp [VC.den, E.den, cmpI]
  rfl
def abP (s : ByteArray) (k : Nat) : Bool := hasB (methods k) s
def abM (s : ByteArray) : Int := match firstTo (abP s) 6 with | some k => k | none => -1
theorem c_impl_AbilityOfMethod (s : ByteArray) : Fun Tryz.prog 66 none [.str s] (.int .i64 (abM s)) [] := by
 refine Fun.ofV vc_impl_AbilityOfMethod_ok ty_impl_AbilityOfMethod_ok rfl ?_ (fun hfit => ?_)
 ·exact ⟨trivial, trivial⟩
 unfold vc_impl_AbilityOfMethod
 refine den_for 6 (fun k => [.int .i64 k]) (fun k => ∀ i, i < k → abP s i = false) rfl (by omega) ?_
 intro k hk hI _
 simp only [cA]
 refine den_ite (fun h2 => ?_) (fun h2 => ?_)
 ·simp only [E.den, dEq, iEq, sEq] at h2
  have h2 : k < 6 := by simp at h2; omega
  ((first | refine den_call ?_ (c_impl_methodsOf k h2) (ty_strS _) ?_ | refine den_callR ?_ (c_impl_methodsOf k h2) (ty_strS _) ?_ | refine den_call ?_ (.ofR (c_impl_methodsOf k h2)) (ty_strS _) ?_); (focus (simp only [VC.den, E.den, dEq, gsH_nil, and_true]; try exact rfl)); (simp only [cA]))
  ((first | refine den_call ?_ (c_impl_hasText (methods k) s) (trivial) ?_ | refine den_callR ?_ (c_impl_hasText (methods k) s) (trivial) ?_ | refine den_call ?_ (.ofR (c_impl_hasText (methods k) s)) (trivial) ?_); (focus (simp only [VC.den, E.den, dEq, gsH_nil, and_true]; try exact rfl)); (simp only [cA]))
  refine den_ite (fun h3 => ?_) (fun h3 => ?_)
  ·simp only [E.den, dEq, iEq, sEq] at h3
   refine den_ret ?_
   simp [E.den, abM, firstTo_some h3 hI h2]
  ·simp only [E.den, dEq, iEq, sEq] at h3
   refine den_next h2 ?_ fun i hi => ?_
   ·simp only [E.den, dEq, iEq, sEq]
    rw [ar_add (by omega) (by omega)]; rfl
   ·rcases Nat.lt_or_ge i k with h | h
    ·exact hI i h
    ·obtain rfl : i = k := by omega
     exact h3
 ·simp only [E.den, dEq, iEq, sEq] at h2
  obtain rfl : k = 6 := by simp at h2; omega
  exact den_ret (by simp [E.den, abM, firstTo_none hI])
theorem c_spec_AbilityOfMethod (s : ByteArray) : Fun Tryz.prog 112 none [.str s] (.int .i64 (abM s)) [] := by
 refine Fun.ofV vc_spec_AbilityOfMethod_ok ty_spec_AbilityOfMethod_ok rfl ?_ (fun hfit => ?_)
 ·exact ⟨trivial, trivial⟩
 unfold vc_spec_AbilityOfMethod
 refine den_for 6 (fun k => [.int .i64 k]) (fun k => ∀ i, i < k → abP s i = false) rfl (by omega) ?_
 intro k hk hI _
 simp only [cA]
 refine den_ite (fun h2 => ?_) (fun h2 => ?_)
 ·simp only [E.den, dEq, iEq, sEq] at h2
  have h2 : k < 6 := by simp at h2; omega
  ((first | refine den_call ?_ (c_spec_l2Methods k h2) (ty_strS _) ?_ | refine den_callR ?_ (c_spec_l2Methods k h2) (ty_strS _) ?_ | refine den_call ?_ (.ofR (c_spec_l2Methods k h2)) (ty_strS _) ?_); (focus (simp only [VC.den, E.den, dEq, gsH_nil, and_true]; try exact rfl)); (simp only [cA]))
  ((first | refine den_call ?_ (c_spec_l1HasText (methods k) s) (trivial) ?_ | refine den_callR ?_ (c_spec_l1HasText (methods k) s) (trivial) ?_ | refine den_call ?_ (.ofR (c_spec_l1HasText (methods k) s)) (trivial) ?_); (focus (simp only [VC.den, E.den, dEq, gsH_nil, and_true]; try exact rfl)); (simp only [cA]))
  refine den_ite (fun h3 => ?_) (fun h3 => ?_)
  ·simp only [E.den, dEq, iEq, sEq] at h3
   refine den_ret ?_
   simp [E.den, abM, firstTo_some h3 hI h2]
  ·simp only [E.den, dEq, iEq, sEq] at h3
   refine den_next h2 ?_ fun i hi => ?_
   ·simp only [E.den, dEq, iEq, sEq]
    rw [ar_add (by omega) (by omega)]; rfl
   ·rcases Nat.lt_or_ge i k with h | h
    ·exact hI i h
    ·obtain rfl : i = k := by omega
     exact h3
 ·simp only [E.den, dEq, iEq, sEq] at h2
  obtain rfl : k = 6 := by simp at h2; omega
  exact den_ret (by simp [E.den, abM, firstTo_none hI])
theorem abM_lt (s : ByteArray) : abM s < 6 := by
 unfold abM
 cases h : firstTo (abP s) 6 with
 | none => simp
 | some k => have := (firstTo_lt h).1; simp; omega
def wantZ (s : ByteArray) : Int := if abM s < 0 then 0 else ((2 ^ (abM s).toNat : Nat) : Int)
theorem wantZ_zero (s : ByteArray) : (wantZ s = 0) ↔ abM s < 0 := by
 unfold wantZ
 split
 ·simp [*]
 ·have := Nat.two_pow_pos (abM s).toNat
  constructor <;> intro h <;> omega
theorem c_spec_WantOf (s : ByteArray) : Fun Tryz.prog 75 none [.str s] (.int .i64 (wantZ s)) [] := by
 refine Fun.ofV vc_spec_WantOf_ok ty_spec_WantOf_ok rfl ?_ (fun hfit => ?_)
 ·exact ⟨trivial, trivial⟩
 unfold vc_spec_WantOf
 ((first | refine den_call ?_ (c_spec_AbilityOfMethod s) (rfl) ?_ | refine den_callR ?_ (c_spec_AbilityOfMethod s) (rfl) ?_ | refine den_call ?_ (.ofR (c_spec_AbilityOfMethod s)) (rfl) ?_); (focus (simp only [VC.den, E.den, dEq, gsH_nil, and_true]; try exact rfl)); (simp only [cA]))
 refine den_ite (fun h => ?_) (fun h => ?_)
 ·simp only [E.den, dEq, iEq, sEq] at h
  have h : abM s < 0 := by simpa using h
  exact den_ret (by simp [E.den, wantZ, h])
 simp only [E.den, dEq, iEq, sEq] at h
 have h : ¬ abM s < 0 := by simpa using h
 have h6 := abM_lt s
 refine den_cond (fun _ => ?_) (den_ret ?_)
 ·simp [E.den, cmpI]; omega
 ·have e := allow_shl ⟨(abM s).toNat, by omega⟩
  have e2 : (((abM s).toNat : Nat) : Int) = abM s := by omega
  rw [e2] at e
  simp only [E.den, dEq, iEq, sEq, e]
  simp [wantZ, h]
def callB (c : Call) : Bool := !decide (abM c.method < 0) && (decide (c.text = noText) || decide (c.method = mLoad)) &&
 ((decide (c.method = mGet) || decide (c.method = mPut)) && nameB c.key || !(decide (c.method = mGet) || decide (c.method = mPut)) && decide (c.key = noText)) &&
 (decide (c.val = 0) || (decide (c.method = mPut) || decide (c.method = mHear)) && decide (0 < c.val) && decide (c.val ≤ 999))
theorem m_ne : mGet ≠ mPut ∧ mGet ≠ mHear ∧ mPut ≠ mHear := by decide
theorem c_spec_IsCall (c : Call) : Fun Tryz.prog 54 none [enc c] (.bool (callB c)) [] := by
 refine Fun.ofV vc_spec_IsCall_ok ty_spec_IsCall_ok rfl ?_ (fun hfit => ?_)
 ·exact ⟨ty_Call c, trivial⟩
 unfold vc_spec_IsCall
 ((first | refine den_call ?_ (c_spec_WantOf c.method) (rfl) ?_ | refine den_callR ?_ (c_spec_WantOf c.method) (rfl) ?_ | refine den_call ?_ (.ofR (c_spec_WantOf c.method)) (rfl) ?_); (focus (simp only [VC.den, E.den, dEq, gsH_nil, and_true, cells_Call]; try exact rfl)); (simp only [cA]))
 ((first | refine den_call ?_ (c_spec_IsName c.key) (trivial) ?_ | refine den_callR ?_ (c_spec_IsName c.key) (trivial) ?_ | refine den_call ?_ (.ofR (c_spec_IsName c.key)) (trivial) ?_); (focus (simp only [VC.den, E.den, dEq, gsH_nil, and_true, cells_Call]; try exact rfl)); (simp only [cA]))
 refine den_ite (fun h => ?_) (fun h => ?_)
 ·simp only [E.den, dEq, iEq, sEq, cells_Call] at h
  have := wantZ_zero c.method
  have := m_ne
  refine den_ret ?_
  simp only [E.den, D.bool.injEq]
  unfold callB mGet mPut mHear mLoad noText at *; grind
 simp only [E.den, dEq, iEq, sEq, cells_Call] at h
 have := wantZ_zero c.method
 have := m_ne
 refine den_ret ?_
 simp only [E.den, dEq, iEq, sEq, cells_Call]
 simp only [D.bool.injEq]
 unfold callB mGet mPut mHear mLoad noText at *; grind
theorem c_impl_IsCall (c : Call) : Fun Tryz.prog 21 none [enc c] (.bool (callB c)) [] := by
 refine Fun.ofV vc_impl_IsCall_ok ty_impl_IsCall_ok rfl ?_ (fun hfit => ?_)
 ·exact ⟨ty_Call c, trivial⟩
 have hn := m_ne
 unfold vc_impl_IsCall
 ((first | refine den_call ?_ (c_impl_AbilityOfMethod c.method) (rfl) ?_ | refine den_callR ?_ (c_impl_AbilityOfMethod c.method) (rfl) ?_ | refine den_call ?_ (.ofR (c_impl_AbilityOfMethod c.method)) (rfl) ?_); (focus (simp only [VC.den, E.den, dEq, gsH_nil, and_true, cells_Call]; try exact rfl)); (simp only [cA]))
 refine den_ite (fun h => ?_) (fun h => ?_)
 ·simp only [E.den, dEq, iEq, sEq, cells_Call] at h
  refine den_ret ?_
  simp only [E.den, D.bool.injEq]
  unfold callB mGet mPut mHear mLoad noText at *; grind
 simp only [E.den, dEq, iEq, sEq, cells_Call] at h
 refine den_ite (fun h1 => ?_) (fun h1 => ?_)
 ·simp only [E.den, dEq, iEq, sEq, cells_Call] at h1
  ((first | refine den_call ?_ (c_impl_IsName c.key) (trivial) ?_ | refine den_callR ?_ (c_impl_IsName c.key) (trivial) ?_ | refine den_call ?_ (.ofR (c_impl_IsName c.key)) (trivial) ?_); (focus (simp only [VC.den, E.den, dEq, gsH_nil, and_true, cells_Call]; try exact rfl)); (simp only [cA]))
  refine den_ret ?_
  simp only [E.den, dEq, iEq, sEq, cells_Call]
  simp only [D.bool.injEq]
  unfold callB mGet mPut mHear mLoad noText at *; grind
 simp only [E.den, dEq, iEq, sEq, cells_Call] at h1
 refine den_ite (fun h2 => ?_) (fun h2 => ?_)
 ·simp only [E.den, dEq, iEq, sEq, cells_Call] at h2
  ((first | refine den_call ?_ (c_impl_IsName c.key) (trivial) ?_ | refine den_callR ?_ (c_impl_IsName c.key) (trivial) ?_ | refine den_call ?_ (.ofR (c_impl_IsName c.key)) (trivial) ?_); (focus (simp only [VC.den, E.den, dEq, gsH_nil, and_true, cells_Call]; try exact rfl)); (simp only [cA]))
  ((first | refine den_call ?_ (c_impl_isNumber c.val) (trivial) ?_ | refine den_callR ?_ (c_impl_isNumber c.val) (trivial) ?_ | refine den_call ?_ (.ofR (c_impl_isNumber c.val)) (trivial) ?_); (focus (simp only [VC.den, E.den, dEq, gsH_nil, and_true, cells_Call]; try exact rfl)); (simp only [cA]))
  refine den_ret ?_
  simp only [E.den, dEq, iEq, sEq, cells_Call]
  simp only [D.bool.injEq]
  unfold callB mGet mPut mHear mLoad noText numB at *; grind
 simp only [E.den, dEq, iEq, sEq, cells_Call] at h2
 refine den_ite (fun h3 => ?_) (fun h3 => ?_)
 ·simp only [E.den, dEq, iEq, sEq, cells_Call] at h3
  ((first | refine den_call ?_ (c_impl_isNumber c.val) (trivial) ?_ | refine den_callR ?_ (c_impl_isNumber c.val) (trivial) ?_ | refine den_call ?_ (.ofR (c_impl_isNumber c.val)) (trivial) ?_); (focus (simp only [VC.den, E.den, dEq, gsH_nil, and_true, cells_Call]; try exact rfl)); (simp only [cA]))
  refine den_ret ?_
  simp only [E.den, dEq, iEq, sEq, cells_Call]
  simp only [D.bool.injEq]
  unfold callB mGet mPut mHear mLoad noText numB at *; grind
 simp only [E.den, dEq, iEq, sEq, cells_Call] at h3
 refine den_ret ?_
 simp only [E.den, dEq, iEq, sEq, cells_Call]
 simp only [D.bool.injEq]
 unfold callB mGet mPut mHear mLoad noText at *; grind
end Go.Proofs.YtbgcaneflfdddaaGreatDoor
/- Texts: numerals of three digits, cutting and joining. Plain mathematics over lists of bytes. -/
namespace Go.Proofs.YtbgcaneflfdddaaGreatDoor
def dig3 (n : Nat) : List UInt8 :=
 if n < 10 then [UInt8.ofNat (48 + n)] else if n < 100 then [UInt8.ofNat (48 + n / 10), UInt8.ofNat (48 + n % 10)] else [UInt8.ofNat (48 + n / 100), UInt8.ofNat (48 + n / 10 % 10), UInt8.ofNat (48 + n % 10)]
theorem dec3 {n : Nat} (h : n < 1000) : Lib.decDigits n = dig3 n := by
 unfold dig3
 by_cases h1 : n < 10
 ·rw [if_pos h1, Lib.decDigits, dif_pos h1]
 ·rw [if_neg h1, Lib.decDigits, dif_neg h1]
  by_cases h2 : n < 100
  ·rw [if_pos h2, Lib.decDigits, dif_pos (by omega)]; rfl
  ·rw [if_neg h2, Lib.decDigits, dif_neg (by omega), Lib.decDigits, dif_pos (by omega), show n / 10 / 10 = n / 100 by omega]; rfl
def isDig (b : UInt8) : Bool := decide (48 ≤ b.toNat ∧ b.toNat ≤ 57)
def rd4 (l : List UInt8) : Int := (l.take 4).foldl (fun n c => 10 * n + (c.toNat : Int) - 48) 0
theorem dig3_facts : ∀ n ∈ List.range 1000, (Lib.atoi (dig3 n) = some (n : Int) ∧ rd4 (dig3 n) = (n : Int) ∧ 0 < (dig3 n).length ∧ (dig3 n).length ≤ 3) ∧ (dig3 n).all isDig = true := by decide +kernel
theorem dig3_atoi {n : Nat} (h : n < 1000) : Lib.atoi (dig3 n) = some (n : Int) := (dig3_facts n (List.mem_range.2 h)).1.1
theorem dig3_pos {n : Nat} (h : n < 1000) : 0 < (dig3 n).length := (dig3_facts n (List.mem_range.2 h)).1.2.2.1
theorem dig3_le {n : Nat} (h : n < 1000) : (dig3 n).length ≤ 3 := (dig3_facts n (List.mem_range.2 h)).1.2.2.2
theorem dig3_inj {n m : Nat} (hn : n < 1000) (hm : m < 1000) (h : dig3 n = dig3 m) : n = m := by
 have h1 := dig3_atoi hn
 have h2 := dig3_atoi hm
 rw [h, h2] at h1
 simp at h1; omega
def numO (l : List UInt8) : Option Nat := (List.range 1000).find? fun n => decide (dig3 n = l)
theorem numO_some {l : List UInt8} {n : Nat} : numO l = some n ↔ n < 1000 ∧ dig3 n = l := by
 unfold numO
 constructor
 ·intro h
  exact ⟨List.mem_range.1 (List.mem_of_find?_eq_some h), by simpa using List.find?_some h⟩
 ·rintro ⟨h1, h2⟩
  cases hf : (List.range 1000).find? fun n => decide (dig3 n = l) with
  | none => have := List.find?_eq_none.1 hf n (List.mem_range.2 h1); simp [h2] at this
  | some m =>
   have hm := List.mem_range.1 (List.mem_of_find?_eq_some hf)
   have he : dig3 m = l := by simpa using List.find?_some hf
   rw [dig3_inj hm h1 (he.trans h2.symm)]
theorem numO_dig {n : Nat} (h : n < 1000) : numO (dig3 n) = some n := numO_some.2 ⟨h, rfl⟩
/-! Cutting -/
theorem split_miss {s sep : List UInt8} (h : Lib.index s sep = -1) : Lib.split s sep = [s] := by
 unfold Lib.split
 rw [Lib.count_miss h]; rfl
theorem split_hit {s sep : List UInt8} {i : Nat} (hsep : sep ≠ []) (h : Lib.index s sep = i) : Lib.split s sep = s.take i :: Lib.split (s.drop (i + sep.length)) sep := by
 unfold Lib.split
 rw [Lib.count_hit hsep h, Nat.add_comm 1, Lib.splitK]
 rw [if_neg (by rw [h]; simp), h]
 simp
theorem join_split {sep : List UInt8} (hsep : sep ≠ []) : ∀ (n : Nat) (s : List UInt8), s.length ≤ n → Lib.join (Lib.split s sep) sep = s ∧ Lib.split s sep ≠ []
 | n, s, hn => by
  rcases Lib.index_spec s sep with ⟨h, _⟩ | ⟨i, h, h1, h2, _⟩
  ·rw [split_miss h]; exact ⟨Lib.join_one _ _, by simp⟩
  ·rw [split_hit hsep h]
   have hroom := Lib.index_room s sep (by rw [h]; omega)
   have hpos : 0 < sep.length := List.length_pos_iff.2 hsep
   rw [h] at hroom
   have hlt : (s.drop (i + sep.length)).length < s.length := by simp; omega
   cases n with
   | zero => omega
   | succ n =>
    obtain ⟨q1, q2⟩ := join_split hsep n (s.drop (i + sep.length)) (by omega)
    refine ⟨?_, by simp⟩
    cases hsp : Lib.split (s.drop (i + sep.length)) sep with
    | nil => exact absurd hsp q2
    | cons y r =>
     rw [hsp] at q1
     have e : Lib.join (s.take i :: y :: r) sep = s.take i ++ (sep ++ Lib.join (y :: r) sep) := by
      rw [Lib.join_cons, Lib.join_cons]
      simp [Lib.joinTail]
     rw [e, q1]
     have hocc := Lib.occAt_iff_take s sep i (by omega)
     rw [h2] at hocc
     have hs : (s.drop i).take sep.length = sep := by simpa using hocc.symm
     have e2 : s.drop (i + sep.length) = (s.drop i).drop sep.length := by rw [List.drop_drop]
     rw [e2]
     conv => lhs; rw [show sep ++ (s.drop i).drop sep.length = (s.drop i).take sep.length ++ (s.drop i).drop sep.length by rw [hs]]
     rw [List.take_append_drop, List.take_append_drop]
end Go.Proofs.YtbgcaneflfdddaaGreatDoor
