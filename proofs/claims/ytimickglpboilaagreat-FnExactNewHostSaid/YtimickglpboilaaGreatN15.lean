/- Cores, parts, recipes: what the program and the reference compute. -/
import Derived.Test.YtimickglpboilaaGreatN14
import Derived.Test.YtimickglpboilaaGreatN0
set_option linter.unusedVariables false
set_option linter.unusedSimpArgs false
set_option maxRecDepth 100000
set_option linter.unusedSectionVars false
namespace Go.Proofs.YtimickglpboilaaGreat
open Go.RowKit Go
variable [GC]
def cellB (l : List Cell) (k : Nat) : Bool := nameB (nth l k).key && numB (nth l k).val && (k == 0 || ltB (nth l (k - 1)).key (nth l k).key)
def cellsB (l : List Cell) : Bool := decide (l.length ≤ 4) && allTo (cellB l) l.length
theorem sub_one {k : Nat} (h : 0 < k) (hk : k ≤ 9223372036854775807) : (arI .sub .i64 (k : Int) 1).toNat = k - 1 := by
 rw [ar_sub (by omega) (by omega)]; omega
theorem c_impl_IsCells (l : List Cell) : Fun Tryz.prog 118 none [encS l] (.bool (cellsB l)) [] := by
 refine Fun.ofV vc_impl_IsCells_ok ty_impl_IsCells_ok rfl ?_ (fun hfit => ?_)
 ·exact ⟨ty_CellS l, trivial⟩
 have hl : l.length ≤ 9223372036854775807 := fits_encS hfit.1
 unfold vc_impl_IsCells
 refine den_ite (fun h => ?_) (fun h => ?_)
 ·simp only [E.den, dEq, iEq, sEq] at h
  refine den_ret ?_
  simp only [E.den, D.bool.injEq]
  unfold cellsB; grind
 simp only [E.den, dEq, iEq, sEq] at h
 have h4 : l.length ≤ 4 := by grind
 refine den_for l.length (fun k => [.int .i64 k]) (fun k => allTo (cellB l) k = true) rfl rfl ?_
 intro k hk hI _
 simp only [cA]
 refine den_ite (fun h2 => ?_) (fun h2 => ?_)
 ·simp only [E.den, dEq, iEq, sEq] at h2
  have h2 : k < l.length := by simp at h2; exact h2
  (refine den_cond (fun hg => ?_) ?_; (focus (simp only [gsH, gE, E.den, dEq, iEq, sEq] at hg ⊢; (try simp only [D.bool.injEq] at hg); (try simp only [D.bool.injEq]); grind)))
  ((first | refine den_call ?_ (c_impl_IsName (nth l k).key) (trivial) ?_ | refine den_callR ?_ (c_impl_IsName (nth l k).key) (trivial) ?_ | refine den_call ?_ (.ofR (c_impl_IsName (nth l k).key)) (trivial) ?_); (focus (simp only [VC.den, E.den, dEq, gsH_nil, and_true, row_Cell, cells_Cell, Int.toNat_natCast]; try exact rfl)); (simp only [cA]))
  ((first | refine den_call ?_ (c_impl_isNumber (nth l k).val) (trivial) ?_ | refine den_callR ?_ (c_impl_isNumber (nth l k).val) (trivial) ?_ | refine den_call ?_ (.ofR (c_impl_isNumber (nth l k).val)) (trivial) ?_); (focus (simp only [VC.den, E.den, dEq, gsH_nil, and_true, row_Cell, cells_Cell, Int.toNat_natCast]; try exact rfl)); (simp only [cA]))
  refine den_cond (fun hg => ?_) ?_
  ·simp [gsH, E.den, cmpI] at hg ⊢
   rw [ar_sub (by omega) (by omega)]; omega
  refine den_ite (fun h3 => ?_) (fun h3 => ?_)
  ·simp only [E.den, dEq, iEq, sEq, row_Cell, cells_Cell] at h3
   have hb : cellB l k = false := by
    unfold cellB
    by_cases e : 0 < k
    ·rw [sub_one e (by omega)] at h3; grind
    ·grind
   refine den_ret ?_
   simp [E.den, cellsB, allTo_bad h2 hb]
  ·simp only [E.den, dEq, iEq, sEq, row_Cell, cells_Cell] at h3
   have hb : cellB l k = true := by
    unfold cellB
    by_cases e : 0 < k
    ·rw [sub_one e (by omega)] at h3; grind
    ·grind
   refine den_next h2 ?_ (show (allTo (cellB l) k && cellB l k) = true by rw [hI, hb]; rfl)
   simp only [E.den, dEq, iEq, sEq]
   rw [ar_add (by omega) (by omega)]; rfl
 ·simp only [E.den, dEq, iEq, sEq] at h2
  obtain rfl : k = l.length := by simp at h2; omega
  exact den_ret (by simp [E.den, cellsB, hI, h4])
theorem c_spec_IsCells (l : List Cell) : Fun Tryz.prog 116 none [encS l] (.bool (cellsB l)) [] := by
 refine Fun.ofV vc_spec_IsCells_ok ty_spec_IsCells_ok rfl ?_ (fun hfit => ?_)
 ·exact ⟨ty_CellS l, trivial⟩
 have hl : l.length ≤ 9223372036854775807 := fits_encS hfit.1
 unfold vc_spec_IsCells
 refine den_for l.length (fun k => [.int .i64 k]) (fun k => allTo (cellB l) k = true) rfl rfl ?_
 intro k hk hI _
 simp only [cA]
 refine den_ite (fun h2 => ?_) (fun h2 => ?_)
 ·simp only [E.den, dEq, iEq, sEq] at h2
  have h2 : k < l.length := by simp at h2; exact h2
  (refine den_cond (fun hg => ?_) ?_; (focus (simp only [gsH, gE, E.den, dEq, iEq, sEq] at hg ⊢; (try simp only [D.bool.injEq] at hg); (try simp only [D.bool.injEq]); grind)))
  ((first | refine den_call ?_ (c_spec_IsName (nth l k).key) (trivial) ?_ | refine den_callR ?_ (c_spec_IsName (nth l k).key) (trivial) ?_ | refine den_call ?_ (.ofR (c_spec_IsName (nth l k).key)) (trivial) ?_); (focus (simp only [VC.den, E.den, dEq, gsH_nil, and_true, row_Cell, cells_Cell, Int.toNat_natCast]; try exact rfl)); (simp only [cA]))
  refine den_cond (fun hg => ?_) ?_
  ·simp [gsH, E.den, cmpI] at hg ⊢
   rw [ar_sub (by omega) (by omega)]; omega
  refine den_ite (fun h3 => ?_) (fun h3 => ?_)
  ·simp only [E.den, dEq, iEq, sEq, row_Cell, cells_Cell] at h3
   have hb : cellB l k = false := by
    unfold cellB numB
    by_cases e : 0 < k
    ·rw [sub_one e (by omega)] at h3; grind
    ·grind
   refine den_ret ?_
   simp [E.den, cellsB, allTo_bad h2 hb]
  ·simp only [E.den, dEq, iEq, sEq, row_Cell, cells_Cell] at h3
   have hb : cellB l k = true := by
    unfold cellB numB
    by_cases e : 0 < k
    ·rw [sub_one e (by omega)] at h3; grind
    ·grind
   refine den_next h2 ?_ (show (allTo (cellB l) k && cellB l k) = true by rw [hI, hb]; rfl)
   simp only [E.den, dEq, iEq, sEq]
   rw [ar_add (by omega) (by omega)]; rfl
 ·simp only [E.den, dEq, iEq, sEq] at h2
  obtain rfl : k = l.length := by simp at h2; omega
  refine den_ret ?_
  simp only [E.den, dEq, iEq, sEq]
  simp only [cellsB, hI, Bool.and_true, D.bool.injEq]
  grind
def newCore (s : ByteArray) : Core := if kindOk s then ⟨s, false, false, [], 0⟩ else ⟨⟨#[]⟩, false, false, [], 0⟩
theorem c_impl_NewCore (s : ByteArray) : FunR Tryz.prog 89 none [.str s] (.tup [enc (newCore s), .bool (kindOk s)]) [] [(3, 2)] := by
 refine FunR.ofV vc_impl_NewCore_ok ty_impl_NewCore_ok rt_impl_NewCore_ok rfl ?_ (fun hfit => ?_)
 ·exact ⟨trivial, trivial⟩
 unfold vc_impl_NewCore
 ((first | refine den_call ?_ (c_impl_KindFace s) (⟨rfl, trivial, trivial⟩) ?_ | refine den_callR ?_ (c_impl_KindFace s) (⟨rfl, trivial, trivial⟩) ?_ | refine den_call ?_ (.ofR (c_impl_KindFace s)) (⟨rfl, trivial, trivial⟩) ?_); (focus (simp only [VC.den, E.den, dEq, gsH_nil, and_true]; try exact rfl)); (simp only [cA]))
 refine den_ite (fun h => ?_) (fun h => ?_)
 ·simp only [E.den, dEq, iEq, sEq] at h
  have h : kindOk s = false := by simpa using h
  exact den_ret (by simp only [newCore, h]; rfl)
 ·simp only [E.den, dEq, iEq, sEq] at h
  have h : kindOk s = true := by simpa using h
  exact den_ret (by simp only [newCore, h]; rfl)
theorem c_spec_NewCore (s : ByteArray) : FunR Tryz.prog 76 none [.str s] (.tup [enc (newCore s), .bool (kindOk s)]) [] [(3, 2)] := by
 refine FunR.ofV vc_spec_NewCore_ok ty_spec_NewCore_ok rt_spec_NewCore_ok rfl ?_ (fun hfit => ?_)
 ·exact ⟨trivial, trivial⟩
 unfold vc_spec_NewCore
 ((first | refine den_call ?_ (c_spec_KindFace s) (⟨rfl, trivial, trivial⟩) ?_ | refine den_callR ?_ (c_spec_KindFace s) (⟨rfl, trivial, trivial⟩) ?_ | refine den_call ?_ (.ofR (c_spec_KindFace s)) (⟨rfl, trivial, trivial⟩) ?_); (focus (simp only [VC.den, E.den, dEq, gsH_nil, and_true]; try exact rfl)); (simp only [cA]))
 refine den_ite (fun h => ?_) (fun h => ?_)
 ·simp only [E.den, dEq, iEq, sEq] at h
  have h : kindOk s = false := by simpa using h
  exact den_ret (by simp only [newCore, h]; rfl)
 ·simp only [E.den, dEq, iEq, sEq] at h
  have h : kindOk s = true := by simpa using h
  exact den_ret (by simp only [newCore, h]; rfl)
def coreB (p : Core) : Bool := kindOk p.kind && cellsB p.cells && (p.cells.length == 0 || (kindN p.kind).testBit 1) && numB p.count && !(p.on && p.broken) && ((kindN p.kind).testBit 0 || (!p.on && !p.broken))
theorem bit1 : ∀ n : Fin 64, cmpI .eql (arI .and .i64 ((n.val : Nat) : Int) 2) 0 = !n.val.testBit 1 := by decide +kernel
theorem bit0 : ∀ n : Fin 64, cmpI .eql (arI .and .i64 ((n.val : Nat) : Int) 1) 1 = n.val.testBit 0 := by decide +kernel
theorem c_impl_IsCore (p : Core) : Fun Tryz.prog 111 none [enc p] (.bool (coreB p)) [] := by
 refine Fun.ofV vc_impl_IsCore_ok ty_impl_IsCore_ok rfl ?_ (fun hfit => ?_)
 ·exact ⟨ty_Core p, trivial⟩
 have b1 := bit1 ⟨kindN p.kind, kindN_lt _⟩
 have b0 := bit0 ⟨kindN p.kind, kindN_lt _⟩
 simp only [cmpI_eql] at b1 b0
 unfold vc_impl_IsCore
 ((first | refine den_call ?_ (c_impl_KindFace p.kind) (⟨rfl, trivial, trivial⟩) ?_ | refine den_callR ?_ (c_impl_KindFace p.kind) (⟨rfl, trivial, trivial⟩) ?_ | refine den_call ?_ (.ofR (c_impl_KindFace p.kind)) (⟨rfl, trivial, trivial⟩) ?_); (focus (simp only [VC.den, E.den, dEq, gsH_nil, and_true, cells_Core]; try exact rfl)); (simp only [cA]))
 ((first | refine den_call ?_ (c_impl_IsCells p.cells) (trivial) ?_ | refine den_callR ?_ (c_impl_IsCells p.cells) (trivial) ?_ | refine den_call ?_ (.ofR (c_impl_IsCells p.cells)) (trivial) ?_); (focus (simp only [VC.den, E.den, dEq, gsH_nil, and_true, cells_Core]; try exact rfl)); (simp only [cA]))
 ((first | refine den_call ?_ (c_impl_isNumber p.count) (trivial) ?_ | refine den_callR ?_ (c_impl_isNumber p.count) (trivial) ?_ | refine den_call ?_ (.ofR (c_impl_isNumber p.count)) (trivial) ?_); (focus (simp only [VC.den, E.den, dEq, gsH_nil, and_true, cells_Core]; try exact rfl)); (simp only [cA]))
 refine den_ite (fun h => ?_) (fun h => ?_)
 ·simp only [E.den, dEq, iEq, sEq, cells_Core, b1] at h
  refine den_ret ?_
  simp only [E.den, D.bool.injEq]
  unfold coreB; grind
 ·simp only [E.den, dEq, iEq, sEq, cells_Core, b1] at h
  refine den_ret ?_
  simp only [E.den, dEq, iEq, sEq, cells_Core, b0]
  simp only [D.bool.injEq]
  unfold coreB; grind
theorem c_spec_IsCore (p : Core) : Fun Tryz.prog 104 none [enc p] (.bool (coreB p)) [] := by
 refine Fun.ofV vc_spec_IsCore_ok ty_spec_IsCore_ok rfl ?_ (fun hfit => ?_)
 ·exact ⟨ty_Core p, trivial⟩
 unfold vc_spec_IsCore
 ((first | refine den_call ?_ (c_spec_KindFace p.kind) (⟨rfl, trivial, trivial⟩) ?_ | refine den_callR ?_ (c_spec_KindFace p.kind) (⟨rfl, trivial, trivial⟩) ?_ | refine den_call ?_ (.ofR (c_spec_KindFace p.kind)) (⟨rfl, trivial, trivial⟩) ?_); (focus (simp only [VC.den, E.den, dEq, gsH_nil, and_true, cells_Core]; try exact rfl)); (simp only [cA]))
 ((first | refine den_call ?_ (c_spec_l2Has (kindN p.kind) 0 (kindN_lt _) (by omega)) (trivial) ?_ | refine den_callR ?_ (c_spec_l2Has (kindN p.kind) 0 (kindN_lt _) (by omega)) (trivial) ?_ | refine den_call ?_ (.ofR (c_spec_l2Has (kindN p.kind) 0 (kindN_lt _) (by omega))) (trivial) ?_); (focus (simp only [VC.den, E.den, dEq, gsH_nil, and_true]; try exact rfl)); (simp only [cA]))
 ((first | refine den_call ?_ (c_spec_IsCells p.cells) (trivial) ?_ | refine den_callR ?_ (c_spec_IsCells p.cells) (trivial) ?_ | refine den_call ?_ (.ofR (c_spec_IsCells p.cells)) (trivial) ?_); (focus (simp only [VC.den, E.den, dEq, gsH_nil, and_true, cells_Core]; try exact rfl)); (simp only [cA]))
 ((first | refine den_call ?_ (c_spec_l2Has (kindN p.kind) 1 (kindN_lt _) (by omega)) (trivial) ?_ | refine den_callR ?_ (c_spec_l2Has (kindN p.kind) 1 (kindN_lt _) (by omega)) (trivial) ?_ | refine den_call ?_ (.ofR (c_spec_l2Has (kindN p.kind) 1 (kindN_lt _) (by omega))) (trivial) ?_); (focus (simp only [VC.den, E.den, dEq, gsH_nil, and_true]; try exact rfl)); (simp only [cA]))
 refine den_ite (fun h => ?_) (fun h => ?_)
 ·simp only [E.den, dEq, iEq, sEq, cells_Core] at h
  refine den_ret ?_
  simp only [E.den, D.bool.injEq]
  unfold coreB numB; grind
 ·simp only [E.den, dEq, iEq, sEq, cells_Core] at h
  refine den_ret ?_
  simp only [E.den, dEq, iEq, sEq, cells_Core]
  simp only [D.bool.injEq]
  unfold coreB numB; grind
theorem c_impl_copyCore (p : Core) (h : p.cells.length ≤ 4294967296) : FunR Tryz.prog 110 none [enc p] (enc p) [] [(3, 2)] := by
 refine FunR.ofV vc_impl_copyCore_ok ty_impl_copyCore_ok rt_impl_copyCore_ok rfl ?_ (fun hfit => ?_)
 ·exact ⟨ty_Core p, trivial⟩
 unfold vc_impl_copyCore
 refine den_cond (fun _ => ?_) (den_ret ?_)
 ·simp [E.den, cells_Core, h]
 ·simp [E.den, cells_Core, enc, encS]
theorem c_spec_l3Copy (p : Core) (h : p.cells.length ≤ 4294967296) : FunR Tryz.prog 103 none [enc p] (enc p) [] [(3, 2)] := by
 refine FunR.ofV vc_spec_l3Copy_ok ty_spec_l3Copy_ok rt_spec_l3Copy_ok rfl ?_ (fun hfit => ?_)
 ·exact ⟨ty_Core p, trivial⟩
 unfold vc_spec_l3Copy
 refine den_cond (fun _ => ?_) (den_ret ?_)
 ·simp [E.den, cells_Core, h]
 ·simp [E.den, cells_Core, enc, encS]
theorem c_impl_copyPart (p : Part) (h : p.core.cells.length ≤ 4294967296) (h' : p.layers.length ≤ 4294967296) : FunR Tryz.prog 90 none [enc p] (enc p) [] [(3, 2), (5, 2)] := by
 refine FunR.ofV vc_impl_copyPart_ok ty_impl_copyPart_ok rt_impl_copyPart_ok rfl ?_ (fun hfit => ?_)
 ·exact ⟨ty_Part p, trivial⟩
 unfold vc_impl_copyPart
 ((first | refine den_call ?_ (c_impl_copyCore p.core h) (ty_Core _) ?_ | refine den_callR ?_ (c_impl_copyCore p.core h) (ty_Core _) ?_ | refine den_call ?_ (.ofR (c_impl_copyCore p.core h)) (ty_Core _) ?_); (focus (simp only [VC.den, E.den, dEq, gsH_nil, and_true, cells_Part]; try exact rfl)); (simp only [cA]))
 refine den_cond (fun _ => ?_) (den_ret ?_)
 ·simp [E.den, cells_Part, h']
 ·simp [E.den, cells_Part, cells_Core, enc, encS]
theorem c_spec_l4Copy (p : Part) (h : p.core.cells.length ≤ 4294967296) (h' : p.layers.length ≤ 4294967296) : FunR Tryz.prog 77 none [enc p] (enc p) [] [(3, 2), (5, 2)] := by
 refine FunR.ofV vc_spec_l4Copy_ok ty_spec_l4Copy_ok rt_spec_l4Copy_ok rfl ?_ (fun hfit => ?_)
 ·exact ⟨ty_Part p, trivial⟩
 unfold vc_spec_l4Copy
 ((first | refine den_call ?_ (c_spec_l3Copy p.core h) (ty_Core _) ?_ | refine den_callR ?_ (c_spec_l3Copy p.core h) (ty_Core _) ?_ | refine den_call ?_ (.ofR (c_spec_l3Copy p.core h)) (ty_Core _) ?_); (focus (simp only [VC.den, E.den, dEq, gsH_nil, and_true, cells_Part]; try exact rfl)); (simp only [cA]))
 refine den_cond (fun _ => ?_) (den_ret ?_)
 ·simp [E.den, cells_Part, h']
 ·simp [E.den, cells_Part, cells_Core, enc, encS]
def newPart (s : ByteArray) : Part := ⟨newCore s, []⟩
theorem c_impl_NewPart (s : ByteArray) : FunR Tryz.prog 57 none [.str s] (.tup [enc (newPart s), .bool (kindOk s)]) [] [(3, 2), (5, 2)] := by
 refine FunR.ofV vc_impl_NewPart_ok ty_impl_NewPart_ok rt_impl_NewPart_ok rfl ?_ (fun hfit => ?_)
 ·exact ⟨trivial, trivial⟩
 unfold vc_impl_NewPart
 ((first | refine den_call ?_ (c_impl_NewCore s) (⟨ty_Core _, trivial, trivial⟩) ?_ | refine den_callR ?_ (c_impl_NewCore s) (⟨ty_Core _, trivial, trivial⟩) ?_ | refine den_call ?_ (.ofR (c_impl_NewCore s)) (⟨ty_Core _, trivial, trivial⟩) ?_); (focus (simp only [VC.den, E.den, dEq, gsH_nil, and_true]; try exact rfl)); (simp only [cA]))
 exact den_ret rfl
theorem c_spec_NewPart (s : ByteArray) : FunR Tryz.prog 45 none [.str s] (.tup [enc (newPart s), .bool (kindOk s)]) [] [(3, 2), (5, 2)] := by
 refine FunR.ofV vc_spec_NewPart_ok ty_spec_NewPart_ok rt_spec_NewPart_ok rfl ?_ (fun hfit => ?_)
 ·exact ⟨trivial, trivial⟩
 unfold vc_spec_NewPart
 ((first | refine den_call ?_ (c_spec_NewCore s) (⟨ty_Core _, trivial, trivial⟩) ?_ | refine den_callR ?_ (c_spec_NewCore s) (⟨ty_Core _, trivial, trivial⟩) ?_ | refine den_call ?_ (.ofR (c_spec_NewCore s)) (⟨ty_Core _, trivial, trivial⟩) ?_); (focus (simp only [VC.den, E.den, dEq, gsH_nil, and_true]; try exact rfl)); (simp only [cA]))
 exact den_ret rfl
def faceAt (p : Part) (k : Nat) : Nat := if k = 0 then kindN p.core.kind else giveN (nth p.layers (k - 1)).name
def faceOf (p : Part) : Nat := faceAt p p.layers.length
theorem c_impl_faceBelow (p : Part) (k : Nat) (hk : k ≤ p.layers.length) : Fun Tryz.prog 94 none [enc p, .int .i64 k] (.int .i64 (faceAt p k)) [] := by
 refine Fun.ofV vc_impl_faceBelow_ok ty_impl_faceBelow_ok rfl ?_ (fun hfit => ?_)
 ·exact ⟨ty_Part p, rfl, trivial⟩
 have hb : (k : Int) ≤ 9223372036854775807 := hfit.2.1.2
 unfold vc_impl_faceBelow
 refine den_ite (fun h => ?_) (fun h => ?_)
 ·simp only [E.den, dEq, iEq, sEq] at h
  have h : k = 0 := by simp at h; exact h
  subst h
  ((first | refine den_call ?_ (c_impl_KindFace p.core.kind) (⟨rfl, trivial, trivial⟩) ?_ | refine den_callR ?_ (c_impl_KindFace p.core.kind) (⟨rfl, trivial, trivial⟩) ?_ | refine den_call ?_ (.ofR (c_impl_KindFace p.core.kind)) (⟨rfl, trivial, trivial⟩) ?_); (focus (simp only [VC.den, E.den, dEq, gsH_nil, and_true, cells_Part]; try exact rfl)); (simp only [cA]))
  exact den_ret rfl
 ·simp only [E.den, dEq, iEq, sEq] at h
  have h : k ≠ 0 := by simpa using h
  have e := sub_one (k := k) (by omega) (by omega)
  refine den_cond (fun _ => ?_) ?_
  ·simp [E.den, cells_Part]
   rw [ar_sub (by omega) (by omega)]; omega
  ((first | refine den_call ?_ (c_impl_layerFaces (nth p.layers (k - 1)).name) (⟨rfl, rfl, trivial, trivial⟩) ?_ | refine den_callR ?_ (c_impl_layerFaces (nth p.layers (k - 1)).name) (⟨rfl, rfl, trivial, trivial⟩) ?_ | refine den_call ?_ (.ofR (c_impl_layerFaces (nth p.layers (k - 1)).name)) (⟨rfl, rfl, trivial, trivial⟩) ?_); (focus (simp only [VC.den, E.den, dEq, gsH_nil, and_true, cells_Part, row_Layer, cells_Layer, e]; try exact rfl)); (simp only [cA]))
  exact den_ret (by simp [E.den, layD, faceAt, h])
theorem c_spec_l4Face (p : Part) (k : Nat) (hk : k ≤ p.layers.length) : Fun Tryz.prog 81 none [enc p, .int .i64 k] (.int .i64 (faceAt p k)) [] := by
 refine Fun.ofV vc_spec_l4Face_ok ty_spec_l4Face_ok rfl ?_ (fun hfit => ?_)
 ·exact ⟨ty_Part p, rfl, trivial⟩
 have hb : (k : Int) ≤ 9223372036854775807 := hfit.2.1.2
 unfold vc_spec_l4Face
 refine den_ite (fun h => ?_) (fun h => ?_)
 ·simp only [E.den, dEq, iEq, sEq] at h
  have h : k = 0 := by simp at h; exact h
  subst h
  ((first | refine den_call ?_ (c_spec_KindFace p.core.kind) (⟨rfl, trivial, trivial⟩) ?_ | refine den_callR ?_ (c_spec_KindFace p.core.kind) (⟨rfl, trivial, trivial⟩) ?_ | refine den_call ?_ (.ofR (c_spec_KindFace p.core.kind)) (⟨rfl, trivial, trivial⟩) ?_); (focus (simp only [VC.den, E.den, dEq, gsH_nil, and_true, cells_Part]; try exact rfl)); (simp only [cA]))
  exact den_ret rfl
 ·simp only [E.den, dEq, iEq, sEq] at h
  have h : k ≠ 0 := by simpa using h
  have e := sub_one (k := k) (by omega) (by omega)
  refine den_cond (fun _ => ?_) ?_
  ·simp [E.den, cells_Part]
   rw [ar_sub (by omega) (by omega)]; omega
  ((first | refine den_call ?_ (c_spec_l4Row (nth p.layers (k - 1)).name) (⟨rfl, rfl, trivial, trivial⟩) ?_ | refine den_callR ?_ (c_spec_l4Row (nth p.layers (k - 1)).name) (⟨rfl, rfl, trivial, trivial⟩) ?_ | refine den_call ?_ (.ofR (c_spec_l4Row (nth p.layers (k - 1)).name)) (⟨rfl, rfl, trivial, trivial⟩) ?_); (focus (simp only [VC.den, E.den, dEq, gsH_nil, and_true, cells_Part, row_Layer, cells_Layer, e]; try exact rfl)); (simp only [cA]))
  exact den_ret (by simp [E.den, layD, faceAt, h])
theorem c_impl_FaceOf (p : Part) : Fun Tryz.prog 59 none [enc p] (.int .i64 (faceOf p)) [] := by
 refine Fun.ofV vc_impl_FaceOf_ok ty_impl_FaceOf_ok rfl ?_ (fun hfit => ?_)
 ·exact ⟨ty_Part p, trivial⟩
 unfold vc_impl_FaceOf
 ((first | refine den_call ?_ (c_impl_faceBelow p p.layers.length (Nat.le_refl _)) (rfl) ?_ | refine den_callR ?_ (c_impl_faceBelow p p.layers.length (Nat.le_refl _)) (rfl) ?_ | refine den_call ?_ (.ofR (c_impl_faceBelow p p.layers.length (Nat.le_refl _))) (rfl) ?_); (focus (simp only [VC.den, E.den, dEq, gsH_nil, and_true, cells_Part]; try exact rfl)); (simp only [cA]))
 exact den_ret rfl
theorem c_spec_FaceOf (p : Part) : Fun Tryz.prog 47 none [enc p] (.int .i64 (faceOf p)) [] := by
 refine Fun.ofV vc_spec_FaceOf_ok ty_spec_FaceOf_ok rfl ?_ (fun hfit => ?_)
 ·exact ⟨ty_Part p, trivial⟩
 unfold vc_spec_FaceOf
 ((first | refine den_call ?_ (c_spec_l4Face p p.layers.length (Nat.le_refl _)) (rfl) ?_ | refine den_callR ?_ (c_spec_l4Face p p.layers.length (Nat.le_refl _)) (rfl) ?_ | refine den_call ?_ (.ofR (c_spec_l4Face p p.layers.length (Nat.le_refl _))) (rfl) ?_); (focus (simp only [VC.den, E.den, dEq, gsH_nil, and_true, cells_Part]; try exact rfl)); (simp only [cA]))
 exact den_ret rfl
def counts : ByteArray := ⟨#[99, 111, 117, 110, 116, 115]⟩
def hears : ByteArray := ⟨#[104, 101, 97, 114, 115]⟩
def layerB (p : Part) (k : Nat) : Bool := layOk (nth p.layers k).name && offersB (faceAt p k) (needN (nth p.layers k).name) && numB (nth p.layers k).count && (decide ((nth p.layers k).count = 0) || decide ((nth p.layers k).name = counts) || decide ((nth p.layers k).name = hears))
def partB (p : Part) : Bool := coreB p.core && decide (p.layers.length ≤ 3) && allTo (layerB p) p.layers.length
theorem c_impl_IsPart (p : Part) : Fun Tryz.prog 92 none [enc p] (.bool (partB p)) [] := by
 refine Fun.ofV vc_impl_IsPart_ok ty_impl_IsPart_ok rfl ?_ (fun hfit => ?_)
 ·exact ⟨ty_Part p, trivial⟩
 unfold vc_impl_IsPart
 ((first | refine den_call ?_ (c_impl_IsCore p.core) (trivial) ?_ | refine den_callR ?_ (c_impl_IsCore p.core) (trivial) ?_ | refine den_call ?_ (.ofR (c_impl_IsCore p.core)) (trivial) ?_); (focus (simp only [VC.den, E.den, dEq, gsH_nil, and_true, cells_Part]; try exact rfl)); (simp only [cA]))
 refine den_ite (fun h => ?_) (fun h => ?_)
 ·simp only [E.den, dEq, iEq, sEq, cells_Part] at h
  refine den_ret ?_
  simp only [E.den, D.bool.injEq]
  unfold partB; grind
 simp only [E.den, dEq, iEq, sEq, cells_Part] at h
 have hc : coreB p.core = true := by grind
 have h3 : p.layers.length ≤ 3 := by grind
 refine den_for p.layers.length (fun k => [.int .i64 k]) (fun k => allTo (layerB p) k = true) rfl rfl ?_
 intro k hk hI _
 simp only [cA]
 refine den_ite (fun h2 => ?_) (fun h2 => ?_)
 ·simp only [E.den, dEq, iEq, sEq, cells_Part] at h2
  have h2 : k < p.layers.length := by simp at h2; exact h2
  (refine den_cond (fun hg => ?_) ?_; (focus (simp only [gsH, gE, E.den, dEq, iEq, sEq, cells_Part] at hg ⊢; (try simp only [D.bool.injEq] at hg); (try simp only [D.bool.injEq]); grind)))
  ((first | refine den_call ?_ (c_impl_layerFaces (nth p.layers k).name) (⟨rfl, rfl, trivial, trivial⟩) ?_ | refine den_callR ?_ (c_impl_layerFaces (nth p.layers k).name) (⟨rfl, rfl, trivial, trivial⟩) ?_ | refine den_call ?_ (.ofR (c_impl_layerFaces (nth p.layers k).name)) (⟨rfl, rfl, trivial, trivial⟩) ?_); (focus (simp only [VC.den, E.den, dEq, gsH_nil, and_true, cells_Part, row_Layer, cells_Layer]; try exact rfl)); (simp only [cA]))
  ((first | refine den_call ?_ (c_impl_faceBelow p k hk) (rfl) ?_ | refine den_callR ?_ (c_impl_faceBelow p k hk) (rfl) ?_ | refine den_call ?_ (.ofR (c_impl_faceBelow p k hk)) (rfl) ?_); (focus (simp only [VC.den, E.den, dEq, gsH_nil, and_true]; try exact rfl)); (simp only [cA]))
  ((first | refine den_call ?_ (c_impl_Offers (faceAt p k) (needN (nth p.layers k).name)) (trivial) ?_ | refine den_callR ?_ (c_impl_Offers (faceAt p k) (needN (nth p.layers k).name)) (trivial) ?_ | refine den_call ?_ (.ofR (c_impl_Offers (faceAt p k) (needN (nth p.layers k).name))) (trivial) ?_); (focus (simp only [VC.den, E.den, dEq, gsH_nil, and_true, layD]; try exact rfl)); (simp only [cA]))
  ((first | refine den_call ?_ (c_impl_isNumber (nth p.layers k).count) (trivial) ?_ | refine den_callR ?_ (c_impl_isNumber (nth p.layers k).count) (trivial) ?_ | refine den_call ?_ (.ofR (c_impl_isNumber (nth p.layers k).count)) (trivial) ?_); (focus (simp only [VC.den, E.den, dEq, gsH_nil, and_true, cells_Part, row_Layer, cells_Layer]; try exact rfl)); (simp only [cA]))
  refine den_ite (fun h3 => ?_) (fun h3 => ?_)
  ·simp only [E.den, dEq, iEq, sEq, cells_Part, row_Layer, cells_Layer, layD] at h3
   have hb : layerB p k = false := by unfold layerB counts hears; grind
   refine den_ret ?_
   simp [E.den, partB, allTo_bad h2 hb]
  ·simp only [E.den, dEq, iEq, sEq, cells_Part, row_Layer, cells_Layer, layD] at h3
   have hb : layerB p k = true := by unfold layerB counts hears; grind
   refine den_next h2 ?_ (show (allTo (layerB p) k && layerB p k) = true by rw [hI, hb]; rfl)
   simp only [E.den, dEq, iEq, sEq]
   rw [ar_add (by omega) (by omega)]; rfl
 ·simp only [E.den, dEq, iEq, sEq, cells_Part] at h2
  obtain rfl : k = p.layers.length := by simp at h2; omega
  exact den_ret (by simp [E.den, partB, hI, hc, h3])
theorem c_spec_IsPart (p : Part) : Fun Tryz.prog 79 none [enc p] (.bool (partB p)) [] := by
 refine Fun.ofV vc_spec_IsPart_ok ty_spec_IsPart_ok rfl ?_ (fun hfit => ?_)
 ·exact ⟨ty_Part p, trivial⟩
 unfold vc_spec_IsPart
 ((first | refine den_call ?_ (c_spec_IsCore p.core) (trivial) ?_ | refine den_callR ?_ (c_spec_IsCore p.core) (trivial) ?_ | refine den_call ?_ (.ofR (c_spec_IsCore p.core)) (trivial) ?_); (focus (simp only [VC.den, E.den, dEq, gsH_nil, and_true, cells_Part]; try exact rfl)); (simp only [cA]))
 refine den_ite (fun h => ?_) (fun h => ?_)
 ·simp only [E.den, dEq, iEq, sEq, cells_Part] at h
  refine den_ret ?_
  simp only [E.den, D.bool.injEq]
  unfold partB; grind
 simp only [E.den, dEq, iEq, sEq, cells_Part] at h
 have hc : coreB p.core = true := by grind
 have h3 : p.layers.length ≤ 3 := by grind
 refine den_for p.layers.length (fun k => [.int .i64 k]) (fun k => allTo (layerB p) k = true) rfl rfl ?_
 intro k hk hI _
 simp only [cA]
 refine den_ite (fun h2 => ?_) (fun h2 => ?_)
 ·simp only [E.den, dEq, iEq, sEq, cells_Part] at h2
  have h2 : k < p.layers.length := by simp at h2; exact h2
  (refine den_cond (fun hg => ?_) ?_; (focus (simp only [gsH, gE, E.den, dEq, iEq, sEq, cells_Part] at hg ⊢; (try simp only [D.bool.injEq] at hg); (try simp only [D.bool.injEq]); grind)))
  ((first | refine den_call ?_ (c_spec_LayerNeeds (nth p.layers k).name) (⟨rfl, trivial, trivial⟩) ?_ | refine den_callR ?_ (c_spec_LayerNeeds (nth p.layers k).name) (⟨rfl, trivial, trivial⟩) ?_ | refine den_call ?_ (.ofR (c_spec_LayerNeeds (nth p.layers k).name)) (⟨rfl, trivial, trivial⟩) ?_); (focus (simp only [VC.den, E.den, dEq, gsH_nil, and_true, cells_Part, row_Layer, cells_Layer]; try exact rfl)); (simp only [cA]))
  ((first | refine den_call ?_ (c_spec_l4Face p k hk) (rfl) ?_ | refine den_callR ?_ (c_spec_l4Face p k hk) (rfl) ?_ | refine den_call ?_ (.ofR (c_spec_l4Face p k hk)) (rfl) ?_); (focus (simp only [VC.den, E.den, dEq, gsH_nil, and_true]; try exact rfl)); (simp only [cA]))
  ((first | refine den_call ?_ (c_spec_Offers (faceAt p k) (needN (nth p.layers k).name)) (trivial) ?_ | refine den_callR ?_ (c_spec_Offers (faceAt p k) (needN (nth p.layers k).name)) (trivial) ?_ | refine den_call ?_ (.ofR (c_spec_Offers (faceAt p k) (needN (nth p.layers k).name))) (trivial) ?_); (focus (simp only [VC.den, E.den, dEq, gsH_nil, and_true]; try exact rfl)); (simp only [cA]))
  refine den_ite (fun h3 => ?_) (fun h3 => ?_)
  ·simp only [E.den, dEq, iEq, sEq, cells_Part, row_Layer, cells_Layer] at h3
   have hb : layerB p k = false := by unfold layerB counts hears numB; grind
   refine den_ret ?_
   simp [E.den, partB, allTo_bad h2 hb]
  ·simp only [E.den, dEq, iEq, sEq, cells_Part, row_Layer, cells_Layer] at h3
   have hb : layerB p k = true := by unfold layerB counts hears numB; grind
   refine den_next h2 ?_ (show (allTo (layerB p) k && layerB p k) = true by rw [hI, hb]; rfl)
   simp only [E.den, dEq, iEq, sEq]
   rw [ar_add (by omega) (by omega)]; rfl
 ·simp only [E.den, dEq, iEq, sEq, cells_Part] at h2
  obtain rfl : k = p.layers.length := by simp at h2; omega
  exact den_ret (by simp [E.den, partB, hI, hc, h3])
def rep (code val want had : Int) : Reply := ⟨code, val, ⟨#[]⟩, want, had⟩
def wrapP (p : Part) (s : ByteArray) : Part × Reply :=
 if partB p = false ∨ layOk s = false then (p, rep 7 0 0 0)
 else if 3 ≤ p.layers.length then (p, rep 5 0 0 0)
 else if offersB (faceOf p) (needN s) = false then (p, rep 1 0 (needN s) (faceOf p))
 else (⟨p.core, p.layers ++ [⟨s, 0⟩]⟩, rep 0 (giveN s) 0 0)
theorem c_impl_Wrap (p : Part) (s : ByteArray) (h1 : p.core.cells.length ≤ 4294967296) (h2 : p.layers.length ≤ 4294967295) : FunR Tryz.prog 58 none [enc p, .str s] (.tup [enc (wrapP p s).1, enc (wrapP p s).2]) [] [(3, 2), (5, 2)] := by
 refine FunR.ofV vc_impl_Wrap_ok ty_impl_Wrap_ok rt_impl_Wrap_ok rfl ?_ (fun hfit => ?_)
 ·exact ⟨ty_Part p, trivial, trivial⟩
 unfold vc_impl_Wrap
 ((first | refine den_call ?_ (c_impl_copyPart p h1 (by omega)) (ty_Part _) ?_ | refine den_callR ?_ (c_impl_copyPart p h1 (by omega)) (ty_Part _) ?_ | refine den_call ?_ (.ofR (c_impl_copyPart p h1 (by omega))) (ty_Part _) ?_); (focus (simp only [VC.den, E.den, dEq, gsH_nil, and_true]; try exact rfl)); (simp only [cA]))
 ((first | refine den_call ?_ (c_impl_layerFaces s) (⟨rfl, rfl, trivial, trivial⟩) ?_ | refine den_callR ?_ (c_impl_layerFaces s) (⟨rfl, rfl, trivial, trivial⟩) ?_ | refine den_call ?_ (.ofR (c_impl_layerFaces s)) (⟨rfl, rfl, trivial, trivial⟩) ?_); (focus (simp only [VC.den, E.den, dEq, gsH_nil, and_true]; try exact rfl)); (simp only [cA]))
 ((first | refine den_call ?_ (c_impl_IsPart p) (trivial) ?_ | refine den_callR ?_ (c_impl_IsPart p) (trivial) ?_ | refine den_call ?_ (.ofR (c_impl_IsPart p)) (trivial) ?_); (focus (simp only [VC.den, E.den, dEq, gsH_nil, and_true]; try exact rfl)); (simp only [cA]))
 refine den_ite (fun h => ?_) (fun h => ?_)
 ·simp only [E.den, dEq, iEq, sEq, layD] at h
  refine den_ret ?_
  unfold wrapP
  rw [if_pos (by grind)]
  rfl
 simp only [E.den, dEq, iEq, sEq, layD] at h
 have hn : ¬ (partB p = false ∨ layOk s = false) := by grind
 refine den_ite (fun h3 => ?_) (fun h3 => ?_)
 ·simp only [E.den, dEq, iEq, sEq, cells_Part] at h3
  refine den_ret ?_
  unfold wrapP
  rw [if_neg hn, if_pos (by grind)]
  rfl
 simp only [E.den, dEq, iEq, sEq, cells_Part] at h3
 have hm : ¬ 3 ≤ p.layers.length := by grind
 ((first | refine den_call ?_ (c_impl_FaceOf p) (rfl) ?_ | refine den_callR ?_ (c_impl_FaceOf p) (rfl) ?_ | refine den_call ?_ (.ofR (c_impl_FaceOf p)) (rfl) ?_); (focus (simp only [VC.den, E.den, dEq, gsH_nil, and_true]; try exact rfl)); (simp only [cA]))
 ((first | refine den_call ?_ (c_impl_Offers (faceOf p) (needN s)) (trivial) ?_ | refine den_callR ?_ (c_impl_Offers (faceOf p) (needN s)) (trivial) ?_ | refine den_call ?_ (.ofR (c_impl_Offers (faceOf p) (needN s))) (trivial) ?_); (focus (simp only [VC.den, E.den, dEq, gsH_nil, and_true, layD]; try exact rfl)); (simp only [cA]))
 refine den_ite (fun h4 => ?_) (fun h4 => ?_)
 ·simp only [E.den, dEq, iEq, sEq] at h4
  ((first | refine den_call ?_ (c_impl_FaceOf p) (rfl) ?_ | refine den_callR ?_ (c_impl_FaceOf p) (rfl) ?_ | refine den_call ?_ (.ofR (c_impl_FaceOf p)) (rfl) ?_); (focus (simp only [VC.den, E.den, dEq, gsH_nil, and_true]; try exact rfl)); (simp only [cA]))
  refine den_ret ?_
  unfold wrapP
  rw [if_neg hn, if_neg hm, if_pos (by grind)]
  rfl
 ·simp only [E.den, dEq, iEq, sEq] at h4
  refine den_cond (fun _ => ?_) (den_ret ?_)
  ·simp [E.den, cells_Part]; omega
  unfold wrapP
  rw [if_neg hn, if_neg hm, if_neg (by grind)]
  simp [E.den, cells_Part, enc, encS, cells_Layer, layD, rep, cells_Reply]
theorem c_spec_Wrap (p : Part) (s : ByteArray) (h1 : p.core.cells.length ≤ 4294967296) (h2 : p.layers.length ≤ 4294967295) : FunR Tryz.prog 46 none [enc p, .str s] (.tup [enc (wrapP p s).1, enc (wrapP p s).2]) [] [(3, 2), (5, 2)] := by
 refine FunR.ofV vc_spec_Wrap_ok ty_spec_Wrap_ok rt_spec_Wrap_ok rfl ?_ (fun hfit => ?_)
 ·exact ⟨ty_Part p, trivial, trivial⟩
 unfold vc_spec_Wrap
 ((first | refine den_call ?_ (c_spec_l4Copy p h1 (by omega)) (ty_Part _) ?_ | refine den_callR ?_ (c_spec_l4Copy p h1 (by omega)) (ty_Part _) ?_ | refine den_call ?_ (.ofR (c_spec_l4Copy p h1 (by omega))) (ty_Part _) ?_); (focus (simp only [VC.den, E.den, dEq, gsH_nil, and_true]; try exact rfl)); (simp only [cA]))
 ((first | refine den_call ?_ (c_spec_l4Row s) (⟨rfl, rfl, trivial, trivial⟩) ?_ | refine den_callR ?_ (c_spec_l4Row s) (⟨rfl, rfl, trivial, trivial⟩) ?_ | refine den_call ?_ (.ofR (c_spec_l4Row s)) (⟨rfl, rfl, trivial, trivial⟩) ?_); (focus (simp only [VC.den, E.den, dEq, gsH_nil, and_true]; try exact rfl)); (simp only [cA]))
 ((first | refine den_call ?_ (c_spec_IsPart p) (trivial) ?_ | refine den_callR ?_ (c_spec_IsPart p) (trivial) ?_ | refine den_call ?_ (.ofR (c_spec_IsPart p)) (trivial) ?_); (focus (simp only [VC.den, E.den, dEq, gsH_nil, and_true]; try exact rfl)); (simp only [cA]))
 refine den_ite (fun h => ?_) (fun h => ?_)
 ·simp only [E.den, dEq, iEq, sEq, layD] at h
  refine den_ret ?_
  unfold wrapP
  rw [if_pos (by grind)]
  rfl
 simp only [E.den, dEq, iEq, sEq, layD] at h
 have hn : ¬ (partB p = false ∨ layOk s = false) := by grind
 have hp3 : p.layers.length ≤ 3 := by
  have : partB p = true := by grind
  unfold partB at this; grind
 refine den_ite (fun h3 => ?_) (fun h3 => ?_)
 ·simp only [E.den, dEq, iEq, sEq, cells_Part] at h3
  refine den_ret ?_
  unfold wrapP
  rw [if_neg hn, if_pos (by grind)]
  rfl
 simp only [E.den, dEq, iEq, sEq, cells_Part] at h3
 have hm : ¬ 3 ≤ p.layers.length := by grind
 ((first | refine den_call ?_ (c_spec_FaceOf p) (rfl) ?_ | refine den_callR ?_ (c_spec_FaceOf p) (rfl) ?_ | refine den_call ?_ (.ofR (c_spec_FaceOf p)) (rfl) ?_); (focus (simp only [VC.den, E.den, dEq, gsH_nil, and_true]; try exact rfl)); (simp only [cA]))
 ((first | refine den_call ?_ (c_spec_Offers (faceOf p) (needN s)) (trivial) ?_ | refine den_callR ?_ (c_spec_Offers (faceOf p) (needN s)) (trivial) ?_ | refine den_call ?_ (.ofR (c_spec_Offers (faceOf p) (needN s))) (trivial) ?_); (focus (simp only [VC.den, E.den, dEq, gsH_nil, and_true, layD]; try exact rfl)); (simp only [cA]))
 refine den_ite (fun h4 => ?_) (fun h4 => ?_)
 ·simp only [E.den, dEq, iEq, sEq] at h4
  ((first | refine den_call ?_ (c_spec_FaceOf p) (rfl) ?_ | refine den_callR ?_ (c_spec_FaceOf p) (rfl) ?_ | refine den_call ?_ (.ofR (c_spec_FaceOf p)) (rfl) ?_); (focus (simp only [VC.den, E.den, dEq, gsH_nil, and_true]; try exact rfl)); (simp only [cA]))
  refine den_ret ?_
  unfold wrapP
  rw [if_neg hn, if_neg hm, if_pos (by grind)]
  rfl
 ·simp only [E.den, dEq, iEq, sEq] at h4
  refine den_cond (fun _ => ?_) (den_ret ?_)
  ·simp [E.den, cells_Part]; omega
  unfold wrapP
  rw [if_neg hn, if_neg hm, if_neg (by grind)]
  simp [E.den, cells_Part, enc, encS, cells_Layer, layD, rep, cells_Reply]
def noPart : Part := ⟨⟨⟨#[]⟩, false, false, [], 0⟩, []⟩
def wrapTo (l : List ByteArray) : Nat → Part
 | 0 => newPart (nth l 0)
 | k + 1 => (wrapP (wrapTo l k) (nth l (k + 1))).1
def wrapR (l : List ByteArray) (k : Nat) : Reply := (wrapP (wrapTo l k) (nth l (k + 1))).2
def firstTo (p : Nat → Bool) : Nat → Option Nat
 | 0 => none
 | n + 1 => match firstTo p n with
  | some k => some k
  | none => if p n then some n else none
theorem firstTo_none {p : Nat → Bool} : ∀ {n : Nat}, (∀ i, i < n → p i = false) → firstTo p n = none
 | 0, _ => rfl
 | n + 1, h => by
  have h1 := firstTo_none (n := n) (fun i hi => h i (by omega))
  simp [firstTo, h1, h n (by omega)]
theorem firstTo_some {p : Nat → Bool} {k : Nat} (hp : p k = true) (h : ∀ i, i < k → p i = false) : ∀ {n : Nat}, k < n → firstTo p n = some k
 | 0, hk => by omega
 | n + 1, hk => by
  by_cases e : k = n
  ·subst e; simp [firstTo, firstTo_none h, hp]
  ·simp [firstTo, firstTo_some hp h (show k < n by omega)]
def makeP (l : List ByteArray) : Part × Reply :=
 if l.length = 0 ∨ kindOk (nth l 0) = false then (noPart, rep 7 0 0 0)
 else match firstTo (fun k => !decide ((wrapR l k).code = 0)) (l.length - 1) with
  | some k => (noPart, wrapR l k)
  | none => (wrapTo l (l.length - 1), rep 0 (faceOf (wrapTo l (l.length - 1))) 0 0)
theorem wrapP_small {p : Part} {s : ByteArray} (h1 : p.core.cells = []) (h2 : p.layers.length ≤ 3) : (wrapP p s).1.core.cells = [] ∧ (wrapP p s).1.layers.length ≤ 3 := by
 unfold wrapP
 split
 ·exact ⟨h1, h2⟩
 split
 ·exact ⟨h1, h2⟩
 split
 ·exact ⟨h1, h2⟩
 ·refine ⟨h1, ?_⟩
  simp; omega
theorem wrapTo_small (l : List ByteArray) : ∀ k, (wrapTo l k).core.cells = [] ∧ (wrapTo l k).layers.length ≤ 3
 | 0 => by
  refine ⟨?_, by simp [wrapTo, newPart]⟩
  simp only [wrapTo, newPart, newCore]
  split <;> rfl
 | k + 1 => wrapP_small (wrapTo_small l k).1 (wrapTo_small l k).2
def tailL (l : List ByteArray) : List ByteArray := (l.drop 1).take (l.length - 1)
theorem nth_tail {l : List ByteArray} {k : Nat} (h : k < l.length - 1) : nth (tailL l) k = nth l (k + 1) := by
 have h' : k + 1 < l.length := by omega
 simp [nth, tailL, List.getD, List.getElem?_take, h, Nat.add_comm 1 k, List.getElem?_eq_getElem h']
theorem len_tail (l : List ByteArray) : (tailL l).length = l.length - 1 := by simp [tailL]
theorem cut_den {env : List D} {l : List ByteArray} {e : E} (h : e.den env = encS l) : (E.cut e (.li .i64 1) (.len e)).den env = encS (tailL l) := by
 simp [E.den, h, cutD, encS, tailL, List.map_take, List.map_drop, lenD]
def partL (p : Part) : List D := [.str p.core.kind, .bool p.core.on, .bool p.core.broken, encS p.core.cells, .int .i64 p.core.count, encS p.layers]
theorem c_impl_MakePart (l : List ByteArray) : FunR Tryz.prog 22 none [encS l] (.tup [enc (makeP l).1, enc (makeP l).2]) [] [(3, 2), (5, 2)] := by
 refine FunR.ofV vc_impl_MakePart_ok ty_impl_MakePart_ok rt_impl_MakePart_ok rfl ?_ (fun hfit => ?_)
 ·exact ⟨ty_strS l, trivial⟩
 have hl : l.length ≤ 9223372036854775807 := fits_encS hfit.1
 unfold vc_impl_MakePart
 refine den_ite (fun h => ?_) (fun h => ?_)
 ·simp only [E.den, dEq, iEq, sEq] at h
  refine den_ret ?_
  unfold makeP
  rw [if_pos (.inl (by grind))]
  rfl
 simp only [E.den, dEq, iEq, sEq] at h
 have h0 : l.length ≠ 0 := by grind
 refine den_cond (fun _ => ?_) ?_
 ·simp [E.den]; omega
 ((first | refine den_call ?_ (c_impl_NewPart (nth l 0)) (⟨ty_Part _, trivial, trivial⟩) ?_ | refine den_callR ?_ (c_impl_NewPart (nth l 0)) (⟨ty_Part _, trivial, trivial⟩) ?_ | refine den_call ?_ (.ofR (c_impl_NewPart (nth l 0))) (⟨ty_Part _, trivial, trivial⟩) ?_); (focus (simp only [VC.den, E.den, dEq, gsH_nil, and_true, row_str, cells_str, Int.toNat_zero]; try exact rfl)); (simp only [cA]))
 refine den_ite (fun h2 => ?_) (fun h2 => ?_)
 ·simp only [E.den, dEq, iEq, sEq] at h2
  refine den_ret ?_
  unfold makeP
  rw [if_pos (.inr (by grind))]
  rfl
 simp only [E.den, dEq, iEq, sEq] at h2
 have hk : kindOk (nth l 0) = true := by grind
 have hmk : ¬ (l.length = 0 ∨ kindOk (nth l 0) = false) := by grind
 refine den_cond (fun _ => ?_) ?_
 ·simp [E.den]; omega
 refine den_for (l.length - 1) (fun k => .int .i64 k :: partL (wrapTo l k)) (fun k => ∀ i, i < k → (!decide ((wrapR l i).code = 0)) = false) rfl (by omega) ?_
 intro k hkn hI _
 simp only [List.cons_append, List.nil_append, partL]
 have ec : ∀ (env : List D), (E.cut (.var 0) (.li .i64 1) (.len (.var 0))).den (encS l :: env) = encS (tailL l) := fun env => cut_den rfl
 refine den_ite (fun h3 => ?_) (fun h3 => ?_)
 ·have h3 : k < l.length - 1 := by
   have : (D.bool (cmpI .lss (k : Int) (lenD ((E.cut (.var 0) (.li .i64 1) (.len (.var 0))).den (encS l :: .tup [enc (newPart (nth l 0)), .bool (kindOk (nth l 0))] :: .int .i64 k :: partL (wrapTo l k)))))).toB = true := h3
   rw [ec, encS_len, len_tail] at this
   simp [cmpI] at this; omega
  refine den_cond (fun _ => ?_) ?_
  ·show D.bool (decide (0 ≤ (k : Int) ∧ (k : Int) < lenD ((E.cut (.var 0) (.li .i64 1) (.len (.var 0))).den (encS l :: .tup [enc (newPart (nth l 0)), .bool (kindOk (nth l 0))] :: .int .i64 k :: partL (wrapTo l k))))) = .bool true
   rw [ec, encS_len, len_tail]
   simp; omega
  refine den_callR (xs := [enc (wrapTo l k), .str (nth l (k + 1))]) ?_ (c_impl_Wrap (wrapTo l k) (nth l (k + 1)) (by rw [(wrapTo_small l k).1]; simp) (by have := (wrapTo_small l k).2; omega)) (show HasVT _ _ _ from ⟨ty_Part _, ty_Reply _, trivial⟩) ?_
  ·show [enc (wrapTo l k), (E.cell (.row [.str] (.cut (.var 0) (.li .i64 1) (.len (.var 0))) (.var 2)) 0).den (encS l :: .tup [enc (newPart (nth l 0)), .bool (kindOk (nth l 0))] :: .int .i64 k :: partL (wrapTo l k))] = _
   simp only [E.den, List.getD_cons_zero, List.getD_cons_succ, D.toI_int]
   have e := ec (.tup [enc (newPart (nth l 0)), .bool (kindOk (nth l 0))] :: .int .i64 k :: partL (wrapTo l k))
   simp only [E.den, List.getD_cons_zero, List.getD_cons_succ, D.toI_int] at e
   rw [e]
   simp only [E.den, dEq, iEq, sEq, row_str, cells_str, nth_tail h3]
  simp only [cA]
  refine den_ite (fun h4 => ?_) (fun h4 => ?_)
  ·simp only [E.den, dEq, iEq, sEq, cells_Reply] at h4
   have hb : (!decide ((wrapR l k).code = 0)) = true := by unfold wrapR; grind
   refine den_ret ?_
   unfold makeP
   rw [if_neg hmk, firstTo_some hb hI h3]
   rfl
  ·simp only [E.den, dEq, iEq, sEq, cells_Reply] at h4
   have hb : (!decide ((wrapR l k).code = 0)) = false := by unfold wrapR; grind
   refine den_next h3 ?_ fun i hi => ?_
   ·simp only [E.den, dEq, iEq, sEq, cells_Part]
    rw [ar_add (by omega) (by omega)]; rfl
   ·rcases Nat.lt_or_ge i k with h | h
    ·exact hI i h
    ·obtain rfl : i = k := by omega
     exact hb
 ·have h3 : k = l.length - 1 := by
   have : (D.bool (cmpI .lss (k : Int) (lenD ((E.cut (.var 0) (.li .i64 1) (.len (.var 0))).den (encS l :: .tup [enc (newPart (nth l 0)), .bool (kindOk (nth l 0))] :: .int .i64 k :: partL (wrapTo l k)))))).toB = false := h3
   rw [ec, encS_len, len_tail] at this
   simp [cmpI] at this; omega
  subst h3
  ((first | refine den_call ?_ (c_impl_FaceOf (wrapTo l (l.length - 1))) (rfl) ?_ | refine den_callR ?_ (c_impl_FaceOf (wrapTo l (l.length - 1))) (rfl) ?_ | refine den_call ?_ (.ofR (c_impl_FaceOf (wrapTo l (l.length - 1)))) (rfl) ?_); (focus (simp only [VC.den, E.den, dEq, gsH_nil, and_true]; try exact rfl)); (simp only [cA]))
  refine den_ret ?_
  unfold makeP
  rw [if_neg hmk, firstTo_none hI]
  rfl
theorem c_spec_MakePart (l : List ByteArray) : FunR Tryz.prog 17 none [encS l] (.tup [enc (makeP l).1, enc (makeP l).2]) [] [(3, 2), (5, 2)] := by
 refine FunR.ofV vc_spec_MakePart_ok ty_spec_MakePart_ok rt_spec_MakePart_ok rfl ?_ (fun hfit => ?_)
 ·exact ⟨ty_strS l, trivial⟩
 have hl : l.length ≤ 9223372036854775807 := fits_encS hfit.1
 unfold vc_spec_MakePart
 refine den_ite (fun h => ?_) (fun h => ?_)
 ·simp only [E.den, dEq, iEq, sEq] at h
  refine den_ret ?_
  unfold makeP
  rw [if_pos (.inl (by grind))]
  rfl
 simp only [E.den, dEq, iEq, sEq] at h
 have h0 : l.length ≠ 0 := by grind
 refine den_cond (fun _ => ?_) ?_
 ·simp [E.den]; omega
 ((first | refine den_call ?_ (c_spec_NewPart (nth l 0)) (⟨ty_Part _, trivial, trivial⟩) ?_ | refine den_callR ?_ (c_spec_NewPart (nth l 0)) (⟨ty_Part _, trivial, trivial⟩) ?_ | refine den_call ?_ (.ofR (c_spec_NewPart (nth l 0))) (⟨ty_Part _, trivial, trivial⟩) ?_); (focus (simp only [VC.den, E.den, dEq, gsH_nil, and_true, row_str, cells_str, Int.toNat_zero]; try exact rfl)); (simp only [cA]))
 refine den_ite (fun h2 => ?_) (fun h2 => ?_)
 ·simp only [E.den, dEq, iEq, sEq] at h2
  refine den_ret ?_
  unfold makeP
  rw [if_pos (.inr (by grind))]
  rfl
 simp only [E.den, dEq, iEq, sEq] at h2
 have hk : kindOk (nth l 0) = true := by grind
 have hmk : ¬ (l.length = 0 ∨ kindOk (nth l 0) = false) := by grind
 refine den_cond (fun _ => ?_) ?_
 ·simp [E.den]; omega
 refine den_for (l.length - 1) (fun k => .int .i64 k :: partL (wrapTo l k)) (fun k => ∀ i, i < k → (!decide ((wrapR l i).code = 0)) = false) rfl (by omega) ?_
 intro k hkn hI _
 simp only [List.cons_append, List.nil_append, partL]
 have ec : ∀ (env : List D), (E.cut (.var 0) (.li .i64 1) (.len (.var 0))).den (encS l :: env) = encS (tailL l) := fun env => cut_den rfl
 refine den_ite (fun h3 => ?_) (fun h3 => ?_)
 ·have h3 : k < l.length - 1 := by
   have : (D.bool (cmpI .lss (k : Int) (lenD ((E.cut (.var 0) (.li .i64 1) (.len (.var 0))).den (encS l :: .tup [enc (newPart (nth l 0)), .bool (kindOk (nth l 0))] :: .int .i64 k :: partL (wrapTo l k)))))).toB = true := h3
   rw [ec, encS_len, len_tail] at this
   simp [cmpI] at this; omega
  refine den_cond (fun _ => ?_) ?_
  ·show D.bool (decide (0 ≤ (k : Int) ∧ (k : Int) < lenD ((E.cut (.var 0) (.li .i64 1) (.len (.var 0))).den (encS l :: .tup [enc (newPart (nth l 0)), .bool (kindOk (nth l 0))] :: .int .i64 k :: partL (wrapTo l k))))) = .bool true
   rw [ec, encS_len, len_tail]
   simp; omega
  refine den_callR (xs := [enc (wrapTo l k), .str (nth l (k + 1))]) ?_ (c_spec_Wrap (wrapTo l k) (nth l (k + 1)) (by rw [(wrapTo_small l k).1]; simp) (by have := (wrapTo_small l k).2; omega)) (show HasVT _ _ _ from ⟨ty_Part _, ty_Reply _, trivial⟩) ?_
  ·show [enc (wrapTo l k), (E.cell (.row [.str] (.cut (.var 0) (.li .i64 1) (.len (.var 0))) (.var 2)) 0).den (encS l :: .tup [enc (newPart (nth l 0)), .bool (kindOk (nth l 0))] :: .int .i64 k :: partL (wrapTo l k))] = _
   simp only [E.den, List.getD_cons_zero, List.getD_cons_succ, D.toI_int]
   have e := ec (.tup [enc (newPart (nth l 0)), .bool (kindOk (nth l 0))] :: .int .i64 k :: partL (wrapTo l k))
   simp only [E.den, List.getD_cons_zero, List.getD_cons_succ, D.toI_int] at e
   rw [e]
   simp only [E.den, dEq, iEq, sEq, row_str, cells_str, nth_tail h3]
  simp only [cA]
  refine den_ite (fun h4 => ?_) (fun h4 => ?_)
  ·simp only [E.den, dEq, iEq, sEq, cells_Reply] at h4
   have hb : (!decide ((wrapR l k).code = 0)) = true := by unfold wrapR; grind
   refine den_ret ?_
   unfold makeP
   rw [if_neg hmk, firstTo_some hb hI h3]
   rfl
  ·simp only [E.den, dEq, iEq, sEq, cells_Reply] at h4
   have hb : (!decide ((wrapR l k).code = 0)) = false := by unfold wrapR; grind
   refine den_next h3 ?_ fun i hi => ?_
   ·simp only [E.den, dEq, iEq, sEq, cells_Part]
    rw [ar_add (by omega) (by omega)]; rfl
   ·rcases Nat.lt_or_ge i k with h | h
    ·exact hI i h
    ·obtain rfl : i = k := by omega
     exact hb
 ·have h3 : k = l.length - 1 := by
   have : (D.bool (cmpI .lss (k : Int) (lenD ((E.cut (.var 0) (.li .i64 1) (.len (.var 0))).den (encS l :: .tup [enc (newPart (nth l 0)), .bool (kindOk (nth l 0))] :: .int .i64 k :: partL (wrapTo l k)))))).toB = false := h3
   rw [ec, encS_len, len_tail] at this
   simp [cmpI] at this; omega
  subst h3
  ((first | refine den_call ?_ (c_spec_FaceOf (wrapTo l (l.length - 1))) (rfl) ?_ | refine den_callR ?_ (c_spec_FaceOf (wrapTo l (l.length - 1))) (rfl) ?_ | refine den_call ?_ (.ofR (c_spec_FaceOf (wrapTo l (l.length - 1)))) (rfl) ?_); (focus (simp only [VC.den, E.den, dEq, gsH_nil, and_true]; try exact rfl)); (simp only [cA]))
  refine den_ret ?_
  unfold makeP
  rw [if_neg hmk, firstTo_none hI]
  rfl
def recF (l : List ByteArray) : Int := if (makeP l).2.code = 0 then (makeP l).2.val else 0
def recOk (l : List ByteArray) : Bool := decide ((makeP l).2.code = 0)
theorem c_impl_RecipeFace (l : List ByteArray) : Fun Tryz.prog 83 none [encS l] (.tup [.int .i64 (recF l), .bool (recOk l)]) [] := by
 refine Fun.ofV vc_impl_RecipeFace_ok ty_impl_RecipeFace_ok rfl ?_ (fun hfit => ?_)
 ·exact ⟨ty_strS l, trivial⟩
 unfold vc_impl_RecipeFace
 ((first | refine den_call ?_ (c_impl_MakePart l) (⟨ty_Part _, ty_Reply _, trivial⟩) ?_ | refine den_callR ?_ (c_impl_MakePart l) (⟨ty_Part _, ty_Reply _, trivial⟩) ?_ | refine den_call ?_ (.ofR (c_impl_MakePart l)) (⟨ty_Part _, ty_Reply _, trivial⟩) ?_); (focus (simp only [VC.den, E.den, dEq, gsH_nil, and_true]; try exact rfl)); (simp only [cA]))
 refine den_ite (fun h => ?_) (fun h => ?_)
 ·simp only [E.den, dEq, iEq, sEq, cells_Reply] at h
  have h : ¬ (makeP l).2.code = 0 := by grind
  exact den_ret (by simp [E.den, recF, recOk, h])
 ·simp only [E.den, dEq, iEq, sEq, cells_Reply] at h
  have h : (makeP l).2.code = 0 := by grind
  exact den_ret (by simp [E.den, recF, recOk, h, cells_Reply])
theorem c_spec_RecipeFace (l : List ByteArray) : Fun Tryz.prog 70 none [encS l] (.tup [.int .i64 (recF l), .bool (recOk l)]) [] := by
 refine Fun.ofV vc_spec_RecipeFace_ok ty_spec_RecipeFace_ok rfl ?_ (fun hfit => ?_)
 ·exact ⟨ty_strS l, trivial⟩
 unfold vc_spec_RecipeFace
 ((first | refine den_call ?_ (c_spec_MakePart l) (⟨ty_Part _, ty_Reply _, trivial⟩) ?_ | refine den_callR ?_ (c_spec_MakePart l) (⟨ty_Part _, ty_Reply _, trivial⟩) ?_ | refine den_call ?_ (.ofR (c_spec_MakePart l)) (⟨ty_Part _, ty_Reply _, trivial⟩) ?_); (focus (simp only [VC.den, E.den, dEq, gsH_nil, and_true]; try exact rfl)); (simp only [cA]))
 refine den_ite (fun h => ?_) (fun h => ?_)
 ·simp only [E.den, dEq, iEq, sEq, cells_Reply] at h
  have h : ¬ (makeP l).2.code = 0 := by grind
  exact den_ret (by simp [E.den, recF, recOk, h])
 ·simp only [E.den, dEq, iEq, sEq, cells_Reply] at h
  have h : (makeP l).2.code = 0 := by grind
  exact den_ret (by simp [E.den, recF, recOk, h, cells_Reply])
end Go.Proofs.YtimickglpboilaaGreat
/- Needs, entries, registries, providers: what the program and the reference compute. -/
namespace Go.Proofs.YtimickglpboilaaGreat
open Go.RowKit Go
variable [GC]
def noText : ByteArray := ⟨#[]⟩
def needB (n : Need) : Bool := isFaceB n.face && !decide (n.face = 0) && (decide (n.frm = noText) || nameB n.frm) && n.least.ok
theorem c_impl_IsNeed (n : Need) : Fun Tryz.prog 86 none [enc n] (.bool (needB n)) [] := by
 refine Fun.ofV vc_impl_IsNeed_ok ty_impl_IsNeed_ok rfl ?_ (fun hfit => ?_)
 ·exact ⟨ty_Need n, trivial⟩
 unfold vc_impl_IsNeed
 ((first | refine den_call ?_ (c_impl_IsFace n.face) (trivial) ?_ | refine den_callR ?_ (c_impl_IsFace n.face) (trivial) ?_ | refine den_call ?_ (.ofR (c_impl_IsFace n.face)) (trivial) ?_); (focus (simp only [VC.den, E.den, dEq, gsH_nil, and_true, cells_Need]; try exact rfl)); (simp only [cA]))
 ((first | refine den_call ?_ (c_impl_IsName n.frm) (trivial) ?_ | refine den_callR ?_ (c_impl_IsName n.frm) (trivial) ?_ | refine den_call ?_ (.ofR (c_impl_IsName n.frm)) (trivial) ?_); (focus (simp only [VC.den, E.den, dEq, gsH_nil, and_true, cells_Need]; try exact rfl)); (simp only [cA]))
 ((first | refine den_call ?_ (c_impl_IsVersion n.least) (trivial) ?_ | refine den_callR ?_ (c_impl_IsVersion n.least) (trivial) ?_ | refine den_call ?_ (.ofR (c_impl_IsVersion n.least)) (trivial) ?_); (focus (simp only [VC.den, E.den, dEq, gsH_nil, and_true, cells_Need]; try exact rfl)); (simp only [cA]))
 refine den_ret ?_
 simp only [E.den, dEq, iEq, sEq, cells_Need]
 simp only [D.bool.injEq]
 unfold needB noText; grind
theorem c_spec_IsNeed (n : Need) : Fun Tryz.prog 73 none [enc n] (.bool (needB n)) [] := by
 refine Fun.ofV vc_spec_IsNeed_ok ty_spec_IsNeed_ok rfl ?_ (fun hfit => ?_)
 ·exact ⟨ty_Need n, trivial⟩
 unfold vc_spec_IsNeed
 ((first | refine den_call ?_ (c_spec_IsFace' n.face) (trivial) ?_ | refine den_callR ?_ (c_spec_IsFace' n.face) (trivial) ?_ | refine den_call ?_ (.ofR (c_spec_IsFace' n.face)) (trivial) ?_); (focus (simp only [VC.den, E.den, dEq, gsH_nil, and_true, cells_Need]; try exact rfl)); (simp only [cA]))
 ((first | refine den_call ?_ (c_spec_IsName n.frm) (trivial) ?_ | refine den_callR ?_ (c_spec_IsName n.frm) (trivial) ?_ | refine den_call ?_ (.ofR (c_spec_IsName n.frm)) (trivial) ?_); (focus (simp only [VC.den, E.den, dEq, gsH_nil, and_true, cells_Need]; try exact rfl)); (simp only [cA]))
 ((first | refine den_call ?_ (c_spec_IsVersion n.least) (trivial) ?_ | refine den_callR ?_ (c_spec_IsVersion n.least) (trivial) ?_ | refine den_call ?_ (.ofR (c_spec_IsVersion n.least)) (trivial) ?_); (focus (simp only [VC.den, E.den, dEq, gsH_nil, and_true, cells_Need]; try exact rfl)); (simp only [cA]))
 refine den_ret ?_
 simp only [E.den, dEq, iEq, sEq, cells_Need]
 simp only [D.bool.injEq]
 unfold needB noText; grind
def needAt (e : Entry) (k : Nat) : Bool := needB (nth e.needs k) && !decide ((nth e.needs k).frm = e.name)
def entryB (e : Entry) : Bool := recOk e.recipe && nameB e.name && e.ver.ok && decide (e.needs.length ≤ 3) && allTo (needAt e) e.needs.length
theorem c_impl_IsEntry (e : Entry) : Fun Tryz.prog 51 none [enc e] (.bool (entryB e)) [] := by
 refine Fun.ofV vc_impl_IsEntry_ok ty_impl_IsEntry_ok rfl ?_ (fun hfit => ?_)
 ·exact ⟨ty_Entry e, trivial⟩
 unfold vc_impl_IsEntry
 ((first | refine den_call ?_ (c_impl_RecipeFace e.recipe) (⟨rfl, trivial, trivial⟩) ?_ | refine den_callR ?_ (c_impl_RecipeFace e.recipe) (⟨rfl, trivial, trivial⟩) ?_ | refine den_call ?_ (.ofR (c_impl_RecipeFace e.recipe)) (⟨rfl, trivial, trivial⟩) ?_); (focus (simp only [VC.den, E.den, dEq, gsH_nil, and_true, cells_Entry]; try exact rfl)); (simp only [cA]))
 ((first | refine den_call ?_ (c_impl_IsName e.name) (trivial) ?_ | refine den_callR ?_ (c_impl_IsName e.name) (trivial) ?_ | refine den_call ?_ (.ofR (c_impl_IsName e.name)) (trivial) ?_); (focus (simp only [VC.den, E.den, dEq, gsH_nil, and_true, cells_Entry]; try exact rfl)); (simp only [cA]))
 ((first | refine den_call ?_ (c_impl_IsVersion e.ver) (trivial) ?_ | refine den_callR ?_ (c_impl_IsVersion e.ver) (trivial) ?_ | refine den_call ?_ (.ofR (c_impl_IsVersion e.ver)) (trivial) ?_); (focus (simp only [VC.den, E.den, dEq, gsH_nil, and_true, cells_Entry]; try exact rfl)); (simp only [cA]))
 refine den_ite (fun h => ?_) (fun h => ?_)
 ·simp only [E.den, dEq, iEq, sEq, cells_Entry] at h
  refine den_ret ?_
  simp only [E.den, D.bool.injEq]
  unfold entryB; grind
 simp only [E.den, dEq, iEq, sEq, cells_Entry] at h
 have h1 : recOk e.recipe = true := by grind
 have h2 : nameB e.name = true := by grind
 have h3 : e.ver.ok = true := by grind
 have h4 : e.needs.length ≤ 3 := by grind
 refine den_for e.needs.length (fun k => [.int .i64 k]) (fun k => allTo (needAt e) k = true) rfl rfl ?_
 intro k hk hI _
 simp only [cA]
 refine den_ite (fun h5 => ?_) (fun h5 => ?_)
 ·simp only [E.den, dEq, iEq, sEq, cells_Entry] at h5
  have h5 : k < e.needs.length := by simp at h5; exact h5
  (refine den_cond (fun hg => ?_) ?_; (focus (simp only [gsH, gE, E.den, dEq, iEq, sEq, cells_Entry] at hg ⊢; (try simp only [D.bool.injEq] at hg); (try simp only [D.bool.injEq]); grind)))
  ((first | refine den_call ?_ (c_impl_IsNeed (nth e.needs k)) (trivial) ?_ | refine den_callR ?_ (c_impl_IsNeed (nth e.needs k)) (trivial) ?_ | refine den_call ?_ (.ofR (c_impl_IsNeed (nth e.needs k))) (trivial) ?_); (focus (simp only [VC.den, E.den, dEq, gsH_nil, and_true, cells_Entry, row_Need]; try exact rfl)); (simp only [cA]))
  refine den_ite (fun h6 => ?_) (fun h6 => ?_)
  ·simp only [E.den, dEq, iEq, sEq, cells_Entry, row_Need, cells_Need] at h6
   have hb : needAt e k = false := by unfold needAt; grind
   refine den_ret ?_
   simp [E.den, entryB, allTo_bad h5 hb]
  ·simp only [E.den, dEq, iEq, sEq, cells_Entry, row_Need, cells_Need] at h6
   have hb : needAt e k = true := by unfold needAt; grind
   refine den_next h5 ?_ (show (allTo (needAt e) k && needAt e k) = true by rw [hI, hb]; rfl)
   simp only [E.den, dEq, iEq, sEq]
   rw [ar_add (by omega) (by omega)]; rfl
 ·simp only [E.den, dEq, iEq, sEq, cells_Entry] at h5
  obtain rfl : k = e.needs.length := by simp at h5; omega
  exact den_ret (by simp [E.den, entryB, hI, h1, h2, h3, h4])
theorem c_spec_IsEntry (e : Entry) : Fun Tryz.prog 38 none [enc e] (.bool (entryB e)) [] := by
 refine Fun.ofV vc_spec_IsEntry_ok ty_spec_IsEntry_ok rfl ?_ (fun hfit => ?_)
 ·exact ⟨ty_Entry e, trivial⟩
 unfold vc_spec_IsEntry
 ((first | refine den_call ?_ (c_spec_RecipeFace e.recipe) (⟨rfl, trivial, trivial⟩) ?_ | refine den_callR ?_ (c_spec_RecipeFace e.recipe) (⟨rfl, trivial, trivial⟩) ?_ | refine den_call ?_ (.ofR (c_spec_RecipeFace e.recipe)) (⟨rfl, trivial, trivial⟩) ?_); (focus (simp only [VC.den, E.den, dEq, gsH_nil, and_true, cells_Entry]; try exact rfl)); (simp only [cA]))
 ((first | refine den_call ?_ (c_spec_IsName e.name) (trivial) ?_ | refine den_callR ?_ (c_spec_IsName e.name) (trivial) ?_ | refine den_call ?_ (.ofR (c_spec_IsName e.name)) (trivial) ?_); (focus (simp only [VC.den, E.den, dEq, gsH_nil, and_true, cells_Entry]; try exact rfl)); (simp only [cA]))
 ((first | refine den_call ?_ (c_spec_IsVersion e.ver) (trivial) ?_ | refine den_callR ?_ (c_spec_IsVersion e.ver) (trivial) ?_ | refine den_call ?_ (.ofR (c_spec_IsVersion e.ver)) (trivial) ?_); (focus (simp only [VC.den, E.den, dEq, gsH_nil, and_true, cells_Entry]; try exact rfl)); (simp only [cA]))
 refine den_ite (fun h => ?_) (fun h => ?_)
 ·simp only [E.den, dEq, iEq, sEq, cells_Entry] at h
  refine den_ret ?_
  simp only [E.den, D.bool.injEq]
  unfold entryB; grind
 simp only [E.den, dEq, iEq, sEq, cells_Entry] at h
 have h1 : recOk e.recipe = true := by grind
 have h2 : nameB e.name = true := by grind
 have h3 : e.ver.ok = true := by grind
 have h4 : e.needs.length ≤ 3 := by grind
 refine den_for e.needs.length (fun k => [.int .i64 k]) (fun k => allTo (needAt e) k = true) rfl rfl ?_
 intro k hk hI _
 simp only [cA]
 refine den_ite (fun h5 => ?_) (fun h5 => ?_)
 ·simp only [E.den, dEq, iEq, sEq, cells_Entry] at h5
  have h5 : k < e.needs.length := by simp at h5; exact h5
  (refine den_cond (fun hg => ?_) ?_; (focus (simp only [gsH, gE, E.den, dEq, iEq, sEq, cells_Entry] at hg ⊢; (try simp only [D.bool.injEq] at hg); (try simp only [D.bool.injEq]); grind)))
  ((first | refine den_call ?_ (c_spec_IsNeed (nth e.needs k)) (trivial) ?_ | refine den_callR ?_ (c_spec_IsNeed (nth e.needs k)) (trivial) ?_ | refine den_call ?_ (.ofR (c_spec_IsNeed (nth e.needs k))) (trivial) ?_); (focus (simp only [VC.den, E.den, dEq, gsH_nil, and_true, cells_Entry, row_Need]; try exact rfl)); (simp only [cA]))
  refine den_ite (fun h6 => ?_) (fun h6 => ?_)
  ·simp only [E.den, dEq, iEq, sEq, cells_Entry, row_Need, cells_Need] at h6
   have hb : needAt e k = false := by unfold needAt; grind
   refine den_ret ?_
   simp [E.den, entryB, allTo_bad h5 hb]
  ·simp only [E.den, dEq, iEq, sEq, cells_Entry, row_Need, cells_Need] at h6
   have hb : needAt e k = true := by unfold needAt; grind
   refine den_next h5 ?_ (show (allTo (needAt e) k && needAt e k) = true by rw [hI, hb]; rfl)
   simp only [E.den, dEq, iEq, sEq]
   rw [ar_add (by omega) (by omega)]; rfl
 ·simp only [E.den, dEq, iEq, sEq, cells_Entry] at h5
  obtain rfl : k = e.needs.length := by simp at h5; omega
  exact den_ret (by simp [E.den, entryB, hI, h1, h2, h3, h4])
def meetsB (a b : Ver) : Bool := decide (a.maj = b.maj) && decide (b.min ≤ a.min)
theorem c_impl_Meets (a b : Ver) : Fun Tryz.prog 117 none [enc a, enc b] (.bool (meetsB a b)) [] := by
 refine Fun.ofV vc_impl_Meets_ok ty_impl_Meets_ok rfl ?_ (fun hfit => ?_)
 ·exact ⟨ty_Ver a, ty_Ver b, trivial⟩
 unfold vc_impl_Meets
 ((first | refine den_call ?_ (c_impl_CompareVersions a b) (rfl) ?_ | refine den_callR ?_ (c_impl_CompareVersions a b) (rfl) ?_ | refine den_call ?_ (.ofR (c_impl_CompareVersions a b)) (rfl) ?_); (focus (simp only [VC.den, E.den, dEq, gsH_nil, and_true]; try exact rfl)); (simp only [cA]))
 refine den_ret ?_
 simp only [E.den, dEq, iEq, sEq, cells_Ver]
 simp only [D.bool.injEq]
 unfold meetsB Ver.cmp
 rw [Bool.eq_iff_iff]
 simp
 intro h
 (repeat' split) <;> omega
theorem c_spec_Meets (a b : Ver) : Fun Tryz.prog 115 none [enc a, enc b] (.bool (meetsB a b)) [] := by
 refine Fun.ofV vc_spec_Meets_ok ty_spec_Meets_ok rfl ?_ (fun hfit => ?_)
 ·exact ⟨ty_Ver a, ty_Ver b, trivial⟩
 unfold vc_spec_Meets
 refine den_ret ?_
 simp only [E.den, dEq, iEq, sEq, cells_Ver]
 simp only [D.bool.injEq]
 unfold meetsB; grind
def servesB (e : Entry) (n : Need) : Bool := entryB e && needB n && (decide (n.frm = noText) || decide (n.frm = e.name)) && offersB (recF e.recipe) n.face && meetsB e.ver n.least
theorem c_impl_Serves (e : Entry) (n : Need) : Fun Tryz.prog 108 none [enc e, enc n] (.bool (servesB e n)) [] := by
 refine Fun.ofV vc_impl_Serves_ok ty_impl_Serves_ok rfl ?_ (fun hfit => ?_)
 ·exact ⟨ty_Entry e, ty_Need n, trivial⟩
 unfold vc_impl_Serves
 ((first | refine den_call ?_ (c_impl_IsEntry e) (trivial) ?_ | refine den_callR ?_ (c_impl_IsEntry e) (trivial) ?_ | refine den_call ?_ (.ofR (c_impl_IsEntry e)) (trivial) ?_); (focus (simp only [VC.den, E.den, dEq, gsH_nil, and_true]; try exact rfl)); (simp only [cA]))
 ((first | refine den_call ?_ (c_impl_IsNeed n) (trivial) ?_ | refine den_callR ?_ (c_impl_IsNeed n) (trivial) ?_ | refine den_call ?_ (.ofR (c_impl_IsNeed n)) (trivial) ?_); (focus (simp only [VC.den, E.den, dEq, gsH_nil, and_true]; try exact rfl)); (simp only [cA]))
 refine den_ite (fun h => ?_) (fun h => ?_)
 ·simp only [E.den, dEq, iEq, sEq] at h
  refine den_ret ?_
  simp only [E.den, D.bool.injEq]
  unfold servesB; grind
 simp only [E.den, dEq, iEq, sEq] at h
 ((first | refine den_call ?_ (c_impl_RecipeFace e.recipe) (⟨rfl, trivial, trivial⟩) ?_ | refine den_callR ?_ (c_impl_RecipeFace e.recipe) (⟨rfl, trivial, trivial⟩) ?_ | refine den_call ?_ (.ofR (c_impl_RecipeFace e.recipe)) (⟨rfl, trivial, trivial⟩) ?_); (focus (simp only [VC.den, E.den, dEq, gsH_nil, and_true, cells_Entry]; try exact rfl)); (simp only [cA]))
 ((first | refine den_call ?_ (c_impl_Offers (recF e.recipe) n.face) (trivial) ?_ | refine den_callR ?_ (c_impl_Offers (recF e.recipe) n.face) (trivial) ?_ | refine den_call ?_ (.ofR (c_impl_Offers (recF e.recipe) n.face)) (trivial) ?_); (focus (simp only [VC.den, E.den, dEq, gsH_nil, and_true, cells_Need]; try exact rfl)); (simp only [cA]))
 ((first | refine den_call ?_ (c_impl_Meets e.ver n.least) (trivial) ?_ | refine den_callR ?_ (c_impl_Meets e.ver n.least) (trivial) ?_ | refine den_call ?_ (.ofR (c_impl_Meets e.ver n.least)) (trivial) ?_); (focus (simp only [VC.den, E.den, dEq, gsH_nil, and_true, cells_Need, cells_Entry]; try exact rfl)); (simp only [cA]))
 refine den_ret ?_
 simp only [E.den, dEq, iEq, sEq, cells_Need, cells_Entry]
 simp only [D.bool.injEq]
 unfold servesB noText; grind
theorem c_spec_Serves (e : Entry) (n : Need) : Fun Tryz.prog 101 none [enc e, enc n] (.bool (servesB e n)) [] := by
 refine Fun.ofV vc_spec_Serves_ok ty_spec_Serves_ok rfl ?_ (fun hfit => ?_)
 ·exact ⟨ty_Entry e, ty_Need n, trivial⟩
 unfold vc_spec_Serves
 ((first | refine den_call ?_ (c_spec_RecipeFace e.recipe) (⟨rfl, trivial, trivial⟩) ?_ | refine den_callR ?_ (c_spec_RecipeFace e.recipe) (⟨rfl, trivial, trivial⟩) ?_ | refine den_call ?_ (.ofR (c_spec_RecipeFace e.recipe)) (⟨rfl, trivial, trivial⟩) ?_); (focus (simp only [VC.den, E.den, dEq, gsH_nil, and_true, cells_Entry]; try exact rfl)); (simp only [cA]))
 ((first | refine den_call ?_ (c_spec_IsEntry e) (trivial) ?_ | refine den_callR ?_ (c_spec_IsEntry e) (trivial) ?_ | refine den_call ?_ (.ofR (c_spec_IsEntry e)) (trivial) ?_); (focus (simp only [VC.den, E.den, dEq, gsH_nil, and_true]; try exact rfl)); (simp only [cA]))
 ((first | refine den_call ?_ (c_spec_IsNeed n) (trivial) ?_ | refine den_callR ?_ (c_spec_IsNeed n) (trivial) ?_ | refine den_call ?_ (.ofR (c_spec_IsNeed n)) (trivial) ?_); (focus (simp only [VC.den, E.den, dEq, gsH_nil, and_true]; try exact rfl)); (simp only [cA]))
 ((first | refine den_call ?_ (c_spec_Offers (recF e.recipe) n.face) (trivial) ?_ | refine den_callR ?_ (c_spec_Offers (recF e.recipe) n.face) (trivial) ?_ | refine den_call ?_ (.ofR (c_spec_Offers (recF e.recipe) n.face)) (trivial) ?_); (focus (simp only [VC.den, E.den, dEq, gsH_nil, and_true, cells_Need]; try exact rfl)); (simp only [cA]))
 ((first | refine den_call ?_ (c_spec_Meets e.ver n.least) (trivial) ?_ | refine den_callR ?_ (c_spec_Meets e.ver n.least) (trivial) ?_ | refine den_call ?_ (.ofR (c_spec_Meets e.ver n.least)) (trivial) ?_); (focus (simp only [VC.den, E.den, dEq, gsH_nil, and_true, cells_Need, cells_Entry]; try exact rfl)); (simp only [cA]))
 refine den_ret ?_
 simp only [E.den, dEq, iEq, sEq, cells_Need, cells_Entry]
 simp only [D.bool.injEq]
 unfold servesB noText; grind
def entryAt (l : List Entry) (k : Nat) : Bool := entryB (nth l k) && (k == 0 || ltB (nth l (k - 1)).name (nth l k).name)
def regB (l : List Entry) : Bool := decide (l.length ≤ 6) && allTo (entryAt l) l.length
theorem c_impl_IsRegistry (l : List Entry) : Fun Tryz.prog 19 none [encS l] (.bool (regB l)) [] := by
 refine Fun.ofV vc_impl_IsRegistry_ok ty_impl_IsRegistry_ok rfl ?_ (fun hfit => ?_)
 ·exact ⟨ty_EntryS l, trivial⟩
 have hl : l.length ≤ 9223372036854775807 := fits_encS hfit.1
 unfold vc_impl_IsRegistry
 refine den_ite (fun h => ?_) (fun h => ?_)
 ·simp only [E.den, dEq, iEq, sEq] at h
  refine den_ret ?_
  simp only [E.den, D.bool.injEq]
  unfold regB; grind
 simp only [E.den, dEq, iEq, sEq] at h
 have h4 : l.length ≤ 6 := by grind
 refine den_for l.length (fun k => [.int .i64 k]) (fun k => allTo (entryAt l) k = true) rfl rfl ?_
 intro k hk hI _
 simp only [cA]
 refine den_ite (fun h2 => ?_) (fun h2 => ?_)
 ·simp only [E.den, dEq, iEq, sEq] at h2
  have h2 : k < l.length := by simp at h2; exact h2
  (refine den_cond (fun hg => ?_) ?_; (focus (simp only [gsH, gE, E.den, dEq, iEq, sEq] at hg ⊢; (try simp only [D.bool.injEq] at hg); (try simp only [D.bool.injEq]); grind)))
  ((first | refine den_call ?_ (c_impl_IsEntry (nth l k)) (trivial) ?_ | refine den_callR ?_ (c_impl_IsEntry (nth l k)) (trivial) ?_ | refine den_call ?_ (.ofR (c_impl_IsEntry (nth l k))) (trivial) ?_); (focus (simp only [VC.den, E.den, dEq, gsH_nil, and_true, row_Entry, Int.toNat_natCast]; try exact rfl)); (simp only [cA]))
  refine den_cond (fun hg => ?_) ?_
  ·simp [gsH, E.den, cmpI] at hg ⊢
   rw [ar_sub (by omega) (by omega)]; omega
  refine den_ite (fun h3 => ?_) (fun h3 => ?_)
  ·simp only [E.den, dEq, iEq, sEq, row_Entry, cells_Entry] at h3
   have hb : entryAt l k = false := by
    unfold entryAt
    by_cases e : 0 < k
    ·rw [sub_one e (by omega)] at h3; grind
    ·grind
   refine den_ret ?_
   simp [E.den, regB, allTo_bad h2 hb]
  ·simp only [E.den, dEq, iEq, sEq, row_Entry, cells_Entry] at h3
   have hb : entryAt l k = true := by
    unfold entryAt
    by_cases e : 0 < k
    ·rw [sub_one e (by omega)] at h3; grind
    ·grind
   refine den_next h2 ?_ (show (allTo (entryAt l) k && entryAt l k) = true by rw [hI, hb]; rfl)
   simp only [E.den, dEq, iEq, sEq]
   rw [ar_add (by omega) (by omega)]; rfl
 ·simp only [E.den, dEq, iEq, sEq] at h2
  obtain rfl : k = l.length := by simp at h2; omega
  exact den_ret (by simp [E.den, regB, hI, h4])
theorem c_spec_IsRegistry (l : List Entry) : Fun Tryz.prog 14 none [encS l] (.bool (regB l)) [] := by
 refine Fun.ofV vc_spec_IsRegistry_ok ty_spec_IsRegistry_ok rfl ?_ (fun hfit => ?_)
 ·exact ⟨ty_EntryS l, trivial⟩
 have hl : l.length ≤ 9223372036854775807 := fits_encS hfit.1
 unfold vc_spec_IsRegistry
 refine den_for l.length (fun k => [.int .i64 k]) (fun k => allTo (entryAt l) k = true) rfl rfl ?_
 intro k hk hI _
 simp only [cA]
 refine den_ite (fun h2 => ?_) (fun h2 => ?_)
 ·simp only [E.den, dEq, iEq, sEq] at h2
  have h2 : k < l.length := by simp at h2; exact h2
  (refine den_cond (fun hg => ?_) ?_; (focus (simp only [gsH, gE, E.den, dEq, iEq, sEq] at hg ⊢; (try simp only [D.bool.injEq] at hg); (try simp only [D.bool.injEq]); grind)))
  ((first | refine den_call ?_ (c_spec_IsEntry (nth l k)) (trivial) ?_ | refine den_callR ?_ (c_spec_IsEntry (nth l k)) (trivial) ?_ | refine den_call ?_ (.ofR (c_spec_IsEntry (nth l k))) (trivial) ?_); (focus (simp only [VC.den, E.den, dEq, gsH_nil, and_true, row_Entry, Int.toNat_natCast]; try exact rfl)); (simp only [cA]))
  refine den_cond (fun hg => ?_) ?_
  ·simp [gsH, E.den, cmpI] at hg ⊢
   rw [ar_sub (by omega) (by omega)]; omega
  refine den_ite (fun h3 => ?_) (fun h3 => ?_)
  ·simp only [E.den, dEq, iEq, sEq, row_Entry, cells_Entry] at h3
   have hb : entryAt l k = false := by
    unfold entryAt
    by_cases e : 0 < k
    ·rw [sub_one e (by omega)] at h3; grind
    ·grind
   refine den_ret ?_
   simp [E.den, regB, allTo_bad h2 hb]
  ·simp only [E.den, dEq, iEq, sEq, row_Entry, cells_Entry] at h3
   have hb : entryAt l k = true := by
    unfold entryAt
    by_cases e : 0 < k
    ·rw [sub_one e (by omega)] at h3; grind
    ·grind
   refine den_next h2 ?_ (show (allTo (entryAt l) k && entryAt l k) = true by rw [hI, hb]; rfl)
   simp only [E.den, dEq, iEq, sEq]
   rw [ar_add (by omega) (by omega)]; rfl
 ·simp only [E.den, dEq, iEq, sEq] at h2
  obtain rfl : k = l.length := by simp at h2; omega
  refine den_ret ?_
  simp only [E.den, dEq, iEq, sEq]
  simp only [regB, hI, Bool.and_true, D.bool.injEq]
  grind
def provAt (l : List Entry) (s : ByteArray) (n : Need) (k : Nat) : Bool := !decide ((nth l k).name = s) && servesB (nth l k) n
def provO (l : List Entry) (s : ByteArray) (n : Need) : Option Nat := firstTo (provAt l s n) l.length
def provI (l : List Entry) (s : ByteArray) (n : Need) : Int := match provO l s n with | some k => k | none => -1
def provN (l : List Entry) (s : ByteArray) (n : Need) : ByteArray := match provO l s n with | some k => (nth l k).name | none => noText
theorem firstTo_lt {p : Nat → Bool} {k : Nat} : ∀ {n : Nat}, firstTo p n = some k → k < n ∧ p k = true ∧ ∀ i, i < k → p i = false
 | 0, h => by cases h
 | n + 1, h => by
  simp only [firstTo] at h
  split at h
  ·rename_i j hj
   cases h
   obtain ⟨h1, h2, h3⟩ := firstTo_lt hj
   exact ⟨by omega, h2, h3⟩
  ·rename_i hj
   split at h
   ·rename_i hp
    cases h
    refine ⟨by omega, hp, fun i hi => ?_⟩
    cases hb : p i with
    | false => rfl
    | true =>
     exfalso
     have : ∀ {n : Nat}, firstTo p n = none → ∀ i, i < n → p i = false := by
      intro n
      induction n with
      | zero => intro _ i hi; omega
      | succ n ih =>
       intro h i hi
       simp only [firstTo] at h
       split at h
       ·cases h
       ·rename_i hn
        split at h
        ·cases h
        ·rename_i hp
         by_cases e : i = n
         ·subst e; simpa using hp
         ·exact ih hn i (by omega)
     rw [this hj i hi] at hb; cases hb
   ·cases h
theorem c_impl_provider (l : List Entry) (s : ByteArray) (n : Need) : Fun Tryz.prog 87 none [encS l, .str s, enc n] (.int .i64 (provI l s n)) [] := by
 refine Fun.ofV vc_impl_provider_ok ty_impl_provider_ok rfl ?_ (fun hfit => ?_)
 ·exact ⟨ty_EntryS l, trivial, ty_Need n, trivial⟩
 have hl : l.length ≤ 9223372036854775807 := fits_encS hfit.1
 unfold vc_impl_provider
 refine den_for l.length (fun k => [.int .i64 k]) (fun k => ∀ i, i < k → provAt l s n i = false) rfl (by omega) ?_
 intro k hk hI _
 simp only [cA]
 refine den_ite (fun h2 => ?_) (fun h2 => ?_)
 ·simp only [E.den, dEq, iEq, sEq] at h2
  have h2 : k < l.length := by simp at h2; exact h2
  (refine den_cond (fun hg => ?_) ?_; (focus (simp only [gsH, gE, E.den, dEq, iEq, sEq] at hg ⊢; (try simp only [D.bool.injEq] at hg); (try simp only [D.bool.injEq]); grind)))
  ((first | refine den_call ?_ (c_impl_Serves (nth l k) n) (trivial) ?_ | refine den_callR ?_ (c_impl_Serves (nth l k) n) (trivial) ?_ | refine den_call ?_ (.ofR (c_impl_Serves (nth l k) n)) (trivial) ?_); (focus (simp only [VC.den, E.den, dEq, gsH_nil, and_true, row_Entry, Int.toNat_natCast]; try exact rfl)); (simp only [cA]))
  refine den_ite (fun h3 => ?_) (fun h3 => ?_)
  ·simp only [E.den, dEq, iEq, sEq, row_Entry, cells_Entry] at h3
   have hb : provAt l s n k = true := by unfold provAt; grind
   refine den_ret ?_
   simp [E.den, provI, provO, firstTo_some hb hI h2]
  ·simp only [E.den, dEq, iEq, sEq, row_Entry, cells_Entry] at h3
   have hb : provAt l s n k = false := by unfold provAt; grind
   refine den_next h2 ?_ fun i hi => ?_
   ·simp only [E.den, dEq, iEq, sEq]
    rw [ar_add (by omega) (by omega)]; rfl
   ·rcases Nat.lt_or_ge i k with h | h
    ·exact hI i h
    ·obtain rfl : i = k := by omega
     exact hb
 ·simp only [E.den, dEq, iEq, sEq] at h2
  obtain rfl : k = l.length := by simp at h2; omega
  exact den_ret (by simp [E.den, provI, provO, firstTo_none hI])
theorem c_spec_ProviderOf (l : List Entry) (s : ByteArray) (n : Need) : Fun Tryz.prog 74 none [encS l, .str s, enc n] (.str (provN l s n)) [] := by
 refine Fun.ofV vc_spec_ProviderOf_ok ty_spec_ProviderOf_ok rfl ?_ (fun hfit => ?_)
 ·exact ⟨ty_EntryS l, trivial, ty_Need n, trivial⟩
 have hl : l.length ≤ 9223372036854775807 := fits_encS hfit.1
 unfold vc_spec_ProviderOf
 refine den_for l.length (fun k => [.int .i64 k]) (fun k => ∀ i, i < k → provAt l s n i = false) rfl (by omega) ?_
 intro k hk hI _
 simp only [cA]
 refine den_ite (fun h2 => ?_) (fun h2 => ?_)
 ·simp only [E.den, dEq, iEq, sEq] at h2
  have h2 : k < l.length := by simp at h2; exact h2
  (refine den_cond (fun hg => ?_) ?_; (focus (simp only [gsH, gE, E.den, dEq, iEq, sEq] at hg ⊢; (try simp only [D.bool.injEq] at hg); (try simp only [D.bool.injEq]); grind)))
  ((first | refine den_call ?_ (c_spec_Serves (nth l k) n) (trivial) ?_ | refine den_callR ?_ (c_spec_Serves (nth l k) n) (trivial) ?_ | refine den_call ?_ (.ofR (c_spec_Serves (nth l k) n)) (trivial) ?_); (focus (simp only [VC.den, E.den, dEq, gsH_nil, and_true, row_Entry, Int.toNat_natCast]; try exact rfl)); (simp only [cA]))
  refine den_ite (fun h3 => ?_) (fun h3 => ?_)
  ·simp only [E.den, dEq, iEq, sEq, row_Entry, cells_Entry] at h3
   have hb : provAt l s n k = true := by unfold provAt; grind
   refine den_ret ?_
   simp only [E.den, dEq, iEq, sEq, row_Entry, cells_Entry]
   simp [provN, provO, firstTo_some hb hI h2]
  ·simp only [E.den, dEq, iEq, sEq, row_Entry, cells_Entry] at h3
   have hb : provAt l s n k = false := by unfold provAt; grind
   refine den_next h2 ?_ fun i hi => ?_
   ·simp only [E.den, dEq, iEq, sEq]
    rw [ar_add (by omega) (by omega)]; rfl
   ·rcases Nat.lt_or_ge i k with h | h
    ·exact hI i h
    ·obtain rfl : i = k := by omega
     exact hb
 ·simp only [E.den, dEq, iEq, sEq] at h2
  obtain rfl : k = l.length := by simp at h2; omega
  exact den_ret (by simp [E.den, provN, provO, firstTo_none hI, noText])
end Go.Proofs.YtimickglpboilaaGreat
/- The closure of a relation on places, step by step in place, as the program reckons it. Plain mathematics. -/
namespace Go.Proofs.YtimickglpboilaaGreat
def updM (S : Nat → Nat → Bool) (i j : Nat) (b : Bool) : Nat → Nat → Bool := fun a c => if a = i ∧ c = j then b else S a c
def fwJ (k i : Nat) (S : Nat → Nat → Bool) : Nat → Nat → Nat → Bool
 | 0 => S
 | j + 1 => updM (fwJ k i S j) i j (fwJ k i S j i j || (fwJ k i S j i k && fwJ k i S j k j))
def fwI (n k : Nat) (S : Nat → Nat → Bool) : Nat → Nat → Nat → Bool
 | 0 => S
 | i + 1 => fwJ k i (fwI n k S i) n
def fwK (n : Nat) (S : Nat → Nat → Bool) : Nat → Nat → Nat → Bool
 | 0 => S
 | k + 1 => fwI n k (fwK n S k) n
def viaK (S : Nat → Nat → Bool) (k a b : Nat) : Bool := S a b || (S a k && S k b)
theorem fwJ_spec (k i : Nat) (S : Nat → Nat → Bool) : ∀ (j a b : Nat), fwJ k i S j a b = if a = i ∧ b < j then viaK S k a b else S a b
 | 0, a, b => by simp [fwJ]
 | j + 1, a, b => by
  have h1 : fwJ k i S j i k = S i k := by
   rw [fwJ_spec k i S j]
   split
   ·unfold viaK; cases S i k <;> simp
   ·rfl
  have h2 : ∀ c, fwJ k i S j k c = S k c := by
   intro c
   rw [fwJ_spec k i S j]
   split
   ·rename_i h; unfold viaK; cases S k c <;> simp
   ·rfl
  simp only [fwJ, updM]
  by_cases h : a = i ∧ b = j
  ·obtain ⟨rfl, rfl⟩ := h
   rw [if_pos ⟨rfl, rfl⟩, if_pos ⟨rfl, Nat.lt_succ_self _⟩, h1, h2, fwJ_spec k a S b, if_neg (by omega)]
   rfl
  ·rw [if_neg h, fwJ_spec k i S j]
   by_cases h3 : a = i ∧ b < j
   ·rw [if_pos h3, if_pos ⟨h3.1, by omega⟩]
   ·rw [if_neg h3, if_neg (by omega)]
theorem viaK_k (S : Nat → Nat → Bool) (k b : Nat) : viaK S k k b = S k b := by unfold viaK; cases S k b <;> simp
theorem fwI_spec (n k : Nat) (S : Nat → Nat → Bool) : ∀ (i a b : Nat), fwI n k S i a b = if a < i ∧ b < n then viaK S k a b else S a b
 | 0, a, b => by simp [fwI]
 | i + 1, a, b => by
  have h2 : ∀ c, fwI n k S i k c = S k c := by
   intro c
   rw [fwI_spec n k S i]
   split
   ·exact viaK_k S k c
   ·rfl
  simp only [fwI]
  rw [fwJ_spec]
  by_cases h : a = i ∧ b < n
  ·obtain ⟨rfl, hb⟩ := h
   rw [if_pos ⟨rfl, hb⟩, if_pos ⟨Nat.lt_succ_self _, hb⟩]
   unfold viaK
   rw [h2, fwI_spec n k S a, if_neg (by omega), fwI_spec n k S a, if_neg (by omega)]
  ·rw [if_neg h, fwI_spec n k S i]
   by_cases h3 : a < i ∧ b < n
   ·rw [if_pos h3, if_pos ⟨by omega, h3.2⟩]
   ·rw [if_neg h3, if_neg (by omega)]
inductive Way (S : Nat → Nat → Bool) (k : Nat) : Nat → Nat → Prop
 | edge {a b : Nat} (h : S a b = true) : Way S k a b
 | step {a m b : Nat} (hm : m < k) (h1 : Way S k a m) (h2 : Way S k m b) : Way S k a b
theorem Way.mono {S : Nat → Nat → Bool} {k k' : Nat} (hk : k ≤ k') {a b : Nat} (h : Way S k a b) : Way S k' a b := by
 induction h with
 | edge h => exact .edge h
 | step hm _ _ ih1 ih2 => exact .step (by omega) ih1 ih2
theorem way_succ {S : Nat → Nat → Bool} {k a b : Nat} : Way S (k + 1) a b ↔ Way S k a b ∨ (Way S k a k ∧ Way S k k b) := by
 constructor
 ·intro h
  induction h with
  | edge h => exact .inl (.edge h)
  | @step a m b hm _ _ ih1 ih2 =>
   by_cases e : m = k
   ·subst e
    have l : Way S m a m := ih1.elim id fun h => h.1
    have r : Way S m m b := ih2.elim id fun h => h.2
    exact .inr ⟨l, r⟩
   ·have hm' : m < k := by omega
    rcases ih1 with h1 | ⟨h1, h1'⟩ <;> rcases ih2 with h2 | ⟨h2, h2'⟩
    ·exact .inl (.step hm' h1 h2)
    ·exact .inr ⟨.step hm' h1 h2, h2'⟩
    ·exact .inr ⟨h1, .step hm' h1' h2⟩
    ·exact .inr ⟨h1, h2'⟩
 ·rintro (h | ⟨h1, h2⟩)
  ·exact h.mono (by omega)
  ·exact .step (Nat.lt_succ_self k) (h1.mono (by omega)) (h2.mono (by omega))
theorem way_zero {S : Nat → Nat → Bool} {a b : Nat} : Way S 0 a b ↔ S a b = true := by
 constructor
 ·intro h
  cases h with
  | edge h => exact h
  | step hm => omega
 ·exact .edge
theorem fwK_spec (n : Nat) (S : Nat → Nat → Bool) : ∀ (k : Nat), k ≤ n → ∀ a b, a < n → b < n → (fwK n S k a b = true ↔ Way S k a b)
 | 0, _, a, b, _, _ => by rw [way_zero]; rfl
 | k + 1, hk, a, b, ha, hb => by
  simp only [fwK]
  rw [fwI_spec, if_pos ⟨ha, hb⟩, way_succ]
  unfold viaK
  have i1 := fwK_spec n S k (by omega) a b ha hb
  have i2 := fwK_spec n S k (by omega) a k ha (by omega)
  have i3 := fwK_spec n S k (by omega) k b (by omega) hb
  simp only [Bool.or_eq_true, Bool.and_eq_true, i1, i2, i3]
end Go.Proofs.YtimickglpboilaaGreat
/- Ascending lists: they are what they hold; a text put into one. No program in sight. -/
namespace Go.Proofs.YtimickglpboilaaGreat
section
variable {α : Type} [DecidableEq α]
structure Ord (lt : α → α → Bool) : Prop where
 irr : ∀ a, lt a a = false
 tr : ∀ {a b c}, lt a b = true → lt b c = true → lt a c = true
 tot : ∀ {a b}, lt a b = false → a ≠ b → lt b a = true
def Asc (lt : α → α → Bool) (l : List α) : Prop := l.Pairwise fun a b => lt a b = true
variable {lt : α → α → Bool}
theorem asc_ext (ho : Ord lt) : ∀ {a b : List α}, Asc lt a → Asc lt b → (∀ x, x ∈ a ↔ x ∈ b) → a = b
 | [], [], _, _, _ => rfl
 | [], y :: b, _, _, h => by have := (h y).2 (by simp); simp at this
 | x :: a, [], _, _, h => by have := (h x).1 (by simp); simp at this
 | x :: a, y :: b, ha, hb, h => by
  unfold Asc at ha hb
  rw [List.pairwise_cons] at ha hb
  have hxy : x = y := by
   refine Classical.byContradiction fun hne => ?_
   have h1 : x ∈ b := by
    have := (h x).1 (by simp)
    rcases List.mem_cons.1 this with h | h
    ·exact absurd h hne
    ·exact h
   have h2 : y ∈ a := by
    have := (h y).2 (by simp)
    rcases List.mem_cons.1 this with h | h
    ·exact absurd h.symm hne
    ·exact h
   have h3 := ho.tr (ha.1 y h2) (hb.1 x h1)
   rw [ho.irr] at h3; cases h3
  subst hxy
  rw [asc_ext ho ha.2 hb.2 fun z => ?_]
  have hz := h z
  simp only [List.mem_cons] at hz
  constructor
  ·intro hm
   rcases hz.1 (.inr hm) with rfl | h
   ·have := ha.1 z hm; rw [ho.irr] at this; cases this
   ·exact h
  ·intro hm
   rcases hz.2 (.inr hm) with rfl | h
   ·have := hb.1 z hm; rw [ho.irr] at this; cases this
   ·exact h
theorem asc_snoc {l : List α} {x : α} (h : Asc lt l) (hx : ∀ y ∈ l, lt y x = true) : Asc lt (l ++ [x]) := by
 unfold Asc at *
 rw [List.pairwise_append]
 exact ⟨h, by simp, fun a ha b hb => by simp at hb; subst hb; exact hx a ha⟩
theorem asc_nodup (ho : Ord lt) {l : List α} (h : Asc lt l) : l.Nodup := by
 unfold Asc at h
 exact h.imp fun {a b} hab e => by subst e; rw [ho.irr] at hab; cases hab
variable [Inhabited α]
def putK (lt : α → α → Bool) (l : List α) (s : α) : Nat → List α × Bool
 | 0 => ([], false)
 | k + 1 =>
  if (putK lt l s k).2 then ((putK lt l s k).1 ++ [l.getD k default], true)
  else if lt (l.getD k default) s then ((putK lt l s k).1 ++ [l.getD k default], false)
  else if l.getD k default = s then ((putK lt l s k).1 ++ [l.getD k default], true)
  else ((putK lt l s k).1 ++ [s] ++ [l.getD k default], true)
def putG (lt : α → α → Bool) (l : List α) (s : α) : List α := if (putK lt l s l.length).2 then (putK lt l s l.length).1 else (putK lt l s l.length).1 ++ [s]
theorem putK_len (l : List α) (s : α) : ∀ k, (putK lt l s k).1.length ≤ k + (if (putK lt l s k).2 then 1 else 0)
 | 0 => by simp [putK]
 | k + 1 => by
  have := putK_len l s k
  simp only [putK]
  repeat' split
  all_goals simp_all
  all_goals (try split at this)
  all_goals omega
theorem putG_len (l : List α) (s : α) : (putG lt l s).length ≤ l.length + 1 := by
 have := putK_len (lt := lt) l s l.length
 unfold putG
 split <;> simp_all
theorem putK_mem (l : List α) (s y : α) : ∀ k, (y ∈ (putK lt l s k).1 ∨ y = s) ↔ (∃ i, i < k ∧ l.getD i default = y) ∨ y = s
 | 0 => by simp [putK]
 | k + 1 => by
  have ih := putK_mem l s y k
  have e : (∃ i, i < k + 1 ∧ l.getD i default = y) ↔ (∃ i, i < k ∧ l.getD i default = y) ∨ l.getD k default = y := by
   constructor
   ·rintro ⟨i, hi, h⟩
    by_cases e : i = k
    ·subst e; exact .inr h
    ·exact .inl ⟨i, by omega, h⟩
   ·rintro (⟨i, hi, h⟩ | h)
    ·exact ⟨i, by omega, h⟩
    ·exact ⟨k, by omega, h⟩
  rw [e]
  clear e
  simp only [putK]
  generalize (∃ i, i < k ∧ l.getD i default = y) = P at *
  generalize l.getD k default = z at *
  repeat' split
  all_goals simp only [List.mem_append, List.mem_singleton]
  all_goals grind
theorem putK_done (l : List α) (s : α) : ∀ k, (putK lt l s k).2 = true → s ∈ (putK lt l s k).1
 | 0, h => by simp [putK] at h
 | k + 1, h => by
  have ih := putK_done l s k
  simp only [putK] at h ⊢
  repeat' split at h
  all_goals simp_all
theorem putG_mem (l : List α) (s y : α) : y ∈ putG lt l s ↔ y ∈ l ∨ y = s := by
 have h1 := putK_mem (lt := lt) l s y l.length
 have e : (∃ i, i < l.length ∧ l.getD i default = y) ↔ y ∈ l := by
  constructor
  ·rintro ⟨i, hi, rfl⟩
   rw [List.getD_eq_getElem?_getD, List.getElem?_eq_getElem hi]; simp
  ·intro h
   obtain ⟨i, hi, rfl⟩ := List.getElem_of_mem h
   exact ⟨i, hi, by rw [List.getD_eq_getElem?_getD, List.getElem?_eq_getElem hi]; simp⟩
 rw [e] at h1
 have h2 := putK_done (lt := lt) l s l.length
 unfold putG
 split
 ·rename_i hd
  have := h2 hd
  grind
 ·rw [List.mem_append, List.mem_singleton]; exact h1
theorem putK_asc (ho : Ord lt) {l : List α} (h : Asc lt l) (s : α) : ∀ k, k ≤ l.length → Asc lt (putK lt l s k).1 ∧ (∀ y ∈ (putK lt l s k).1, ∀ i, k ≤ i → i < l.length → lt y (l.getD i default) = true) ∧ ((putK lt l s k).2 = false → ∀ y ∈ (putK lt l s k).1, lt y s = true)
 | 0, _ => ⟨by simp [putK, Asc], by simp [putK], by simp [putK]⟩
 | k + 1, hk => by
  obtain ⟨h1, h2, h3⟩ := putK_asc ho h s k (by omega)
  have hlt : ∀ i, k < i → i < l.length → lt (l.getD k default) (l.getD i default) = true := by
   intro i hi hil
   have := List.pairwise_iff_getElem.1 h k i (by omega) hil hi
   simpa [List.getD_eq_getElem?_getD, hil, show k < l.length by omega] using this
  have hk2 : ∀ y ∈ (putK lt l s k).1, lt y (l.getD k default) = true := fun y hy => h2 y hy k (Nat.le_refl _) (by omega)
  generalize hz : l.getD k default = z at *
  simp only [putK, hz]
  split
  ·refine ⟨asc_snoc h1 hk2, ?_, by simp⟩
   intro y hy i hi hil
   rw [List.mem_append, List.mem_singleton] at hy
   rcases hy with hy | rfl
   ·exact h2 y hy i (by omega) hil
   ·exact hlt i (by omega) hil
  ·rename_i hd
   have hd : (putK lt l s k).2 = false := by simpa using hd
   split
   ·rename_i hzs
    refine ⟨asc_snoc h1 hk2, ?_, ?_⟩
    ·intro y hy i hi hil
     rw [List.mem_append, List.mem_singleton] at hy
     rcases hy with hy | rfl
     ·exact h2 y hy i (by omega) hil
     ·exact hlt i (by omega) hil
    ·intro _ y hy
     rw [List.mem_append, List.mem_singleton] at hy
     rcases hy with hy | rfl
     ·exact h3 hd y hy
     ·exact hzs
   ·rename_i hzs
    split
    ·refine ⟨asc_snoc h1 hk2, ?_, by simp⟩
     intro y hy i hi hil
     rw [List.mem_append, List.mem_singleton] at hy
     rcases hy with hy | rfl
     ·exact h2 y hy i (by omega) hil
     ·exact hlt i (by omega) hil
    ·rename_i hne
     have hsz : lt s z = true := ho.tot (by simpa using hzs) hne
     refine ⟨asc_snoc (asc_snoc h1 (h3 hd)) ?_, ?_, by simp⟩
     ·intro y hy
      rw [List.mem_append, List.mem_singleton] at hy
      rcases hy with hy | rfl
      ·exact hk2 y hy
      ·exact hsz
     ·intro y hy i hi hil
      simp only [List.mem_append, List.mem_singleton] at hy
      rcases hy with (hy | rfl) | rfl
      ·exact h2 y hy i (by omega) hil
      ·exact ho.tr hsz (hlt i (by omega) hil)
      ·exact hlt i (by omega) hil
theorem putG_asc (ho : Ord lt) {l : List α} (h : Asc lt l) (s : α) : Asc lt (putG lt l s) := by
 obtain ⟨h1, h2, h3⟩ := putK_asc ho h s l.length (Nat.le_refl _)
 unfold putG
 split
 ·exact h1
 ·rename_i hd
  exact asc_snoc h1 (h3 (by simpa using hd))
end
end Go.Proofs.YtimickglpboilaaGreat
