/- Cores, parts, recipes: what the program and the reference compute. -/
import Derived.Test.YtgaeigomhhbkfaaGreatBName
namespace Go.Proofs.YtgaeigomhhbkfaaGreat
open Go.RowKit Go
set_option linter.unusedVariables false
set_option linter.unusedSimpArgs false
set_option maxRecDepth 100000
set_option linter.unusedSectionVars false
variable [GC]
def cellB (l : List Cell) (k : Nat) : Bool := nameB (nth l k).key && numB (nth l k).val && (k == 0 || ltB (nth l (k - 1)).key (nth l k).key)
def cellsB (l : List Cell) : Bool := decide (l.length ≤ 4) && allTo (cellB l) l.length
theorem sub_one {k : Nat} (h : 0 < k) (hk : k ≤ 9223372036854775807) : (arI .sub .i64 (k : Int) 1).toNat = k - 1 := by
  rw [ar_sub (by omega) (by omega)]; omega
theorem c_impl_IsCells (l : List Cell) : Fun Tryz.prog 98 none [encS l] (.bool (cellsB l)) [] := by
  refine Fun.ofV vc_impl_IsCells_ok ty_impl_IsCells_ok rfl ?_ (fun hfit => ?_)
  · exact ⟨ty_CellS l, trivial⟩
  have hl : l.length ≤ 9223372036854775807 := fits_encS hfit.1
  unfold vc_impl_IsCells
  refine den_ite (fun h => ?_) (fun h => ?_)
  · simp only [E.den, dEq, iEq, sEq] at h
    refine den_ret ?_
    simp only [E.den, D.bool.injEq]
    unfold cellsB; grind
  simp only [E.den, dEq, iEq, sEq] at h
  have h4 : l.length ≤ 4 := by grind
  refine den_for l.length (fun k => [.int .i64 k]) (fun k => allTo (cellB l) k = true) rfl rfl ?_
  intro k hk hI _
  simp only [List.cons_append, List.nil_append]
  refine den_ite (fun h2 => ?_) (fun h2 => ?_)
  · simp only [E.den, dEq, iEq, sEq] at h2
    have h2 : k < l.length := by simp at h2; exact h2
    (refine den_cond (fun hg => ?_) ?_; (focus (simp only [gsH, List.mem_cons, List.not_mem_nil, or_false, forall_eq_or_imp, forall_eq, E.den, dEq, iEq, sEq] at hg ⊢; (try simp only [D.bool.injEq] at hg); (try simp only [D.bool.injEq]); grind)))
    ((first | refine den_call ?_ (c_impl_IsName (nth l k).key) (trivial) ?_ | refine den_callR ?_ (c_impl_IsName (nth l k).key) (trivial) ?_ | refine den_call ?_ (.ofR (c_impl_IsName (nth l k).key)) (trivial) ?_); (focus (simp only [VC.den, E.den, dEq, gsH_nil, and_true, row_Cell, cells_Cell, Int.toNat_natCast]; try exact rfl)); (simp only [List.cons_append, List.nil_append]))
    ((first | refine den_call ?_ (c_impl_isNumber (nth l k).val) (trivial) ?_ | refine den_callR ?_ (c_impl_isNumber (nth l k).val) (trivial) ?_ | refine den_call ?_ (.ofR (c_impl_isNumber (nth l k).val)) (trivial) ?_); (focus (simp only [VC.den, E.den, dEq, gsH_nil, and_true, row_Cell, cells_Cell, Int.toNat_natCast]; try exact rfl)); (simp only [List.cons_append, List.nil_append]))
    refine den_cond (fun hg => ?_) ?_
    · simp [gsH, E.den, cmpI] at hg ⊢
      rw [ar_sub (by omega) (by omega)]; omega
    refine den_ite (fun h3 => ?_) (fun h3 => ?_)
    · simp only [E.den, dEq, iEq, sEq, row_Cell, cells_Cell] at h3
      have hb : cellB l k = false := by
        unfold cellB
        by_cases e : 0 < k
        · rw [sub_one e (by omega)] at h3; grind
        · grind
      refine den_ret ?_
      simp [E.den, cellsB, allTo_bad h2 hb]
    · simp only [E.den, dEq, iEq, sEq, row_Cell, cells_Cell] at h3
      have hb : cellB l k = true := by
        unfold cellB
        by_cases e : 0 < k
        · rw [sub_one e (by omega)] at h3; grind
        · grind
      refine den_next h2 ?_ (show (allTo (cellB l) k && cellB l k) = true by rw [hI, hb]; rfl)
      simp only [E.den, dEq, iEq, sEq]
      rw [ar_add (by omega) (by omega)]; rfl
  · simp only [E.den, dEq, iEq, sEq] at h2
    obtain rfl : k = l.length := by simp at h2; omega
    exact den_ret (by simp [E.den, cellsB, hI, h4])
theorem c_spec_IsCells (l : List Cell) : Fun Tryz.prog 83 none [encS l] (.bool (cellsB l)) [] := by
  refine Fun.ofV vc_spec_IsCells_ok ty_spec_IsCells_ok rfl ?_ (fun hfit => ?_)
  · exact ⟨ty_CellS l, trivial⟩
  have hl : l.length ≤ 9223372036854775807 := fits_encS hfit.1
  unfold vc_spec_IsCells
  refine den_for l.length (fun k => [.int .i64 k]) (fun k => allTo (cellB l) k = true) rfl rfl ?_
  intro k hk hI _
  simp only [List.cons_append, List.nil_append]
  refine den_ite (fun h2 => ?_) (fun h2 => ?_)
  · simp only [E.den, dEq, iEq, sEq] at h2
    have h2 : k < l.length := by simp at h2; exact h2
    (refine den_cond (fun hg => ?_) ?_; (focus (simp only [gsH, List.mem_cons, List.not_mem_nil, or_false, forall_eq_or_imp, forall_eq, E.den, dEq, iEq, sEq] at hg ⊢; (try simp only [D.bool.injEq] at hg); (try simp only [D.bool.injEq]); grind)))
    ((first | refine den_call ?_ (c_spec_IsName (nth l k).key) (trivial) ?_ | refine den_callR ?_ (c_spec_IsName (nth l k).key) (trivial) ?_ | refine den_call ?_ (.ofR (c_spec_IsName (nth l k).key)) (trivial) ?_); (focus (simp only [VC.den, E.den, dEq, gsH_nil, and_true, row_Cell, cells_Cell, Int.toNat_natCast]; try exact rfl)); (simp only [List.cons_append, List.nil_append]))
    refine den_cond (fun hg => ?_) ?_
    · simp [gsH, E.den, cmpI] at hg ⊢
      rw [ar_sub (by omega) (by omega)]; omega
    refine den_ite (fun h3 => ?_) (fun h3 => ?_)
    · simp only [E.den, dEq, iEq, sEq, row_Cell, cells_Cell] at h3
      have hb : cellB l k = false := by
        unfold cellB numB
        by_cases e : 0 < k
        · rw [sub_one e (by omega)] at h3; grind
        · grind
      refine den_ret ?_
      simp [E.den, cellsB, allTo_bad h2 hb]
    · simp only [E.den, dEq, iEq, sEq, row_Cell, cells_Cell] at h3
      have hb : cellB l k = true := by
        unfold cellB numB
        by_cases e : 0 < k
        · rw [sub_one e (by omega)] at h3; grind
        · grind
      refine den_next h2 ?_ (show (allTo (cellB l) k && cellB l k) = true by rw [hI, hb]; rfl)
      simp only [E.den, dEq, iEq, sEq]
      rw [ar_add (by omega) (by omega)]; rfl
  · simp only [E.den, dEq, iEq, sEq] at h2
    obtain rfl : k = l.length := by simp at h2; omega
    refine den_ret ?_
    simp only [E.den, dEq, iEq, sEq]
    simp only [cellsB, hI, Bool.and_true, D.bool.injEq]
    grind
/-- Cores. -/
def newCore (s : ByteArray) : Core := if kindOk s then ⟨s, false, false, [], 0⟩ else ⟨⟨#[]⟩, false, false, [], 0⟩
theorem c_impl_NewCore (s : ByteArray) : FunR Tryz.prog 133 none [.str s] (.tup [enc (newCore s), .bool (kindOk s)]) [] [(3, 2)] := by
  refine FunR.ofV vc_impl_NewCore_ok ty_impl_NewCore_ok rt_impl_NewCore_ok rfl ?_ (fun hfit => ?_)
  · exact ⟨trivial, trivial⟩
  unfold vc_impl_NewCore
  ((first | refine den_call ?_ (c_impl_KindFace s) (⟨rfl, trivial, trivial⟩) ?_ | refine den_callR ?_ (c_impl_KindFace s) (⟨rfl, trivial, trivial⟩) ?_ | refine den_call ?_ (.ofR (c_impl_KindFace s)) (⟨rfl, trivial, trivial⟩) ?_); (focus (simp only [VC.den, E.den, dEq, gsH_nil, and_true]; try exact rfl)); (simp only [List.cons_append, List.nil_append]))
  refine den_ite (fun h => ?_) (fun h => ?_)
  · simp only [E.den, dEq, iEq, sEq] at h
    have h : kindOk s = false := by simpa using h
    exact den_ret (by simp only [newCore, h]; rfl)
  · simp only [E.den, dEq, iEq, sEq] at h
    have h : kindOk s = true := by simpa using h
    exact den_ret (by simp only [newCore, h]; rfl)
theorem c_spec_NewCore (s : ByteArray) : FunR Tryz.prog 128 none [.str s] (.tup [enc (newCore s), .bool (kindOk s)]) [] [(3, 2)] := by
  refine FunR.ofV vc_spec_NewCore_ok ty_spec_NewCore_ok rt_spec_NewCore_ok rfl ?_ (fun hfit => ?_)
  · exact ⟨trivial, trivial⟩
  unfold vc_spec_NewCore
  ((first | refine den_call ?_ (c_spec_KindFace s) (⟨rfl, trivial, trivial⟩) ?_ | refine den_callR ?_ (c_spec_KindFace s) (⟨rfl, trivial, trivial⟩) ?_ | refine den_call ?_ (.ofR (c_spec_KindFace s)) (⟨rfl, trivial, trivial⟩) ?_); (focus (simp only [VC.den, E.den, dEq, gsH_nil, and_true]; try exact rfl)); (simp only [List.cons_append, List.nil_append]))
  refine den_ite (fun h => ?_) (fun h => ?_)
  · simp only [E.den, dEq, iEq, sEq] at h
    have h : kindOk s = false := by simpa using h
    exact den_ret (by simp only [newCore, h]; rfl)
  · simp only [E.den, dEq, iEq, sEq] at h
    have h : kindOk s = true := by simpa using h
    exact den_ret (by simp only [newCore, h]; rfl)
def coreB (p : Core) : Bool := kindOk p.kind && cellsB p.cells && (p.cells.length == 0 || (kindN p.kind).testBit 1) && numB p.count && !(p.on && p.broken) && ((kindN p.kind).testBit 0 || (!p.on && !p.broken))
theorem bit1 : ∀ n : Fin 64, cmpI .eql (arI .and .i64 ((n.val : Nat) : Int) 2) 0 = !n.val.testBit 1 := by decide +kernel
theorem bit0 : ∀ n : Fin 64, cmpI .eql (arI .and .i64 ((n.val : Nat) : Int) 1) 1 = n.val.testBit 0 := by decide +kernel
theorem c_impl_IsCore (p : Core) : Fun Tryz.prog 62 none [enc p] (.bool (coreB p)) [] := by
  refine Fun.ofV vc_impl_IsCore_ok ty_impl_IsCore_ok rfl ?_ (fun hfit => ?_)
  · exact ⟨ty_Core p, trivial⟩
  have b1 := bit1 ⟨kindN p.kind, kindN_lt _⟩
  have b0 := bit0 ⟨kindN p.kind, kindN_lt _⟩
  simp only [cmpI_eql] at b1 b0
  unfold vc_impl_IsCore
  ((first | refine den_call ?_ (c_impl_KindFace p.kind) (⟨rfl, trivial, trivial⟩) ?_ | refine den_callR ?_ (c_impl_KindFace p.kind) (⟨rfl, trivial, trivial⟩) ?_ | refine den_call ?_ (.ofR (c_impl_KindFace p.kind)) (⟨rfl, trivial, trivial⟩) ?_); (focus (simp only [VC.den, E.den, dEq, gsH_nil, and_true, cells_Core]; try exact rfl)); (simp only [List.cons_append, List.nil_append]))
  ((first | refine den_call ?_ (c_impl_IsCells p.cells) (trivial) ?_ | refine den_callR ?_ (c_impl_IsCells p.cells) (trivial) ?_ | refine den_call ?_ (.ofR (c_impl_IsCells p.cells)) (trivial) ?_); (focus (simp only [VC.den, E.den, dEq, gsH_nil, and_true, cells_Core]; try exact rfl)); (simp only [List.cons_append, List.nil_append]))
  ((first | refine den_call ?_ (c_impl_isNumber p.count) (trivial) ?_ | refine den_callR ?_ (c_impl_isNumber p.count) (trivial) ?_ | refine den_call ?_ (.ofR (c_impl_isNumber p.count)) (trivial) ?_); (focus (simp only [VC.den, E.den, dEq, gsH_nil, and_true, cells_Core]; try exact rfl)); (simp only [List.cons_append, List.nil_append]))
  refine den_ite (fun h => ?_) (fun h => ?_)
  · simp only [E.den, dEq, iEq, sEq, cells_Core, b1] at h
    refine den_ret ?_
    simp only [E.den, D.bool.injEq]
    unfold coreB; grind
  · simp only [E.den, dEq, iEq, sEq, cells_Core, b1] at h
    refine den_ret ?_
    simp only [E.den, dEq, iEq, sEq, cells_Core, b0]
    simp only [D.bool.injEq]
    unfold coreB; grind
theorem c_spec_IsCore (p : Core) : Fun Tryz.prog 50 none [enc p] (.bool (coreB p)) [] := by
  refine Fun.ofV vc_spec_IsCore_ok ty_spec_IsCore_ok rfl ?_ (fun hfit => ?_)
  · exact ⟨ty_Core p, trivial⟩
  unfold vc_spec_IsCore
  ((first | refine den_call ?_ (c_spec_KindFace p.kind) (⟨rfl, trivial, trivial⟩) ?_ | refine den_callR ?_ (c_spec_KindFace p.kind) (⟨rfl, trivial, trivial⟩) ?_ | refine den_call ?_ (.ofR (c_spec_KindFace p.kind)) (⟨rfl, trivial, trivial⟩) ?_); (focus (simp only [VC.den, E.den, dEq, gsH_nil, and_true, cells_Core]; try exact rfl)); (simp only [List.cons_append, List.nil_append]))
  ((first | refine den_call ?_ (c_spec_l2Has (kindN p.kind) 0 (kindN_lt _) (by omega)) (trivial) ?_ | refine den_callR ?_ (c_spec_l2Has (kindN p.kind) 0 (kindN_lt _) (by omega)) (trivial) ?_ | refine den_call ?_ (.ofR (c_spec_l2Has (kindN p.kind) 0 (kindN_lt _) (by omega))) (trivial) ?_); (focus (simp only [VC.den, E.den, dEq, gsH_nil, and_true]; try exact rfl)); (simp only [List.cons_append, List.nil_append]))
  ((first | refine den_call ?_ (c_spec_IsCells p.cells) (trivial) ?_ | refine den_callR ?_ (c_spec_IsCells p.cells) (trivial) ?_ | refine den_call ?_ (.ofR (c_spec_IsCells p.cells)) (trivial) ?_); (focus (simp only [VC.den, E.den, dEq, gsH_nil, and_true, cells_Core]; try exact rfl)); (simp only [List.cons_append, List.nil_append]))
  ((first | refine den_call ?_ (c_spec_l2Has (kindN p.kind) 1 (kindN_lt _) (by omega)) (trivial) ?_ | refine den_callR ?_ (c_spec_l2Has (kindN p.kind) 1 (kindN_lt _) (by omega)) (trivial) ?_ | refine den_call ?_ (.ofR (c_spec_l2Has (kindN p.kind) 1 (kindN_lt _) (by omega))) (trivial) ?_); (focus (simp only [VC.den, E.den, dEq, gsH_nil, and_true]; try exact rfl)); (simp only [List.cons_append, List.nil_append]))
  refine den_ite (fun h => ?_) (fun h => ?_)
  · simp only [E.den, dEq, iEq, sEq, cells_Core] at h
    refine den_ret ?_
    simp only [E.den, D.bool.injEq]
    unfold coreB numB; grind
  · simp only [E.den, dEq, iEq, sEq, cells_Core] at h
    refine den_ret ?_
    simp only [E.den, dEq, iEq, sEq, cells_Core]
    simp only [D.bool.injEq]
    unfold coreB numB; grind
theorem c_impl_copyCore (p : Core) (h : p.cells.length ≤ 4294967296) : FunR Tryz.prog 137 none [enc p] (enc p) [] [(3, 2)] := by
  refine FunR.ofV vc_impl_copyCore_ok ty_impl_copyCore_ok rt_impl_copyCore_ok rfl ?_ (fun hfit => ?_)
  · exact ⟨ty_Core p, trivial⟩
  unfold vc_impl_copyCore
  refine den_cond (fun _ => ?_) (den_ret ?_)
  · simp [E.den, cells_Core, h]
  · simp [E.den, cells_Core, enc, encS]
theorem c_spec_l3Copy (p : Core) (h : p.cells.length ≤ 4294967296) : FunR Tryz.prog 136 none [enc p] (enc p) [] [(3, 2)] := by
  refine FunR.ofV vc_spec_l3Copy_ok ty_spec_l3Copy_ok rt_spec_l3Copy_ok rfl ?_ (fun hfit => ?_)
  · exact ⟨ty_Core p, trivial⟩
  unfold vc_spec_l3Copy
  refine den_cond (fun _ => ?_) (den_ret ?_)
  · simp [E.den, cells_Core, h]
  · simp [E.den, cells_Core, enc, encS]
/-- Parts. -/
theorem enc_core (p : Part) : D.agg (List.take 5 (List.drop 0 (Enc.cells p))) = enc p.core := rfl
theorem c_impl_copyPart (p : Part) (h : p.core.cells.length ≤ 4294967296) (h' : p.layers.length ≤ 4294967296) : FunR Tryz.prog 134 none [enc p] (enc p) [] [(3, 2), (5, 2)] := by
  refine FunR.ofV vc_impl_copyPart_ok ty_impl_copyPart_ok rt_impl_copyPart_ok rfl ?_ (fun hfit => ?_)
  · exact ⟨ty_Part p, trivial⟩
  unfold vc_impl_copyPart
  ((first | refine den_call ?_ (c_impl_copyCore p.core h) (ty_Core _) ?_ | refine den_callR ?_ (c_impl_copyCore p.core h) (ty_Core _) ?_ | refine den_call ?_ (.ofR (c_impl_copyCore p.core h)) (ty_Core _) ?_); (focus (simp only [VC.den, E.den, dEq, gsH_nil, and_true, cells_Part]; try exact rfl)); (simp only [List.cons_append, List.nil_append]))
  refine den_cond (fun _ => ?_) (den_ret ?_)
  · simp [E.den, cells_Part, h']
  · simp [E.den, cells_Part, cells_Core, enc, encS]
theorem c_spec_l4Copy (p : Part) (h : p.core.cells.length ≤ 4294967296) (h' : p.layers.length ≤ 4294967296) : FunR Tryz.prog 129 none [enc p] (enc p) [] [(3, 2), (5, 2)] := by
  refine FunR.ofV vc_spec_l4Copy_ok ty_spec_l4Copy_ok rt_spec_l4Copy_ok rfl ?_ (fun hfit => ?_)
  · exact ⟨ty_Part p, trivial⟩
  unfold vc_spec_l4Copy
  ((first | refine den_call ?_ (c_spec_l3Copy p.core h) (ty_Core _) ?_ | refine den_callR ?_ (c_spec_l3Copy p.core h) (ty_Core _) ?_ | refine den_call ?_ (.ofR (c_spec_l3Copy p.core h)) (ty_Core _) ?_); (focus (simp only [VC.den, E.den, dEq, gsH_nil, and_true, cells_Part]; try exact rfl)); (simp only [List.cons_append, List.nil_append]))
  refine den_cond (fun _ => ?_) (den_ret ?_)
  · simp [E.den, cells_Part, h']
  · simp [E.den, cells_Part, cells_Core, enc, encS]
def newPart (s : ByteArray) : Part := ⟨newCore s, []⟩
theorem c_impl_NewPart (s : ByteArray) : FunR Tryz.prog 120 none [.str s] (.tup [enc (newPart s), .bool (kindOk s)]) [] [(3, 2), (5, 2)] := by
  refine FunR.ofV vc_impl_NewPart_ok ty_impl_NewPart_ok rt_impl_NewPart_ok rfl ?_ (fun hfit => ?_)
  · exact ⟨trivial, trivial⟩
  unfold vc_impl_NewPart
  ((first | refine den_call ?_ (c_impl_NewCore s) (⟨ty_Core _, trivial, trivial⟩) ?_ | refine den_callR ?_ (c_impl_NewCore s) (⟨ty_Core _, trivial, trivial⟩) ?_ | refine den_call ?_ (.ofR (c_impl_NewCore s)) (⟨ty_Core _, trivial, trivial⟩) ?_); (focus (simp only [VC.den, E.den, dEq, gsH_nil, and_true]; try exact rfl)); (simp only [List.cons_append, List.nil_append]))
  exact den_ret rfl
theorem c_spec_NewPart (s : ByteArray) : FunR Tryz.prog 111 none [.str s] (.tup [enc (newPart s), .bool (kindOk s)]) [] [(3, 2), (5, 2)] := by
  refine FunR.ofV vc_spec_NewPart_ok ty_spec_NewPart_ok rt_spec_NewPart_ok rfl ?_ (fun hfit => ?_)
  · exact ⟨trivial, trivial⟩
  unfold vc_spec_NewPart
  ((first | refine den_call ?_ (c_spec_NewCore s) (⟨ty_Core _, trivial, trivial⟩) ?_ | refine den_callR ?_ (c_spec_NewCore s) (⟨ty_Core _, trivial, trivial⟩) ?_ | refine den_call ?_ (.ofR (c_spec_NewCore s)) (⟨ty_Core _, trivial, trivial⟩) ?_); (focus (simp only [VC.den, E.den, dEq, gsH_nil, and_true]; try exact rfl)); (simp only [List.cons_append, List.nil_append]))
  exact den_ret rfl
def faceAt (p : Part) (k : Nat) : Nat := if k = 0 then kindN p.core.kind else giveN (nth p.layers (k - 1)).name
theorem faceAt_lt (p : Part) (k : Nat) : faceAt p k < 64 := by unfold faceAt; split; exact kindN_lt _; exact giveN_lt _
def faceOf (p : Part) : Nat := faceAt p p.layers.length
theorem c_impl_faceBelow (p : Part) (k : Nat) (hk : k ≤ p.layers.length) : Fun Tryz.prog 65 none [enc p, .int .i64 k] (.int .i64 (faceAt p k)) [] := by
  refine Fun.ofV vc_impl_faceBelow_ok ty_impl_faceBelow_ok rfl ?_ (fun hfit => ?_)
  · exact ⟨ty_Part p, rfl, trivial⟩
  have hb : (k : Int) ≤ 9223372036854775807 := hfit.2.1.2
  unfold vc_impl_faceBelow
  refine den_ite (fun h => ?_) (fun h => ?_)
  · simp only [E.den, dEq, iEq, sEq] at h
    have h : k = 0 := by simp at h; exact h
    subst h
    ((first | refine den_call ?_ (c_impl_KindFace p.core.kind) (⟨rfl, trivial, trivial⟩) ?_ | refine den_callR ?_ (c_impl_KindFace p.core.kind) (⟨rfl, trivial, trivial⟩) ?_ | refine den_call ?_ (.ofR (c_impl_KindFace p.core.kind)) (⟨rfl, trivial, trivial⟩) ?_); (focus (simp only [VC.den, E.den, dEq, gsH_nil, and_true, cells_Part]; try exact rfl)); (simp only [List.cons_append, List.nil_append]))
    exact den_ret rfl
  · simp only [E.den, dEq, iEq, sEq] at h
    have h : k ≠ 0 := by simpa using h
    have e := sub_one (k := k) (by omega) (by omega)
    refine den_cond (fun _ => ?_) ?_
    · simp [E.den, cells_Part]
      rw [ar_sub (by omega) (by omega)]; omega
    ((first | refine den_call ?_ (c_impl_layerFaces (nth p.layers (k - 1)).name) (⟨rfl, rfl, trivial, trivial⟩) ?_ | refine den_callR ?_ (c_impl_layerFaces (nth p.layers (k - 1)).name) (⟨rfl, rfl, trivial, trivial⟩) ?_ | refine den_call ?_ (.ofR (c_impl_layerFaces (nth p.layers (k - 1)).name)) (⟨rfl, rfl, trivial, trivial⟩) ?_); (focus (simp only [VC.den, E.den, dEq, gsH_nil, and_true, cells_Part, row_Layer, cells_Layer, e]; try exact rfl)); (simp only [List.cons_append, List.nil_append]))
    exact den_ret (by simp [E.den, layD, faceAt, h])
theorem c_spec_l4Face (p : Part) (k : Nat) (hk : k ≤ p.layers.length) : Fun Tryz.prog 53 none [enc p, .int .i64 k] (.int .i64 (faceAt p k)) [] := by
  refine Fun.ofV vc_spec_l4Face_ok ty_spec_l4Face_ok rfl ?_ (fun hfit => ?_)
  · exact ⟨ty_Part p, rfl, trivial⟩
  have hb : (k : Int) ≤ 9223372036854775807 := hfit.2.1.2
  unfold vc_spec_l4Face
  refine den_ite (fun h => ?_) (fun h => ?_)
  · simp only [E.den, dEq, iEq, sEq] at h
    have h : k = 0 := by simp at h; exact h
    subst h
    ((first | refine den_call ?_ (c_spec_KindFace p.core.kind) (⟨rfl, trivial, trivial⟩) ?_ | refine den_callR ?_ (c_spec_KindFace p.core.kind) (⟨rfl, trivial, trivial⟩) ?_ | refine den_call ?_ (.ofR (c_spec_KindFace p.core.kind)) (⟨rfl, trivial, trivial⟩) ?_); (focus (simp only [VC.den, E.den, dEq, gsH_nil, and_true, cells_Part]; try exact rfl)); (simp only [List.cons_append, List.nil_append]))
    exact den_ret rfl
  · simp only [E.den, dEq, iEq, sEq] at h
    have h : k ≠ 0 := by simpa using h
    have e := sub_one (k := k) (by omega) (by omega)
    refine den_cond (fun _ => ?_) ?_
    · simp [E.den, cells_Part]
      rw [ar_sub (by omega) (by omega)]; omega
    ((first | refine den_call ?_ (c_spec_l4Row (nth p.layers (k - 1)).name) (⟨rfl, rfl, trivial, trivial⟩) ?_ | refine den_callR ?_ (c_spec_l4Row (nth p.layers (k - 1)).name) (⟨rfl, rfl, trivial, trivial⟩) ?_ | refine den_call ?_ (.ofR (c_spec_l4Row (nth p.layers (k - 1)).name)) (⟨rfl, rfl, trivial, trivial⟩) ?_); (focus (simp only [VC.den, E.den, dEq, gsH_nil, and_true, cells_Part, row_Layer, cells_Layer, e]; try exact rfl)); (simp only [List.cons_append, List.nil_append]))
    exact den_ret (by simp [E.den, layD, faceAt, h])
theorem c_impl_FaceOf (p : Part) : Fun Tryz.prog 122 none [enc p] (.int .i64 (faceOf p)) [] := by
  refine Fun.ofV vc_impl_FaceOf_ok ty_impl_FaceOf_ok rfl ?_ (fun hfit => ?_)
  · exact ⟨ty_Part p, trivial⟩
  unfold vc_impl_FaceOf
  ((first | refine den_call ?_ (c_impl_faceBelow p p.layers.length (Nat.le_refl _)) (rfl) ?_ | refine den_callR ?_ (c_impl_faceBelow p p.layers.length (Nat.le_refl _)) (rfl) ?_ | refine den_call ?_ (.ofR (c_impl_faceBelow p p.layers.length (Nat.le_refl _))) (rfl) ?_); (focus (simp only [VC.den, E.den, dEq, gsH_nil, and_true, cells_Part]; try exact rfl)); (simp only [List.cons_append, List.nil_append]))
  exact den_ret rfl
theorem c_spec_FaceOf (p : Part) : Fun Tryz.prog 113 none [enc p] (.int .i64 (faceOf p)) [] := by
  refine Fun.ofV vc_spec_FaceOf_ok ty_spec_FaceOf_ok rfl ?_ (fun hfit => ?_)
  · exact ⟨ty_Part p, trivial⟩
  unfold vc_spec_FaceOf
  ((first | refine den_call ?_ (c_spec_l4Face p p.layers.length (Nat.le_refl _)) (rfl) ?_ | refine den_callR ?_ (c_spec_l4Face p p.layers.length (Nat.le_refl _)) (rfl) ?_ | refine den_call ?_ (.ofR (c_spec_l4Face p p.layers.length (Nat.le_refl _))) (rfl) ?_); (focus (simp only [VC.den, E.den, dEq, gsH_nil, and_true, cells_Part]; try exact rfl)); (simp only [List.cons_append, List.nil_append]))
  exact den_ret rfl
def counts : ByteArray := ⟨#[99, 111, 117, 110, 116, 115]⟩
def hears : ByteArray := ⟨#[104, 101, 97, 114, 115]⟩
def layerB (p : Part) (k : Nat) : Bool := layOk (nth p.layers k).name && offersB (faceAt p k) (needN (nth p.layers k).name) && numB (nth p.layers k).count && (decide ((nth p.layers k).count = 0) || decide ((nth p.layers k).name = counts) || decide ((nth p.layers k).name = hears))
def partB (p : Part) : Bool := coreB p.core && decide (p.layers.length ≤ 3) && allTo (layerB p) p.layers.length
theorem c_impl_IsPart (p : Part) : Fun Tryz.prog 30 none [enc p] (.bool (partB p)) [] := by
  refine Fun.ofV vc_impl_IsPart_ok ty_impl_IsPart_ok rfl ?_ (fun hfit => ?_)
  · exact ⟨ty_Part p, trivial⟩
  unfold vc_impl_IsPart
  ((first | refine den_call ?_ (c_impl_IsCore p.core) (trivial) ?_ | refine den_callR ?_ (c_impl_IsCore p.core) (trivial) ?_ | refine den_call ?_ (.ofR (c_impl_IsCore p.core)) (trivial) ?_); (focus (simp only [VC.den, E.den, dEq, gsH_nil, and_true, cells_Part]; try exact rfl)); (simp only [List.cons_append, List.nil_append]))
  refine den_ite (fun h => ?_) (fun h => ?_)
  · simp only [E.den, dEq, iEq, sEq, cells_Part] at h
    refine den_ret ?_
    simp only [E.den, D.bool.injEq]
    unfold partB; grind
  simp only [E.den, dEq, iEq, sEq, cells_Part] at h
  have hc : coreB p.core = true := by grind
  have h3 : p.layers.length ≤ 3 := by grind
  refine den_for p.layers.length (fun k => [.int .i64 k]) (fun k => allTo (layerB p) k = true) rfl rfl ?_
  intro k hk hI _
  simp only [List.cons_append, List.nil_append]
  refine den_ite (fun h2 => ?_) (fun h2 => ?_)
  · simp only [E.den, dEq, iEq, sEq, cells_Part] at h2
    have h2 : k < p.layers.length := by simp at h2; exact h2
    (refine den_cond (fun hg => ?_) ?_; (focus (simp only [gsH, List.mem_cons, List.not_mem_nil, or_false, forall_eq_or_imp, forall_eq, E.den, dEq, iEq, sEq, cells_Part] at hg ⊢; (try simp only [D.bool.injEq] at hg); (try simp only [D.bool.injEq]); grind)))
    ((first | refine den_call ?_ (c_impl_layerFaces (nth p.layers k).name) (⟨rfl, rfl, trivial, trivial⟩) ?_ | refine den_callR ?_ (c_impl_layerFaces (nth p.layers k).name) (⟨rfl, rfl, trivial, trivial⟩) ?_ | refine den_call ?_ (.ofR (c_impl_layerFaces (nth p.layers k).name)) (⟨rfl, rfl, trivial, trivial⟩) ?_); (focus (simp only [VC.den, E.den, dEq, gsH_nil, and_true, cells_Part, row_Layer, cells_Layer]; try exact rfl)); (simp only [List.cons_append, List.nil_append]))
    ((first | refine den_call ?_ (c_impl_faceBelow p k hk) (rfl) ?_ | refine den_callR ?_ (c_impl_faceBelow p k hk) (rfl) ?_ | refine den_call ?_ (.ofR (c_impl_faceBelow p k hk)) (rfl) ?_); (focus (simp only [VC.den, E.den, dEq, gsH_nil, and_true]; try exact rfl)); (simp only [List.cons_append, List.nil_append]))
    ((first | refine den_call ?_ (c_impl_Offers (faceAt p k) (needN (nth p.layers k).name)) (trivial) ?_ | refine den_callR ?_ (c_impl_Offers (faceAt p k) (needN (nth p.layers k).name)) (trivial) ?_ | refine den_call ?_ (.ofR (c_impl_Offers (faceAt p k) (needN (nth p.layers k).name))) (trivial) ?_); (focus (simp only [VC.den, E.den, dEq, gsH_nil, and_true, layD]; try exact rfl)); (simp only [List.cons_append, List.nil_append]))
    ((first | refine den_call ?_ (c_impl_isNumber (nth p.layers k).count) (trivial) ?_ | refine den_callR ?_ (c_impl_isNumber (nth p.layers k).count) (trivial) ?_ | refine den_call ?_ (.ofR (c_impl_isNumber (nth p.layers k).count)) (trivial) ?_); (focus (simp only [VC.den, E.den, dEq, gsH_nil, and_true, cells_Part, row_Layer, cells_Layer]; try exact rfl)); (simp only [List.cons_append, List.nil_append]))
    refine den_ite (fun h3 => ?_) (fun h3 => ?_)
    · simp only [E.den, dEq, iEq, sEq, cells_Part, row_Layer, cells_Layer, layD] at h3
      have hb : layerB p k = false := by unfold layerB counts hears; grind
      refine den_ret ?_
      simp [E.den, partB, allTo_bad h2 hb]
    · simp only [E.den, dEq, iEq, sEq, cells_Part, row_Layer, cells_Layer, layD] at h3
      have hb : layerB p k = true := by unfold layerB counts hears; grind
      refine den_next h2 ?_ (show (allTo (layerB p) k && layerB p k) = true by rw [hI, hb]; rfl)
      simp only [E.den, dEq, iEq, sEq]
      rw [ar_add (by omega) (by omega)]; rfl
  · simp only [E.den, dEq, iEq, sEq, cells_Part] at h2
    obtain rfl : k = p.layers.length := by simp at h2; omega
    exact den_ret (by simp [E.den, partB, hI, hc, h3])
theorem c_spec_IsPart (p : Part) : Fun Tryz.prog 16 none [enc p] (.bool (partB p)) [] := by
  refine Fun.ofV vc_spec_IsPart_ok ty_spec_IsPart_ok rfl ?_ (fun hfit => ?_)
  · exact ⟨ty_Part p, trivial⟩
  unfold vc_spec_IsPart
  ((first | refine den_call ?_ (c_spec_IsCore p.core) (trivial) ?_ | refine den_callR ?_ (c_spec_IsCore p.core) (trivial) ?_ | refine den_call ?_ (.ofR (c_spec_IsCore p.core)) (trivial) ?_); (focus (simp only [VC.den, E.den, dEq, gsH_nil, and_true, cells_Part]; try exact rfl)); (simp only [List.cons_append, List.nil_append]))
  refine den_ite (fun h => ?_) (fun h => ?_)
  · simp only [E.den, dEq, iEq, sEq, cells_Part] at h
    refine den_ret ?_
    simp only [E.den, D.bool.injEq]
    unfold partB; grind
  simp only [E.den, dEq, iEq, sEq, cells_Part] at h
  have hc : coreB p.core = true := by grind
  have h3 : p.layers.length ≤ 3 := by grind
  refine den_for p.layers.length (fun k => [.int .i64 k]) (fun k => allTo (layerB p) k = true) rfl rfl ?_
  intro k hk hI _
  simp only [List.cons_append, List.nil_append]
  refine den_ite (fun h2 => ?_) (fun h2 => ?_)
  · simp only [E.den, dEq, iEq, sEq, cells_Part] at h2
    have h2 : k < p.layers.length := by simp at h2; exact h2
    (refine den_cond (fun hg => ?_) ?_; (focus (simp only [gsH, List.mem_cons, List.not_mem_nil, or_false, forall_eq_or_imp, forall_eq, E.den, dEq, iEq, sEq, cells_Part] at hg ⊢; (try simp only [D.bool.injEq] at hg); (try simp only [D.bool.injEq]); grind)))
    ((first | refine den_call ?_ (c_spec_LayerNeeds (nth p.layers k).name) (⟨rfl, trivial, trivial⟩) ?_ | refine den_callR ?_ (c_spec_LayerNeeds (nth p.layers k).name) (⟨rfl, trivial, trivial⟩) ?_ | refine den_call ?_ (.ofR (c_spec_LayerNeeds (nth p.layers k).name)) (⟨rfl, trivial, trivial⟩) ?_); (focus (simp only [VC.den, E.den, dEq, gsH_nil, and_true, cells_Part, row_Layer, cells_Layer]; try exact rfl)); (simp only [List.cons_append, List.nil_append]))
    ((first | refine den_call ?_ (c_spec_l4Face p k hk) (rfl) ?_ | refine den_callR ?_ (c_spec_l4Face p k hk) (rfl) ?_ | refine den_call ?_ (.ofR (c_spec_l4Face p k hk)) (rfl) ?_); (focus (simp only [VC.den, E.den, dEq, gsH_nil, and_true]; try exact rfl)); (simp only [List.cons_append, List.nil_append]))
    ((first | refine den_call ?_ (c_spec_Offers (faceAt p k) (needN (nth p.layers k).name)) (trivial) ?_ | refine den_callR ?_ (c_spec_Offers (faceAt p k) (needN (nth p.layers k).name)) (trivial) ?_ | refine den_call ?_ (.ofR (c_spec_Offers (faceAt p k) (needN (nth p.layers k).name))) (trivial) ?_); (focus (simp only [VC.den, E.den, dEq, gsH_nil, and_true]; try exact rfl)); (simp only [List.cons_append, List.nil_append]))
    refine den_ite (fun h3 => ?_) (fun h3 => ?_)
    · simp only [E.den, dEq, iEq, sEq, cells_Part, row_Layer, cells_Layer] at h3
      have hb : layerB p k = false := by unfold layerB counts hears numB; grind
      refine den_ret ?_
      simp [E.den, partB, allTo_bad h2 hb]
    · simp only [E.den, dEq, iEq, sEq, cells_Part, row_Layer, cells_Layer] at h3
      have hb : layerB p k = true := by unfold layerB counts hears numB; grind
      refine den_next h2 ?_ (show (allTo (layerB p) k && layerB p k) = true by rw [hI, hb]; rfl)
      simp only [E.den, dEq, iEq, sEq]
      rw [ar_add (by omega) (by omega)]; rfl
  · simp only [E.den, dEq, iEq, sEq, cells_Part] at h2
    obtain rfl : k = p.layers.length := by simp at h2; omega
    exact den_ret (by simp [E.den, partB, hI, hc, h3])
/-- Wrapping. -/
def rep (code val want had : Int) : Reply := ⟨code, val, ⟨#[]⟩, want, had⟩
def wrapP (p : Part) (s : ByteArray) : Part × Reply :=
  if partB p = false ∨ layOk s = false then (p, rep 7 0 0 0)
  else if 3 ≤ p.layers.length then (p, rep 5 0 0 0)
  else if offersB (faceOf p) (needN s) = false then (p, rep 1 0 (needN s) (faceOf p))
  else (⟨p.core, p.layers ++ [⟨s, 0⟩]⟩, rep 0 (giveN s) 0 0)
theorem c_impl_Wrap (p : Part) (s : ByteArray) (h1 : p.core.cells.length ≤ 4294967296) (h2 : p.layers.length ≤ 4294967295) : FunR Tryz.prog 121 none [enc p, .str s] (.tup [enc (wrapP p s).1, enc (wrapP p s).2]) [] [(3, 2), (5, 2)] := by
  refine FunR.ofV vc_impl_Wrap_ok ty_impl_Wrap_ok rt_impl_Wrap_ok rfl ?_ (fun hfit => ?_)
  · exact ⟨ty_Part p, trivial, trivial⟩
  unfold vc_impl_Wrap
  ((first | refine den_call ?_ (c_impl_copyPart p h1 (by omega)) (ty_Part _) ?_ | refine den_callR ?_ (c_impl_copyPart p h1 (by omega)) (ty_Part _) ?_ | refine den_call ?_ (.ofR (c_impl_copyPart p h1 (by omega))) (ty_Part _) ?_); (focus (simp only [VC.den, E.den, dEq, gsH_nil, and_true]; try exact rfl)); (simp only [List.cons_append, List.nil_append]))
  ((first | refine den_call ?_ (c_impl_layerFaces s) (⟨rfl, rfl, trivial, trivial⟩) ?_ | refine den_callR ?_ (c_impl_layerFaces s) (⟨rfl, rfl, trivial, trivial⟩) ?_ | refine den_call ?_ (.ofR (c_impl_layerFaces s)) (⟨rfl, rfl, trivial, trivial⟩) ?_); (focus (simp only [VC.den, E.den, dEq, gsH_nil, and_true]; try exact rfl)); (simp only [List.cons_append, List.nil_append]))
  ((first | refine den_call ?_ (c_impl_IsPart p) (trivial) ?_ | refine den_callR ?_ (c_impl_IsPart p) (trivial) ?_ | refine den_call ?_ (.ofR (c_impl_IsPart p)) (trivial) ?_); (focus (simp only [VC.den, E.den, dEq, gsH_nil, and_true]; try exact rfl)); (simp only [List.cons_append, List.nil_append]))
  refine den_ite (fun h => ?_) (fun h => ?_)
  · simp only [E.den, dEq, iEq, sEq, layD] at h
    refine den_ret ?_
    unfold wrapP
    rw [if_pos (by grind)]
    rfl
  simp only [E.den, dEq, iEq, sEq, layD] at h
  have hn : ¬ (partB p = false ∨ layOk s = false) := by grind
  refine den_ite (fun h3 => ?_) (fun h3 => ?_)
  · simp only [E.den, dEq, iEq, sEq, cells_Part] at h3
    refine den_ret ?_
    unfold wrapP
    rw [if_neg hn, if_pos (by grind)]
    rfl
  simp only [E.den, dEq, iEq, sEq, cells_Part] at h3
  have hm : ¬ 3 ≤ p.layers.length := by grind
  ((first | refine den_call ?_ (c_impl_FaceOf p) (rfl) ?_ | refine den_callR ?_ (c_impl_FaceOf p) (rfl) ?_ | refine den_call ?_ (.ofR (c_impl_FaceOf p)) (rfl) ?_); (focus (simp only [VC.den, E.den, dEq, gsH_nil, and_true]; try exact rfl)); (simp only [List.cons_append, List.nil_append]))
  ((first | refine den_call ?_ (c_impl_Offers (faceOf p) (needN s)) (trivial) ?_ | refine den_callR ?_ (c_impl_Offers (faceOf p) (needN s)) (trivial) ?_ | refine den_call ?_ (.ofR (c_impl_Offers (faceOf p) (needN s))) (trivial) ?_); (focus (simp only [VC.den, E.den, dEq, gsH_nil, and_true, layD]; try exact rfl)); (simp only [List.cons_append, List.nil_append]))
  refine den_ite (fun h4 => ?_) (fun h4 => ?_)
  · simp only [E.den, dEq, iEq, sEq] at h4
    ((first | refine den_call ?_ (c_impl_FaceOf p) (rfl) ?_ | refine den_callR ?_ (c_impl_FaceOf p) (rfl) ?_ | refine den_call ?_ (.ofR (c_impl_FaceOf p)) (rfl) ?_); (focus (simp only [VC.den, E.den, dEq, gsH_nil, and_true]; try exact rfl)); (simp only [List.cons_append, List.nil_append]))
    refine den_ret ?_
    unfold wrapP
    rw [if_neg hn, if_neg hm, if_pos (by grind)]
    rfl
  · simp only [E.den, dEq, iEq, sEq] at h4
    refine den_cond (fun _ => ?_) (den_ret ?_)
    · simp [E.den, cells_Part]; omega
    unfold wrapP
    rw [if_neg hn, if_neg hm, if_neg (by grind)]
    simp [E.den, cells_Part, enc, encS, cells_Layer, layD, rep, cells_Reply]
theorem c_spec_Wrap (p : Part) (s : ByteArray) (h1 : p.core.cells.length ≤ 4294967296) (h2 : p.layers.length ≤ 4294967295) : FunR Tryz.prog 112 none [enc p, .str s] (.tup [enc (wrapP p s).1, enc (wrapP p s).2]) [] [(3, 2), (5, 2)] := by
  refine FunR.ofV vc_spec_Wrap_ok ty_spec_Wrap_ok rt_spec_Wrap_ok rfl ?_ (fun hfit => ?_)
  · exact ⟨ty_Part p, trivial, trivial⟩
  unfold vc_spec_Wrap
  ((first | refine den_call ?_ (c_spec_l4Copy p h1 (by omega)) (ty_Part _) ?_ | refine den_callR ?_ (c_spec_l4Copy p h1 (by omega)) (ty_Part _) ?_ | refine den_call ?_ (.ofR (c_spec_l4Copy p h1 (by omega))) (ty_Part _) ?_); (focus (simp only [VC.den, E.den, dEq, gsH_nil, and_true]; try exact rfl)); (simp only [List.cons_append, List.nil_append]))
  ((first | refine den_call ?_ (c_spec_l4Row s) (⟨rfl, rfl, trivial, trivial⟩) ?_ | refine den_callR ?_ (c_spec_l4Row s) (⟨rfl, rfl, trivial, trivial⟩) ?_ | refine den_call ?_ (.ofR (c_spec_l4Row s)) (⟨rfl, rfl, trivial, trivial⟩) ?_); (focus (simp only [VC.den, E.den, dEq, gsH_nil, and_true]; try exact rfl)); (simp only [List.cons_append, List.nil_append]))
  ((first | refine den_call ?_ (c_spec_IsPart p) (trivial) ?_ | refine den_callR ?_ (c_spec_IsPart p) (trivial) ?_ | refine den_call ?_ (.ofR (c_spec_IsPart p)) (trivial) ?_); (focus (simp only [VC.den, E.den, dEq, gsH_nil, and_true]; try exact rfl)); (simp only [List.cons_append, List.nil_append]))
  refine den_ite (fun h => ?_) (fun h => ?_)
  · simp only [E.den, dEq, iEq, sEq, layD] at h
    refine den_ret ?_
    unfold wrapP
    rw [if_pos (by grind)]
    rfl
  simp only [E.den, dEq, iEq, sEq, layD] at h
  have hn : ¬ (partB p = false ∨ layOk s = false) := by grind
  have hp3 : p.layers.length ≤ 3 := by
    have : partB p = true := by grind
    unfold partB at this; grind
  refine den_ite (fun h3 => ?_) (fun h3 => ?_)
  · simp only [E.den, dEq, iEq, sEq, cells_Part] at h3
    refine den_ret ?_
    unfold wrapP
    rw [if_neg hn, if_pos (by grind)]
    rfl
  simp only [E.den, dEq, iEq, sEq, cells_Part] at h3
  have hm : ¬ 3 ≤ p.layers.length := by grind
  ((first | refine den_call ?_ (c_spec_FaceOf p) (rfl) ?_ | refine den_callR ?_ (c_spec_FaceOf p) (rfl) ?_ | refine den_call ?_ (.ofR (c_spec_FaceOf p)) (rfl) ?_); (focus (simp only [VC.den, E.den, dEq, gsH_nil, and_true]; try exact rfl)); (simp only [List.cons_append, List.nil_append]))
  ((first | refine den_call ?_ (c_spec_Offers (faceOf p) (needN s)) (trivial) ?_ | refine den_callR ?_ (c_spec_Offers (faceOf p) (needN s)) (trivial) ?_ | refine den_call ?_ (.ofR (c_spec_Offers (faceOf p) (needN s))) (trivial) ?_); (focus (simp only [VC.den, E.den, dEq, gsH_nil, and_true, layD]; try exact rfl)); (simp only [List.cons_append, List.nil_append]))
  refine den_ite (fun h4 => ?_) (fun h4 => ?_)
  · simp only [E.den, dEq, iEq, sEq] at h4
    ((first | refine den_call ?_ (c_spec_FaceOf p) (rfl) ?_ | refine den_callR ?_ (c_spec_FaceOf p) (rfl) ?_ | refine den_call ?_ (.ofR (c_spec_FaceOf p)) (rfl) ?_); (focus (simp only [VC.den, E.den, dEq, gsH_nil, and_true]; try exact rfl)); (simp only [List.cons_append, List.nil_append]))
    refine den_ret ?_
    unfold wrapP
    rw [if_neg hn, if_neg hm, if_pos (by grind)]
    rfl
  · simp only [E.den, dEq, iEq, sEq] at h4
    refine den_cond (fun _ => ?_) (den_ret ?_)
    · simp [E.den, cells_Part]; omega
    unfold wrapP
    rw [if_neg hn, if_neg hm, if_neg (by grind)]
    simp [E.den, cells_Part, enc, encS, cells_Layer, layD, rep, cells_Reply]
/-- Recipes. -/
def noPart : Part := ⟨⟨⟨#[]⟩, false, false, [], 0⟩, []⟩
def wrapTo (l : List ByteArray) : Nat → Part
  | 0 => newPart (nth l 0)
  | k + 1 => (wrapP (wrapTo l k) (nth l (k + 1))).1
def wrapR (l : List ByteArray) (k : Nat) : Reply := (wrapP (wrapTo l k) (nth l (k + 1))).2
/-- The first of the first n places. -/
def firstTo (p : Nat → Bool) : Nat → Option Nat
  | 0 => none
  | n + 1 => match firstTo p n with
    | some k => some k
    | none => if p n then some n else none
theorem firstTo_none {p : Nat → Bool} : ∀ {n : Nat}, (∀ i, i < n → p i = false) → firstTo p n = none
  | 0, _ => rfl
  | n + 1, h => by
    have h1 := firstTo_none (n := n) (fun i hi => h i (by omega))
    simp [firstTo, h1, h n (by omega)]
theorem firstTo_some {p : Nat → Bool} {k : Nat} (hp : p k = true) (h : ∀ i, i < k → p i = false) : ∀ {n : Nat}, k < n → firstTo p n = some k
  | 0, hk => by omega
  | n + 1, hk => by
    by_cases e : k = n
    · subst e; simp [firstTo, firstTo_none h, hp]
    · simp [firstTo, firstTo_some hp h (show k < n by omega)]
def makeP (l : List ByteArray) : Part × Reply :=
  if l.length = 0 ∨ kindOk (nth l 0) = false then (noPart, rep 7 0 0 0)
  else match firstTo (fun k => !decide ((wrapR l k).code = 0)) (l.length - 1) with
    | some k => (noPart, wrapR l k)
    | none => (wrapTo l (l.length - 1), rep 0 (faceOf (wrapTo l (l.length - 1))) 0 0)
theorem wrapP_small {p : Part} {s : ByteArray} (h1 : p.core.cells = []) (h2 : p.layers.length ≤ 3) : (wrapP p s).1.core.cells = [] ∧ (wrapP p s).1.layers.length ≤ 3 := by
  unfold wrapP
  split
  · exact ⟨h1, h2⟩
  split
  · exact ⟨h1, h2⟩
  split
  · exact ⟨h1, h2⟩
  · refine ⟨h1, ?_⟩
    simp; omega
theorem wrapTo_small (l : List ByteArray) : ∀ k, (wrapTo l k).core.cells = [] ∧ (wrapTo l k).layers.length ≤ 3
  | 0 => by
    refine ⟨?_, by simp [wrapTo, newPart]⟩
    simp only [wrapTo, newPart, newCore]
    split <;> rfl
  | k + 1 => wrapP_small (wrapTo_small l k).1 (wrapTo_small l k).2
def tailL (l : List ByteArray) : List ByteArray := (l.drop 1).take (l.length - 1)
theorem nth_tail {l : List ByteArray} {k : Nat} (h : k < l.length - 1) : nth (tailL l) k = nth l (k + 1) := by
  have h' : k + 1 < l.length := by omega
  simp [nth, tailL, List.getD, List.getElem?_take, h, Nat.add_comm 1 k, List.getElem?_eq_getElem h']
theorem len_tail (l : List ByteArray) : (tailL l).length = l.length - 1 := by simp [tailL]
theorem cut_den {env : List D} {l : List ByteArray} {e : E} (h : e.den env = encS l) : (E.cut e (.li .i64 1) (.len e)).den env = encS (tailL l) := by
  simp [E.den, h, cutD, encS, tailL, List.map_take, List.map_drop, lenD]
def partL (p : Part) : List D := [.str p.core.kind, .bool p.core.on, .bool p.core.broken, encS p.core.cells, .int .i64 p.core.count, encS p.layers]
theorem c_impl_MakePart (l : List ByteArray) : FunR Tryz.prog 101 none [encS l] (.tup [enc (makeP l).1, enc (makeP l).2]) [] [(3, 2), (5, 2)] := by
  refine FunR.ofV vc_impl_MakePart_ok ty_impl_MakePart_ok rt_impl_MakePart_ok rfl ?_ (fun hfit => ?_)
  · exact ⟨ty_strS l, trivial⟩
  have hl : l.length ≤ 9223372036854775807 := fits_encS hfit.1
  unfold vc_impl_MakePart
  refine den_ite (fun h => ?_) (fun h => ?_)
  · simp only [E.den, dEq, iEq, sEq] at h
    refine den_ret ?_
    unfold makeP
    rw [if_pos (.inl (by grind))]
    rfl
  simp only [E.den, dEq, iEq, sEq] at h
  have h0 : l.length ≠ 0 := by grind
  refine den_cond (fun _ => ?_) ?_
  · simp [E.den]; omega
  ((first | refine den_call ?_ (c_impl_NewPart (nth l 0)) (⟨ty_Part _, trivial, trivial⟩) ?_ | refine den_callR ?_ (c_impl_NewPart (nth l 0)) (⟨ty_Part _, trivial, trivial⟩) ?_ | refine den_call ?_ (.ofR (c_impl_NewPart (nth l 0))) (⟨ty_Part _, trivial, trivial⟩) ?_); (focus (simp only [VC.den, E.den, dEq, gsH_nil, and_true, row_str, cells_str, Int.toNat_zero]; try exact rfl)); (simp only [List.cons_append, List.nil_append]))
  refine den_ite (fun h2 => ?_) (fun h2 => ?_)
  · simp only [E.den, dEq, iEq, sEq] at h2
    refine den_ret ?_
    unfold makeP
    rw [if_pos (.inr (by grind))]
    rfl
  simp only [E.den, dEq, iEq, sEq] at h2
  have hk : kindOk (nth l 0) = true := by grind
  have hmk : ¬ (l.length = 0 ∨ kindOk (nth l 0) = false) := by grind
  refine den_cond (fun _ => ?_) ?_
  · simp [E.den]; omega
  refine den_for (l.length - 1) (fun k => .int .i64 k :: partL (wrapTo l k)) (fun k => ∀ i, i < k → (!decide ((wrapR l i).code = 0)) = false) rfl (by omega) ?_
  intro k hkn hI _
  simp only [List.cons_append, List.nil_append, partL]
  have ec : ∀ (env : List D), (E.cut (.var 0) (.li .i64 1) (.len (.var 0))).den (encS l :: env) = encS (tailL l) := fun env => cut_den rfl
  refine den_ite (fun h3 => ?_) (fun h3 => ?_)
  · have h3 : k < l.length - 1 := by
      have : (D.bool (cmpI .lss (k : Int) (lenD ((E.cut (.var 0) (.li .i64 1) (.len (.var 0))).den (encS l :: .tup [enc (newPart (nth l 0)), .bool (kindOk (nth l 0))] :: .int .i64 k :: partL (wrapTo l k)))))).toB = true := h3
      rw [ec, encS_len, len_tail] at this
      simp [cmpI] at this; omega
    refine den_cond (fun _ => ?_) ?_
    · show D.bool (decide (0 ≤ (k : Int) ∧ (k : Int) < lenD ((E.cut (.var 0) (.li .i64 1) (.len (.var 0))).den (encS l :: .tup [enc (newPart (nth l 0)), .bool (kindOk (nth l 0))] :: .int .i64 k :: partL (wrapTo l k))))) = .bool true
      rw [ec, encS_len, len_tail]
      simp; omega
    refine den_callR (xs := [enc (wrapTo l k), .str (nth l (k + 1))]) ?_ (c_impl_Wrap (wrapTo l k) (nth l (k + 1)) (by rw [(wrapTo_small l k).1]; simp) (by have := (wrapTo_small l k).2; omega)) (show HasVT _ _ _ from ⟨ty_Part _, ty_Reply _, trivial⟩) ?_
    · show [enc (wrapTo l k), (E.cell (.row [.str] (.cut (.var 0) (.li .i64 1) (.len (.var 0))) (.var 2)) 0).den (encS l :: .tup [enc (newPart (nth l 0)), .bool (kindOk (nth l 0))] :: .int .i64 k :: partL (wrapTo l k))] = _
      simp only [E.den, List.getD_cons_zero, List.getD_cons_succ, D.toI_int]
      have e := ec (.tup [enc (newPart (nth l 0)), .bool (kindOk (nth l 0))] :: .int .i64 k :: partL (wrapTo l k))
      simp only [E.den, List.getD_cons_zero, List.getD_cons_succ, D.toI_int] at e
      rw [e]
      simp only [E.den, dEq, iEq, sEq, row_str, cells_str, nth_tail h3]
    simp only [List.cons_append, List.nil_append]
    refine den_ite (fun h4 => ?_) (fun h4 => ?_)
    · simp only [E.den, dEq, iEq, sEq, cells_Reply] at h4
      have hb : (!decide ((wrapR l k).code = 0)) = true := by unfold wrapR; grind
      refine den_ret ?_
      unfold makeP
      rw [if_neg hmk, firstTo_some hb hI h3]
      rfl
    · simp only [E.den, dEq, iEq, sEq, cells_Reply] at h4
      have hb : (!decide ((wrapR l k).code = 0)) = false := by unfold wrapR; grind
      refine den_next h3 ?_ fun i hi => ?_
      · simp only [E.den, dEq, iEq, sEq, cells_Part]
        rw [ar_add (by omega) (by omega)]; rfl
      · rcases Nat.lt_or_ge i k with h | h
        · exact hI i h
        · obtain rfl : i = k := by omega
          exact hb
  · have h3 : k = l.length - 1 := by
      have : (D.bool (cmpI .lss (k : Int) (lenD ((E.cut (.var 0) (.li .i64 1) (.len (.var 0))).den (encS l :: .tup [enc (newPart (nth l 0)), .bool (kindOk (nth l 0))] :: .int .i64 k :: partL (wrapTo l k)))))).toB = false := h3
      rw [ec, encS_len, len_tail] at this
      simp [cmpI] at this; omega
    subst h3
    ((first | refine den_call ?_ (c_impl_FaceOf (wrapTo l (l.length - 1))) (rfl) ?_ | refine den_callR ?_ (c_impl_FaceOf (wrapTo l (l.length - 1))) (rfl) ?_ | refine den_call ?_ (.ofR (c_impl_FaceOf (wrapTo l (l.length - 1)))) (rfl) ?_); (focus (simp only [VC.den, E.den, dEq, gsH_nil, and_true]; try exact rfl)); (simp only [List.cons_append, List.nil_append]))
    refine den_ret ?_
    unfold makeP
    rw [if_neg hmk, firstTo_none hI]
    rfl

theorem c_spec_MakePart (l : List ByteArray) : FunR Tryz.prog 86 none [encS l] (.tup [enc (makeP l).1, enc (makeP l).2]) [] [(3, 2), (5, 2)] := by
  refine FunR.ofV vc_spec_MakePart_ok ty_spec_MakePart_ok rt_spec_MakePart_ok rfl ?_ (fun hfit => ?_)
  · exact ⟨ty_strS l, trivial⟩
  have hl : l.length ≤ 9223372036854775807 := fits_encS hfit.1
  unfold vc_spec_MakePart
  refine den_ite (fun h => ?_) (fun h => ?_)
  · simp only [E.den, dEq, iEq, sEq] at h
    refine den_ret ?_
    unfold makeP
    rw [if_pos (.inl (by grind))]
    rfl
  simp only [E.den, dEq, iEq, sEq] at h
  have h0 : l.length ≠ 0 := by grind
  refine den_cond (fun _ => ?_) ?_
  · simp [E.den]; omega
  ((first | refine den_call ?_ (c_spec_NewPart (nth l 0)) (⟨ty_Part _, trivial, trivial⟩) ?_ | refine den_callR ?_ (c_spec_NewPart (nth l 0)) (⟨ty_Part _, trivial, trivial⟩) ?_ | refine den_call ?_ (.ofR (c_spec_NewPart (nth l 0))) (⟨ty_Part _, trivial, trivial⟩) ?_); (focus (simp only [VC.den, E.den, dEq, gsH_nil, and_true, row_str, cells_str, Int.toNat_zero]; try exact rfl)); (simp only [List.cons_append, List.nil_append]))
  refine den_ite (fun h2 => ?_) (fun h2 => ?_)
  · simp only [E.den, dEq, iEq, sEq] at h2
    refine den_ret ?_
    unfold makeP
    rw [if_pos (.inr (by grind))]
    rfl
  simp only [E.den, dEq, iEq, sEq] at h2
  have hk : kindOk (nth l 0) = true := by grind
  have hmk : ¬ (l.length = 0 ∨ kindOk (nth l 0) = false) := by grind
  refine den_cond (fun _ => ?_) ?_
  · simp [E.den]; omega
  refine den_for (l.length - 1) (fun k => .int .i64 k :: partL (wrapTo l k)) (fun k => ∀ i, i < k → (!decide ((wrapR l i).code = 0)) = false) rfl (by omega) ?_
  intro k hkn hI _
  simp only [List.cons_append, List.nil_append, partL]
  have ec : ∀ (env : List D), (E.cut (.var 0) (.li .i64 1) (.len (.var 0))).den (encS l :: env) = encS (tailL l) := fun env => cut_den rfl
  refine den_ite (fun h3 => ?_) (fun h3 => ?_)
  · have h3 : k < l.length - 1 := by
      have : (D.bool (cmpI .lss (k : Int) (lenD ((E.cut (.var 0) (.li .i64 1) (.len (.var 0))).den (encS l :: .tup [enc (newPart (nth l 0)), .bool (kindOk (nth l 0))] :: .int .i64 k :: partL (wrapTo l k)))))).toB = true := h3
      rw [ec, encS_len, len_tail] at this
      simp [cmpI] at this; omega
    refine den_cond (fun _ => ?_) ?_
    · show D.bool (decide (0 ≤ (k : Int) ∧ (k : Int) < lenD ((E.cut (.var 0) (.li .i64 1) (.len (.var 0))).den (encS l :: .tup [enc (newPart (nth l 0)), .bool (kindOk (nth l 0))] :: .int .i64 k :: partL (wrapTo l k))))) = .bool true
      rw [ec, encS_len, len_tail]
      simp; omega
    refine den_callR (xs := [enc (wrapTo l k), .str (nth l (k + 1))]) ?_ (c_spec_Wrap (wrapTo l k) (nth l (k + 1)) (by rw [(wrapTo_small l k).1]; simp) (by have := (wrapTo_small l k).2; omega)) (show HasVT _ _ _ from ⟨ty_Part _, ty_Reply _, trivial⟩) ?_
    · show [enc (wrapTo l k), (E.cell (.row [.str] (.cut (.var 0) (.li .i64 1) (.len (.var 0))) (.var 2)) 0).den (encS l :: .tup [enc (newPart (nth l 0)), .bool (kindOk (nth l 0))] :: .int .i64 k :: partL (wrapTo l k))] = _
      simp only [E.den, List.getD_cons_zero, List.getD_cons_succ, D.toI_int]
      have e := ec (.tup [enc (newPart (nth l 0)), .bool (kindOk (nth l 0))] :: .int .i64 k :: partL (wrapTo l k))
      simp only [E.den, List.getD_cons_zero, List.getD_cons_succ, D.toI_int] at e
      rw [e]
      simp only [E.den, dEq, iEq, sEq, row_str, cells_str, nth_tail h3]
    simp only [List.cons_append, List.nil_append]
    refine den_ite (fun h4 => ?_) (fun h4 => ?_)
    · simp only [E.den, dEq, iEq, sEq, cells_Reply] at h4
      have hb : (!decide ((wrapR l k).code = 0)) = true := by unfold wrapR; grind
      refine den_ret ?_
      unfold makeP
      rw [if_neg hmk, firstTo_some hb hI h3]
      rfl
    · simp only [E.den, dEq, iEq, sEq, cells_Reply] at h4
      have hb : (!decide ((wrapR l k).code = 0)) = false := by unfold wrapR; grind
      refine den_next h3 ?_ fun i hi => ?_
      · simp only [E.den, dEq, iEq, sEq, cells_Part]
        rw [ar_add (by omega) (by omega)]; rfl
      · rcases Nat.lt_or_ge i k with h | h
        · exact hI i h
        · obtain rfl : i = k := by omega
          exact hb
  · have h3 : k = l.length - 1 := by
      have : (D.bool (cmpI .lss (k : Int) (lenD ((E.cut (.var 0) (.li .i64 1) (.len (.var 0))).den (encS l :: .tup [enc (newPart (nth l 0)), .bool (kindOk (nth l 0))] :: .int .i64 k :: partL (wrapTo l k)))))).toB = false := h3
      rw [ec, encS_len, len_tail] at this
      simp [cmpI] at this; omega
    subst h3
    ((first | refine den_call ?_ (c_spec_FaceOf (wrapTo l (l.length - 1))) (rfl) ?_ | refine den_callR ?_ (c_spec_FaceOf (wrapTo l (l.length - 1))) (rfl) ?_ | refine den_call ?_ (.ofR (c_spec_FaceOf (wrapTo l (l.length - 1)))) (rfl) ?_); (focus (simp only [VC.den, E.den, dEq, gsH_nil, and_true]; try exact rfl)); (simp only [List.cons_append, List.nil_append]))
    refine den_ret ?_
    unfold makeP
    rw [if_neg hmk, firstTo_none hI]
    rfl

def recF (l : List ByteArray) : Int := if (makeP l).2.code = 0 then (makeP l).2.val else 0
def recOk (l : List ByteArray) : Bool := decide ((makeP l).2.code = 0)
theorem c_impl_RecipeFace (l : List ByteArray) : Fun Tryz.prog 70 none [encS l] (.tup [.int .i64 (recF l), .bool (recOk l)]) [] := by
  refine Fun.ofV vc_impl_RecipeFace_ok ty_impl_RecipeFace_ok rfl ?_ (fun hfit => ?_)
  · exact ⟨ty_strS l, trivial⟩
  unfold vc_impl_RecipeFace
  ((first | refine den_call ?_ (c_impl_MakePart l) (⟨ty_Part _, ty_Reply _, trivial⟩) ?_ | refine den_callR ?_ (c_impl_MakePart l) (⟨ty_Part _, ty_Reply _, trivial⟩) ?_ | refine den_call ?_ (.ofR (c_impl_MakePart l)) (⟨ty_Part _, ty_Reply _, trivial⟩) ?_); (focus (simp only [VC.den, E.den, dEq, gsH_nil, and_true]; try exact rfl)); (simp only [List.cons_append, List.nil_append]))
  refine den_ite (fun h => ?_) (fun h => ?_)
  · simp only [E.den, dEq, iEq, sEq, cells_Reply] at h
    have h : ¬ (makeP l).2.code = 0 := by grind
    exact den_ret (by simp [E.den, recF, recOk, h])
  · simp only [E.den, dEq, iEq, sEq, cells_Reply] at h
    have h : (makeP l).2.code = 0 := by grind
    exact den_ret (by simp [E.den, recF, recOk, h, cells_Reply])

theorem c_spec_RecipeFace (l : List ByteArray) : Fun Tryz.prog 54 none [encS l] (.tup [.int .i64 (recF l), .bool (recOk l)]) [] := by
  refine Fun.ofV vc_spec_RecipeFace_ok ty_spec_RecipeFace_ok rfl ?_ (fun hfit => ?_)
  · exact ⟨ty_strS l, trivial⟩
  unfold vc_spec_RecipeFace
  ((first | refine den_call ?_ (c_spec_MakePart l) (⟨ty_Part _, ty_Reply _, trivial⟩) ?_ | refine den_callR ?_ (c_spec_MakePart l) (⟨ty_Part _, ty_Reply _, trivial⟩) ?_ | refine den_call ?_ (.ofR (c_spec_MakePart l)) (⟨ty_Part _, ty_Reply _, trivial⟩) ?_); (focus (simp only [VC.den, E.den, dEq, gsH_nil, and_true]; try exact rfl)); (simp only [List.cons_append, List.nil_append]))
  refine den_ite (fun h => ?_) (fun h => ?_)
  · simp only [E.den, dEq, iEq, sEq, cells_Reply] at h
    have h : ¬ (makeP l).2.code = 0 := by grind
    exact den_ret (by simp [E.den, recF, recOk, h])
  · simp only [E.den, dEq, iEq, sEq, cells_Reply] at h
    have h : (makeP l).2.code = 0 := by grind
    exact den_ret (by simp [E.den, recF, recOk, h, cells_Reply])

end Go.Proofs.YtgaeigomhhbkfaaGreat
