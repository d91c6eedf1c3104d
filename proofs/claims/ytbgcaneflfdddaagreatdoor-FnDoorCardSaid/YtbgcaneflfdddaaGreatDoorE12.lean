/- Contracts: cells as texts; counting up; what a method wants. -/
import Derived.Test.YtbgcaneflfdddaaGreatDoorE11
set_option linter.unusedVariables false
set_option linter.unusedSimpArgs false
set_option maxRecDepth 100000
set_option linter.unusedSectionVars false
namespace Go.Proofs.YtbgcaneflfdddaaGreatDoor
open Go.RowKit Go
variable [GC]
def tEq : ByteArray := ⟨#[61]⟩
def tDash : ByteArray := ⟨#[45]⟩
def tCo : ByteArray := ⟨#[44]⟩
theorem tEq_eq : (⟨#[61]⟩ : ByteArray) = tEq := rfl
theorem tDash_eq : (⟨#[45]⟩ : ByteArray) = tDash := rfl
theorem tCo_eq : (⟨#[44]⟩ : ByteArray) = tCo := rfl
theorem tEq_size : tEq.size = 1 := rfl
theorem tCo_size : tCo.size = 1 := rfl
def cellT (c : Cell) : ByteArray := c.key ++ tEq ++ bs (dig3 c.val.toNat)
def fmtC (l : List Cell) : ByteArray := if cellsB l = true then (if l.length = 0 then tDash else joinB (l.map cellT) tCo) else noText
theorem cellsB_at {l : List Cell} (h : cellsB l = true) {k : Nat} (hk : k < l.length) : nameB (nth l k).key = true ∧ numB (nth l k).val = true := by
 unfold cellsB at h
 simp only [Bool.and_eq_true] at h
 have := allTo_iff.1 h.2 k hk
 unfold cellB at this
 simp only [Bool.and_eq_true] at this
 exact this.1
theorem cellsB_len {l : List Cell} (h : cellsB l = true) : l.length ≤ 4 := by
 unfold cellsB at h
 simp only [Bool.and_eq_true, decide_eq_true_eq] at h
 exact h.1
theorem numB_nat {n : Int} (h : numB n = true) : ∃ m : Nat, n = m ∧ m < 1000 := by
 unfold numB at h
 simp only [Bool.and_eq_true, decide_eq_true_eq] at h
 exact ⟨n.toNat, by omega, by omega⟩
theorem cellT_size {c : Cell} (h1 : nameB c.key = true) (h2 : numB c.val = true) : (cellT c).size ≤ 12 := by
 obtain ⟨m, e, hm⟩ := numB_nat h2
 have := nameB_le h1
 have hl := dig3_le hm
 unfold cellT
 rw [e, Int.toNat_natCast]
 simp only [ByteArray.size_append, tEq_size, bs_size]
 omega
theorem cells_join {l : List Cell} (h : cellsB l = true) : (joinB (l.map cellT) tCo).size ≤ 52 := by
 have h1 := cellsB_len h
 refine Nat.le_trans (joinB_bound (n := 12) fun k hk => ?_) ?_
 ·have hk : k < l.length := by simpa using hk
  have : nth (l.map cellT) k = cellT (nth l k) := by simp [nth, hk]
  rw [this]
  exact cellT_size (cellsB_at h hk).1 (cellsB_at h hk).2
 ·rw [List.length_map, tCo_size]; omega
theorem fmtC_size (l : List Cell) : (fmtC l).size ≤ 52 := by
 unfold fmtC
 split
 ·rename_i h
  split
  ·decide
  ·exact cells_join h
 ·decide
theorem c_impl_FormatCells [HasPow] (l : List Cell) : Fun Tryz.prog 130 none [encS l] (.str (fmtC l)) [] := by
 refine Fun.ofV vc_impl_FormatCells_ok ty_impl_FormatCells_ok rfl ?_ (fun hfit => ?_)
 ·exact ⟨ty_CellS l, trivial⟩
 unfold vc_impl_FormatCells
 (refine den_call ?_ (c_impl_IsCells l) (trivial) ?_; (focus (simp only [VC.den, E.den, dEq, gsH_nil, and_true]; try exact rfl)); (simp only [cA]))
 refine den_ite (fun h => den_ret ?_) (fun h => ?_)
 ·simp only [E.den, dEq, iEq, sEq] at h ⊢
  rw [fmtC, if_neg (by grind)]; rfl
 simp only [E.den, dEq, iEq, sEq] at h
 have h : cellsB l = true := by grind
 have h4 := cellsB_len h
 have hj := cells_join h
 have hml : (l.map cellT).length ≤ 140737488355328 := by rw [List.length_map]; omega
 refine den_ite (fun h0 => den_ret ?_) (fun h0 => ?_)
 ·simp only [E.den, dEq, iEq, sEq] at h0 ⊢
  rw [fmtC, if_pos h, if_pos (by grind)]; rfl
 simp only [E.den, dEq, iEq, sEq] at h0
 have h0 : l.length ≠ 0 := by grind
 refine den_for l.length (fun k => [encS ((l.take k).map cellT), .int .i64 k]) (fun _ => True) rfl trivial ?_
 intro k hk hI _
 simp only [cA]
 refine den_ite (fun g2 => ?_) (fun g2 => ?_)
 ·simp only [E.den, dEq, iEq, sEq] at g2
  have g2 : k < l.length := by simp at g2; exact g2
  obtain ⟨q1, q2⟩ := cellsB_at h g2
  obtain ⟨m, e, hm⟩ := numB_nat q2
  have q3 := nameB_le q1
  have hl := dig3_le hm
  (refine den_cond (fun hg => ?_) ?_; (focus (simp only [gsH, gE, E.den, dEq, iEq, sEq] at hg ⊢; (try simp only [D.bool.injEq] at hg); (try simp only [D.bool.injEq]); grind)))
  (try (refine den_cond (fun _ => ?_) ?_; (focus (simp only [E.den, dEq, iEq, sEq, row_Cell, cells_Cell, tEq_eq]; refine dec_ok ?_; simp only [ByteArray.size_append, tEq_size]; unfold maxLen; omega))))
  (refine den_call ?_ (c_impl_FormatNumber hm) (trivial) ?_; (focus (simp only [VC.den, E.den, dEq, gsH_nil, and_true, row_Cell, cells_Cell, Int.toNat_natCast, e]; try exact rfl)); (simp only [cA]))
  (try (refine den_cond (fun _ => ?_) ?_; (focus (simp only [E.den, dEq, iEq, sEq, row_Cell, cells_Cell, tEq_eq]; refine dec_ok ?_; simp only [ByteArray.size_append, tEq_size, bs_size]; unfold maxLen; omega))))
  refine den_cond (fun _ => ?_) ?_
  ·simp only [E.den, dEq, iEq, sEq]; simp [maxLen]; omega
  refine den_next g2 ?_ trivial
  simp only [E.den, dEq, iEq, sEq, row_Cell, cells_Cell, tEq_eq]
  rw [ar_add (by omega) (by omega), map_take_succ _ g2]
  simp [encS, cells_str, cellT, e]
 ·simp only [E.den, dEq, iEq, sEq] at g2
  obtain rfl : k = l.length := by simp at g2; omega
  (refine den_call ?_ (c_impl_JoinWith (l.map cellT) tCo hml (by omega)) (trivial) ?_; (focus (simp only [VC.den, E.den, dEq, gsH_nil, and_true, tCo_eq, List.take_length]; try exact rfl)); (simp only [cA]))
  refine den_ret ?_
  simp only [E.den, dEq, iEq, sEq]
  rw [fmtC, if_pos h, if_neg h0]
theorem c_spec_FormatCells (l : List Cell) : Fun Tryz.prog 143 none [encS l] (.str (fmtC l)) [] := by
 refine Fun.ofV vc_spec_FormatCells_ok ty_spec_FormatCells_ok rfl ?_ (fun hfit => ?_)
 ·exact ⟨ty_CellS l, trivial⟩
 unfold vc_spec_FormatCells
 (refine den_call ?_ (c_spec_IsCells l) (trivial) ?_; (focus (simp only [VC.den, E.den, dEq, gsH_nil, and_true]; try exact rfl)); (simp only [cA]))
 refine den_ite (fun h => den_ret ?_) (fun h => ?_)
 ·simp only [E.den, dEq, iEq, sEq] at h ⊢
  rw [fmtC, if_neg (by grind)]; rfl
 simp only [E.den, dEq, iEq, sEq] at h
 have h : cellsB l = true := by grind
 have h4 := cellsB_len h
 have hj := cells_join h
 have hml : (l.map cellT).length ≤ 140737488355328 := by rw [List.length_map]; omega
 refine den_for l.length (fun k => [encS ((l.take k).map cellT), .int .i64 k]) (fun _ => True) rfl trivial ?_
 intro k hk hI _
 simp only [cA]
 refine den_ite (fun g2 => ?_) (fun g2 => ?_)
 ·simp only [E.den, dEq, iEq, sEq] at g2
  have g2 : k < l.length := by simp at g2; exact g2
  obtain ⟨q1, q2⟩ := cellsB_at h g2
  obtain ⟨m, e, hm⟩ := numB_nat q2
  have q3 := nameB_le q1
  have hl := dig3_le hm
  (refine den_cond (fun hg => ?_) ?_; (focus (simp only [gsH, gE, E.den, dEq, iEq, sEq] at hg ⊢; (try simp only [D.bool.injEq] at hg); (try simp only [D.bool.injEq]); grind)))
  (try (refine den_cond (fun _ => ?_) ?_; (focus (simp only [E.den, dEq, iEq, sEq, row_Cell, cells_Cell, tEq_eq]; refine dec_ok ?_; simp only [ByteArray.size_append, tEq_size]; unfold maxLen; omega))))
  (refine den_call ?_ (c_spec_FormatNumber hm) (trivial) ?_; (focus (simp only [VC.den, E.den, dEq, gsH_nil, and_true, row_Cell, cells_Cell, Int.toNat_natCast, e]; try exact rfl)); (simp only [cA]))
  (try (refine den_cond (fun _ => ?_) ?_; (focus (simp only [E.den, dEq, iEq, sEq, row_Cell, cells_Cell, tEq_eq]; refine dec_ok ?_; simp only [ByteArray.size_append, tEq_size, bs_size]; unfold maxLen; omega))))
  refine den_cond (fun _ => ?_) ?_
  ·simp only [E.den, dEq, iEq, sEq]; simp [maxLen]; omega
  refine den_next g2 ?_ trivial
  simp only [E.den, dEq, iEq, sEq, row_Cell, cells_Cell, tEq_eq]
  rw [ar_add (by omega) (by omega), map_take_succ _ g2]
  simp [encS, cells_str, cellT, e]
 ·simp only [E.den, dEq, iEq, sEq] at g2
  obtain rfl : k = l.length := by simp at g2; omega
  refine den_ite (fun g3 => den_ret ?_) (fun g3 => ?_)
  ·simp only [E.den, dEq, iEq, sEq] at g3 ⊢
   have g3 : l.length = 0 := by simpa using g3
   rw [fmtC, if_pos h, if_pos g3]; rfl
  ·simp only [E.den, dEq, iEq, sEq] at g3
   have g3 : l.length ≠ 0 := by simpa using g3
   (refine den_call ?_ (c_spec_JoinWith (l.map cellT) tCo hml (by omega)) (trivial) ?_; (focus (simp only [VC.den, E.den, dEq, gsH_nil, and_true, tCo_eq, List.take_length]; try exact rfl)); (simp only [cA]))
   refine den_ret ?_
   simp only [E.den, dEq, iEq, sEq]
   rw [fmtC, if_pos h, if_neg g3]
def pcA (x : ByteArray) : ByteArray := bs (Lib.cut x.data.toList [61]).1
def pcZ (x : ByteArray) : ByteArray := bs (Lib.cut x.data.toList [61]).2.1
def pcC (x : ByteArray) : Cell := ⟨pcA x, numI (pcZ x)⟩
def pcB (x : ByteArray) : Bool := (Lib.cut x.data.toList [61]).2.2 && numK (pcZ x)
def parL (s : ByteArray) : List Cell := (pieces s tCo).map pcC
def parB (s : ByteArray) : Bool := (pieces s tCo).all pcB && decide ((pieces s tCo).length ≤ 4) && cellsB (parL s)
def parC (s : ByteArray) : List Cell × Bool := if s = tDash then ([], true) else if parB s = true then (parL s, true) else ([], false)
theorem parC_ok {s : ByteArray} (h : (parC s).2 = true) : cellsB (parC s).1 = true := by
 unfold parC at h ⊢
 split
 ·decide
 ·rename_i h1
  rw [if_neg h1] at h
  split
  ·rename_i h2
   unfold parB at h2
   simp only [Bool.and_eq_true] at h2
   exact h2.2
  ·rename_i h2
   rw [if_neg h2] at h; cases h
theorem c_impl_countUp (n : Int) : Fun Tryz.prog 97 none [.int .i64 n] (.int .i64 (min (IntKind.i64.wrap (n + 1)) 999)) [] := by
 refine Fun.of_callsG (by kernel_rfl) fun w M vs hG hr => ?_
 obtain ⟨v, q, rfl, ⟨rfl, h1, h2⟩, rfl⟩ := hr
 show Calls Tryz.prog 97 #[.int .i64 n] w _
 go_enter Tryz.func97, Tryz.ntmps97
 go_wp2
 go_ret
 have hw : -9223372036854775808 ≤ wrap64 (n + 1) ∧ wrap64 (n + 1) ≤ 9223372036854775807 := by unfold wrap64; omega
 refine ⟨.int .i64 (min (wrap64 (n + 1)) 999), rfl, ⟨by rw [← IntWalk.i64_left], ?_, ?_⟩, by go_grown⟩
 ·rw [IntKind.wrap_i64]; simp only [IntKind.min, IntKind.bits, IntKind.signed]; simp; omega
 ·rw [IntKind.wrap_i64]; simp only [IntKind.max, IntKind.bits, IntKind.signed]; simp; omega
theorem c_impl_WantOf (s : ByteArray) : Fun Tryz.prog 23 none [.str s] (.int .i64 (wantZ s)) [] := by
 refine Fun.ofV vc_impl_WantOf_ok ty_impl_WantOf_ok rfl ?_ (fun hfit => ?_)
 ·exact ⟨trivial, trivial⟩
 unfold vc_impl_WantOf
 (refine den_call ?_ (c_impl_AbilityOfMethod s) (rfl) ?_; (focus (simp only [VC.den, E.den, dEq, gsH_nil, and_true]; try exact rfl)); (simp only [cA]))
 refine den_ite (fun h => ?_) (fun h => ?_)
 ·simp only [E.den, dEq, iEq, sEq] at h
  have h : abM s < 0 := by simpa using h
  exact den_ret (by simp [E.den, wantZ, h])
 simp only [E.den, dEq, iEq, sEq] at h
 have h : ¬ abM s < 0 := by simpa using h
 have h6 := abM_lt s
 refine den_cond (fun _ => ?_) (den_ret ?_)
 ·simp [E.den, cmpI]; omega
 ·have e := allow_shl ⟨(abM s).toNat, by omega⟩
  have e2 : (((abM s).toNat : Nat) : Int) = abM s := by omega
  rw [e2] at e
  simp only [E.den, dEq, iEq, sEq, e]
  simp [wantZ, h]
theorem c_impl_ParseCells [HasMax] [HasPow] [HasErr] (s : ByteArray) (hs : s.size < 4294967281) : FunR Tryz.prog 131 none [.str s] (.tup [encS (parC s).1, .bool (parC s).2]) [] [(0, 2)] := by
 refine FunR.ofV vc_impl_ParseCells_ok ty_impl_ParseCells_ok rt_impl_ParseCells_ok rfl ?_ (fun hfit => ?_)
 ·exact ⟨trivial, trivial⟩
 unfold vc_impl_ParseCells
 refine den_ite (fun h => den_ret ?_) (fun h => ?_)
 ·simp only [E.den, dEq, iEq, sEq, tDash_eq] at h
  have h : s = tDash := by simpa using h
  rw [parC, if_pos h]; rfl
 simp only [E.den, dEq, iEq, sEq, tDash_eq] at h
 have h0 : s ≠ tDash := by simpa using h
 (refine den_callR ?_ (cR_Split s tCo hs (by decide)) (ty_strS _) ?_; (focus (simp only [VC.den, E.den, dEq, gsH_nil, and_true, tCo_eq]; try exact rfl)); (simp only [cA]))
 have hz := (pieces_size (s := s) (sep := tCo) (by decide)).1
 have hp : ∀ k, k < (pieces s tCo).length → (nth (pieces s tCo) k).size < 4294967281 := fun k hk => by
  have := piece_size (s := s) (sep := tCo) (by decide) hk
  omega
 refine den_for (pieces s tCo).length (fun k => [encS (((pieces s tCo).take k).map pcC), .int .i64 k]) (fun k => (∀ i, i < k → pcB (nth (pieces s tCo) i) = true) ∧ k ≤ 4) rfl ⟨by omega, by omega⟩ ?_
 intro k hk hI _
 simp only [cA]
 refine den_ite (fun h2 => ?_) (fun h2 => ?_)
 ·simp only [E.den, dEq, iEq, sEq] at h2
  have h2 : k < (pieces s tCo).length := by simp at h2; exact h2
  (refine den_cond (fun hg => ?_) ?_; (focus (simp only [gsH, gE, E.den, dEq, iEq, sEq] at hg ⊢; (try simp only [D.bool.injEq] at hg); (try simp only [D.bool.injEq]); grind)))
  (refine den_call ?_ (c_Cut (nth (pieces s tCo) k) [61] (hp k h2)) (⟨trivial, trivial, trivial, trivial⟩) ?_; (focus (simp only [VC.den, E.den, dEq, gsH_nil, and_true, row_str, cells_str, Int.toNat_natCast]; try exact rfl)); (simp only [cA]))
  (refine den_call ?_ (c_impl_ParseNumber (pcZ (nth (pieces s tCo) k))) (ty_numD _) ?_; (focus (simp only [VC.den, E.den, dEq, gsH_nil, and_true, cutD3, pcZ]; try exact rfl)); (simp only [cA]))
  refine den_ite (fun h3 => den_ret ?_) (fun h3 => ?_)
  ·simp only [E.den, dEq, iEq, sEq, cutD3, numD] at h3
   have hn : parB s = false := by
    cases hb : parB s with
    | false => rfl
    | true =>
     exfalso
     unfold parB at hb
     simp only [Bool.and_eq_true, decide_eq_true_eq] at hb
     have := List.all_eq_true.1 hb.1.1 _ (nth_mem h2)
     unfold pcB at this
     simp only [Bool.and_eq_true] at this
     simp [this.1, this.2] at h3
     omega
   rw [parC, if_neg h0, if_neg (by simp [hn])]; rfl
  ·simp only [E.den, dEq, iEq, sEq, cutD3, numD] at h3
   simp at h3
   refine den_cond (fun _ => ?_) ?_
   ·simp only [E.den, dEq, iEq, sEq]; simp [maxLen]; omega
   refine den_next h2 ?_ ⟨fun i hi => ?_, by omega⟩
   ·simp only [E.den, dEq, iEq, sEq, cutD3, numD]
    rw [ar_add (by omega) (by omega), map_take_succ _ h2]
    simp [encS, cells_Cell, pcC, pcA, pcZ]
   ·rcases Nat.lt_or_ge i k with h | h
    ·exact hI.1 i h
    ·obtain rfl : i = k := by omega
     unfold pcB
     simp [h3]
 ·simp only [E.den, dEq, iEq, sEq] at h2
  obtain rfl : k = (pieces s tCo).length := by simp at h2; omega
  have hE : (pieces s tCo).take (pieces s tCo).length = pieces s tCo := List.take_length
  have hp : parB s = cellsB (parL s) := by
   unfold parB
   have : (pieces s tCo).all pcB = true := List.all_eq_true.2 fun x hx => by
    obtain ⟨i, hi, rfl⟩ := List.getElem_of_mem hx
    have := hI.1 i hi
    simpa [nth, hi] using this
   simp [this, hI.2]
  (refine den_call ?_ (c_impl_IsCells (parL s)) (trivial) ?_; (focus (simp only [VC.den, E.den, dEq, gsH_nil, and_true, hE, parL]; try exact rfl)); (simp only [cA]))
  refine den_ite (fun h6 => den_ret ?_) (fun h6 => den_ret ?_)
  ·simp only [E.den, dEq, iEq, sEq] at h6
   have h6 : cellsB (parL s) = false := by simpa using h6
   rw [parC, if_neg h0, if_neg (by rw [hp, h6]; simp)]; rfl
  ·simp only [E.den, dEq, iEq, sEq] at h6
   have h6 : cellsB (parL s) = true := by simpa using h6
   rw [parC, if_neg h0, if_pos (by rw [hp, h6])]
   simp only [E.den, dEq, iEq, sEq, hE]
   rfl
end Go.Proofs.YtbgcaneflfdddaaGreatDoor
/- What a call does to a part, as data: cores, layers, parts; what calls keep. -/
namespace Go.Proofs.YtbgcaneflfdddaaGreatDoor
open Go.RowKit Go
variable [GC]
def lazyN : ByteArray := ⟨#[108, 97, 122, 121]⟩
def readsN : ByteArray := ⟨#[114, 101, 97, 100, 115]⟩
def healsN : ByteArray := ⟨#[104, 101, 97, 108, 115]⟩
def twiceN : ByteArray := ⟨#[116, 119, 105, 99, 101]⟩
def up3 (n : Int) : Int := min (IntKind.i64.wrap (n + 1)) 999
theorem up3_num {n : Int} (h : numB n = true) : numB (up3 n) = true ∧ (n < 999 → up3 n = n + 1) ∧ 1 ≤ up3 n := by
 unfold numB at h
 simp only [Bool.and_eq_true, decide_eq_true_eq] at h
 have e : up3 n = min (n + 1) 999 := by unfold up3; rw [wrap_i64 (by omega) (by omega)]
 refine ⟨?_, fun _ => by omega, by omega⟩
 unfold numB
 simp only [Bool.and_eq_true, decide_eq_true_eq]
 omega
def atC : List Cell → ByteArray → Nat
 | [], _ => 0
 | c :: r, k => if ltB c.key k = true then atC r k + 1 else 0
theorem atC_le : ∀ (l : List Cell) (k : ByteArray), atC l k ≤ l.length
 | [], _ => Nat.le_refl _
 | c :: r, k => by
  unfold atC
  have := atC_le r k
  split
  ·simp; exact this
  ·exact Nat.zero_le _
theorem nth_cons {α : Type} [Inhabited α] (a : α) (l : List α) (i : Nat) : nth (a :: l) (i + 1) = nth l i := by simp [nth]
theorem nth_zero {α : Type} [Inhabited α] (a : α) (l : List α) : nth (a :: l) 0 = a := by simp [nth]
theorem atC_lt : ∀ {l : List Cell} {k : ByteArray} {i : Nat}, i < atC l k → ltB (nth l i).key k = true
 | [], _, i, h => by simp [atC] at h
 | c :: r, k, i, h => by
  unfold atC at h
  split at h
  ·rename_i hc
   cases i with
   | zero => rw [nth_zero]; exact hc
   | succ i => rw [nth_cons]; exact atC_lt (by omega)
  ·omega
theorem atC_at : ∀ {l : List Cell} {k : ByteArray}, atC l k < l.length → ltB (nth l (atC l k)).key k = false
 | [], _, h => by simp [atC] at h
 | c :: r, k, h => by
  unfold atC at h ⊢
  split at h
  ·rename_i hc
   rw [if_pos hc, nth_cons]; exact atC_at (by simp at h; omega)
  ·rename_i hc
   rw [if_neg hc, nth_zero]; simpa using hc
theorem atC_of : ∀ {l : List Cell} {k : ByteArray} {n : Nat}, n ≤ l.length → (∀ i, i < n → ltB (nth l i).key k = true) → (n < l.length → ltB (nth l n).key k = false) → atC l k = n
 | [], _, n, h, _, _ => by simp at h; subst h; rfl
 | c :: r, k, n, h, h1, h2 => by
  unfold atC
  cases n with
  | zero =>
   have := h2 (by simp)
   rw [nth_zero] at this
   rw [if_neg (by simp [this])]
  | succ n =>
   have h0 := h1 0 (by omega)
   rw [nth_zero] at h0
   rw [if_pos h0, atC_of (n := n) (by simp at h; omega) (fun i hi => by have := h1 (i + 1) (by omega); rwa [nth_cons] at this) (fun hn => by have := h2 (by simp; omega); rwa [nth_cons] at this)]
def isK (l : List Cell) (k : ByteArray) : Bool := decide (atC l k < l.length) && decide ((nth l (atC l k)).key = k)
def putC (l : List Cell) (k : ByteArray) (v : Int) : List Cell := if isK l k = true then l.set (atC l k) ⟨k, v⟩ else l.take (atC l k) ++ [⟨k, v⟩] ++ l.drop (atC l k)
def keepD (p : Core) (x : Call) : Core × Reply :=
 if (kindN p.kind).testBit 0 = true ∧ p.on = false then (p, rep 2 0 0 0)
 else if x.method = mGet then (if isK p.cells x.key = true then (p, rep 0 (nth p.cells (atC p.cells x.key)).val 0 0) else (p, rep 4 0 0 0))
 else if isK p.cells x.key = false ∧ 4 ≤ p.cells.length then (p, rep 5 0 0 0)
 else (⟨p.kind, p.on, p.broken, putC p.cells x.key x.val, up3 p.count⟩, rep 0 (putC p.cells x.key x.val).length 0 0)
def isKeep (x : Call) : Bool := decide (x.method = mGet) || decide (x.method = mPut)
def doesD (p : Core) (x : Call) : Core × Reply :=
 if p.broken = true ∧ x.method ≠ mHeal ∧ x.method ≠ mTell then (p, rep 3 0 0 0)
 else if x.method = mStart then (if p.on = true then (⟨p.kind, false, true, p.cells, p.count⟩, rep 3 0 0 0) else (⟨p.kind, true, p.broken, p.cells, up3 p.count⟩, rep 0 0 0 0))
 else if x.method = mStop then (if p.on = false then (p, rep 2 0 0 0) else (⟨p.kind, false, p.broken, p.cells, p.count⟩, rep 0 0 0 0))
 else if isKeep x = true then keepD p x
 else if x.method = mTell then (p, rep 0 p.count 0 0)
 else if x.method = mHear then (⟨p.kind, if x.val = 0 then false else if x.val = 1 then true else p.on, p.broken, p.cells, up3 p.count⟩, rep 0 (up3 p.count) 0 0)
 else if x.method = mSave then (p, ⟨0, 0, fmtC p.cells, 0, 0⟩)
 else if x.method = mLoad then (if (parC x.text).2 = true then (⟨p.kind, p.on, p.broken, (parC x.text).1, p.count⟩, rep 0 (parC x.text).1.length 0 0) else (p, rep 6 0 0 0))
 else if x.method = mHeal then (⟨p.kind, false, false, p.cells, p.count⟩, rep 0 0 0 0)
 else (p, rep 0 0 0 0)
def bump (p : Part) (k : Nat) : Part := ⟨p.core, p.layers.set k ⟨(nth p.layers k).name, up3 (nth p.layers k).count⟩⟩
def plainCall (m : ByteArray) : Call := ⟨m, noText, 0, noText⟩
def twoR (r : Reply) : Reply := if r.code = 0 then ⟨r.code, min (IntKind.i64.wrap (2 * r.val)) 999, r.text, r.want, r.had⟩ else r
def thrD : Nat → Part → Call → Part × Reply
 | 0, p, x => (⟨(doesD p.core x).1, p.layers⟩, (doesD p.core x).2)
 | k + 1, p, x =>
  if (nth p.layers k).name = counts ∧ x.method = mTell then (p, rep 0 (nth p.layers k).count 0 0)
  else if (nth p.layers k).name = counts ∧ isKeep x = true then (bump (thrD k p x).1 k, (thrD k p x).2)
  else if (nth p.layers k).name = lazyN ∧ isKeep x = true then
   (if (thrD k p x).2.code = 2 then thrD k (thrD k (thrD k p x).1 (plainCall mStart)).1 x else thrD k p x)
  else if (nth p.layers k).name = readsN ∧ x.method = mPut then (p, rep 6 0 0 0)
  else if (nth p.layers k).name = hears ∧ x.method = mHear then
   (if x.val = 0 then thrD k (bump p k) (plainCall mStop) else if x.val = 1 then thrD k (bump p k) (plainCall mStart) else (bump p k, rep 0 (nth (bump p k).layers k).count 0 0))
  else if (nth p.layers k).name = healsN ∧ x.method = mHeal then thrD k (thrD k p (plainCall mStop)).1 (plainCall mStart)
  else if (nth p.layers k).name = twiceN then ((thrD k p x).1, twoR (thrD k p x).2)
  else thrD k p x
def callD (p : Part) (x : Call) : Part × Reply :=
 if partB p = false ∨ callB x = false then (p, rep 7 0 0 0)
 else if offersB (faceOf p) (wantZ x.method) = false then (p, rep 1 0 (wantZ x.method) (faceOf p))
 else thrD p.layers.length p x
def callsD : Part → List Call → Part × List Reply
 | p, [] => (p, [])
 | p, x :: l => if (callD p x).2.code = 1 then ((callD p x).1, [(callD p x).2]) else ((callsD (callD p x).1 l).1, (callD p x).2 :: (callsD (callD p x).1 l).2)
/- Kinds, layers, methods by their numbers. -/
theorem kind_fin {s : ByteArray} (h : kindOk s = true) : ∃ i : Fin 8, s = nth kinds i.val ∧ kindN s = kindFs.getD i.val 0 := by
 have key : ∃ i : Fin 8, s = nth kinds i.val := by
  unfold kindOk kindAt at h
  by_cases e0 : s = nth kinds 0
  ·exact ⟨0, e0⟩
  by_cases e1 : s = nth kinds 1
  ·exact ⟨1, e1⟩
  by_cases e2 : s = nth kinds 2
  ·exact ⟨2, e2⟩
  by_cases e3 : s = nth kinds 3
  ·exact ⟨3, e3⟩
  by_cases e4 : s = nth kinds 4
  ·exact ⟨4, e4⟩
  by_cases e5 : s = nth kinds 5
  ·exact ⟨5, e5⟩
  by_cases e6 : s = nth kinds 6
  ·exact ⟨6, e6⟩
  by_cases e7 : s = nth kinds 7
  ·exact ⟨7, e7⟩
  simp [e0, e1, e2, e3, e4, e5, e6, e7] at h
 obtain ⟨i, rfl⟩ := key
 refine ⟨i, rfl, ?_⟩
 unfold kindN
 rw [kindAt_nth i]
theorem lay_fin {s : ByteArray} (h : layOk s = true) : ∃ i : Fin 9, s = nth layers i.val ∧ needN s = layN.getD i.val 0 ∧ giveN s = layG.getD i.val 0 := by
 have key : ∃ i : Fin 9, s = nth layers i.val := by
  unfold layOk layAt at h
  by_cases e0 : s = nth layers 0
  ·exact ⟨0, e0⟩
  by_cases e1 : s = nth layers 1
  ·exact ⟨1, e1⟩
  by_cases e2 : s = nth layers 2
  ·exact ⟨2, e2⟩
  by_cases e3 : s = nth layers 3
  ·exact ⟨3, e3⟩
  by_cases e4 : s = nth layers 4
  ·exact ⟨4, e4⟩
  by_cases e5 : s = nth layers 5
  ·exact ⟨5, e5⟩
  by_cases e6 : s = nth layers 6
  ·exact ⟨6, e6⟩
  by_cases e7 : s = nth layers 7
  ·exact ⟨7, e7⟩
  by_cases e8 : s = nth layers 8
  ·exact ⟨8, e8⟩
  simp [e0, e1, e2, e3, e4, e5, e6, e7, e8] at h
 obtain ⟨i, rfl⟩ := key
 refine ⟨i, rfl, ?_, ?_⟩
 ·unfold needN; rw [layAt_nth i]
 ·unfold giveN; rw [layAt_nth i]
theorem meth_fin {s : ByteArray} (h : ¬ abM s < 0) : ∃ j : Fin 6, wantZ s = ((2 ^ j.val : Nat) : Int) ∧ s ∈ methods j.val := by
 unfold wantZ
 rw [if_neg h]
 unfold abM at h ⊢
 cases hf : firstTo (abP s) 6 with
 | none => rw [hf] at h; simp at h
 | some k =>
  obtain ⟨h1, h2, _⟩ := firstTo_lt hf
  refine ⟨⟨k, h1⟩, by simp, ?_⟩
  unfold abP hasB at h2
  rw [List.any_eq_true] at h2
  obtain ⟨t, ht, e⟩ := h2
  have e : t = s := by simpa using e
  subst e
  exact ht
theorem kind_off : ∀ (i : Fin 8) (j : Fin 6), offersB ((kindFs.getD i.val 0 : Nat) : Int) ((2 ^ j.val : Nat) : Int) = true → (j.val = 0 ∨ j.val = 3 → (kindFs.getD i.val 0).testBit 0 = true) ∧ (j.val = 1 ∨ j.val = 4 → (kindFs.getD i.val 0).testBit 1 = true) := by decide +kernel
theorem lay_off : ∀ (i : Fin 9) (j : Fin 6) (f : Fin 64), offersB ((f.val : Nat) : Int) ((layN.getD i.val 0 : Nat) : Int) = true → offersB ((layG.getD i.val 0 : Nat) : Int) ((2 ^ j.val : Nat) : Int) = true → (i.val = 3 ∧ j.val = 2) ∨ (i.val = 6 ∧ j.val = 3) ∨ (i.val = 7 ∧ j.val = 5) ∨ offersB ((f.val : Nat) : Int) ((2 ^ j.val : Nat) : Int) = true := by decide +kernel
theorem lay_run : ∀ (i : Fin 9) (f : Fin 64), (i.val = 4 ∨ i.val = 6 ∨ i.val = 7) → offersB ((f.val : Nat) : Int) ((layN.getD i.val 0 : Nat) : Int) = true → offersB ((f.val : Nat) : Int) 1 = true := by decide +kernel
theorem want_start : wantZ mStart = 1 ∧ wantZ mStop = 1 ∧ wantZ mGet = 2 ∧ wantZ mPut = 2 ∧ wantZ mTell = 4 ∧ wantZ mHear = 8 := by decide +kernel
theorem callB_start : callB (plainCall mStart) = true ∧ callB (plainCall mStop) = true ∧ callB (plainCall mTell) = true := by decide +kernel
theorem callB_ab {x : Call} (h : callB x = true) : ¬ abM x.method < 0 := by
 unfold callB at h
 simp only [Bool.and_eq_true, Bool.not_eq_true', decide_eq_false_iff_not] at h
 exact h.1.1.1
theorem callB_put {x : Call} (h : callB x = true) (hm : isKeep x = true) : nameB x.key = true := by
 unfold callB isKeep at *
 grind
theorem callB_num {x : Call} (h : callB x = true) : numB x.val = true := by
 unfold callB numB at *
 grind
theorem layers_eq : nth layers 3 = counts ∧ nth layers 4 = lazyN ∧ nth layers 6 = hears ∧ nth layers 7 = healsN := by decide
end Go.Proofs.YtbgcaneflfdddaaGreatDoor
/- What calls keep: a valid part stays valid, its kind and the names of its layers stay; what lies above the layers that a call meets does not matter. -/
namespace Go.Proofs.YtbgcaneflfdddaaGreatDoor
open Go.RowKit Go
variable [GC]
theorem blA : ∀ {a b : List UInt8}, Op.bytesLess a b = true → Op.bytesLess b a = false
 | [], _ :: _, _ => by simp [Op.bytesLess]
 | [], [], h => by simp [Op.bytesLess] at h
 | _ :: _, [], h => by simp [Op.bytesLess] at h
 | x :: a, y :: b, h => by
  simp only [Op.bytesLess] at h ⊢
  by_cases e : x = y
  ·subst e; simp at h ⊢; exact blA h
  ·have e' : ¬ y = x := fun h => e h.symm
   simp [e, e'] at h ⊢
   exact UInt8.le_of_lt h
theorem blT : ∀ {a b : List UInt8}, a ≠ b → Op.bytesLess a b = false → Op.bytesLess b a = true
 | [], [], h, _ => by simp at h
 | [], _ :: _, _, h => by simp [Op.bytesLess] at h
 | _ :: _, [], _, _ => by simp [Op.bytesLess]
 | x :: a, y :: b, hn, h => by
  simp only [Op.bytesLess] at h ⊢
  by_cases e : x = y
  ·subst e; simp at h hn ⊢; exact blT hn h
  ·have e' : ¬ y = x := fun h => e h.symm
   simp [e, e'] at h ⊢
   exact UInt8.lt_of_le_of_ne h e'
theorem ltA {a b : ByteArray} (h : ltB a b = true) : ltB b a = false := blA h
theorem ltT {a b : ByteArray} (hn : a ≠ b) (h : ltB a b = false) : ltB b a = true :=
 blT (fun e => hn (by have := toList_eqB a b; rw [e] at this; simpa using this.symm)) h
theorem nthC_set {α : Type} [Inhabited α] (l : List α) (k i : Nat) (x : α) (hk : k < l.length) : nth (l.set k x) i = if i = k then x else nth l i := by
 by_cases h : i = k
 ·subst h; simp [nth, hk]
 ·rw [if_neg h]
  have : ¬ k = i := fun e => h e.symm
  simp [nth, List.getD_eq_getElem?_getD, List.getElem?_set, this]
theorem nthC_ins {α : Type} [Inhabited α] (l : List α) (a i : Nat) (x : α) (ha : a ≤ l.length) : nth (l.take a ++ [x] ++ l.drop a) i = if i < a then nth l i else if i = a then x else nth l (i - 1) := by
 have hl : (l.take a).length = a := by simp; omega
 simp only [nth, List.getD_eq_getElem?_getD, List.append_assoc]
 by_cases h1 : i < a
 ·rw [if_pos h1, List.getElem?_append_left (by omega), List.getElem?_take, if_pos h1]
 ·rw [if_neg h1, List.getElem?_append_right (by omega), hl]
  by_cases h2 : i = a
  ·subst h2; simp
  ·rw [if_neg h2]
   obtain ⟨j, rfl⟩ : ∃ j, i = a + 1 + j := ⟨i - a - 1, by omega⟩
   have : a + 1 + j - a = j + 1 := by omega
   rw [this]
   simp [List.getElem?_drop]
theorem isK_iff {l : List Cell} {k : ByteArray} : isK l k = true ↔ atC l k < l.length ∧ (nth l (atC l k)).key = k := by
 unfold isK; simp
theorem putC_len (l : List Cell) (k : ByteArray) (v : Int) : (putC l k v).length = if isK l k = true then l.length else l.length + 1 := by
 unfold putC
 have := atC_le l k
 split
 ·simp
 ·simp; omega
theorem put_cells {l : List Cell} {k : ByteArray} {v : Int} (h : cellsB l = true) (hk : nameB k = true) (hv : numB v = true) (h4 : ¬ (isK l k = false ∧ 4 ≤ l.length)) : cellsB (putC l k v) = true := by
 have hlen := cellsB_len h
 have hle := atC_le l k
 unfold cellsB at h
 simp only [Bool.and_eq_true, allTo_iff] at h
 have hc := fun i hi => h.2 i hi
 unfold cellsB
 simp only [Bool.and_eq_true, decide_eq_true_eq, allTo_iff]
 refine ⟨?_, fun i hi => ?_⟩
 ·rw [putC_len]
  split
  ·exact hlen
  ·rename_i hn; have hn : isK l k = false := by simpa using hn
   have : ¬ 4 ≤ l.length := fun e => h4 ⟨hn, e⟩
   omega
 rw [putC_len] at hi
 unfold cellB
 by_cases hi1 : isK l k = true
 ·rw [if_pos hi1] at hi
  have e : putC l k v = l.set (atC l k) ⟨k, v⟩ := by unfold putC; rw [if_pos hi1]
  obtain ⟨q1, q2⟩ := isK_iff.1 hi1
  have hci := hc i hi
  unfold cellB at hci
  rw [e, nthC_set _ _ _ _ q1, nthC_set _ _ _ _ q1]
  have key : ∀ j, (if j = atC l k then (⟨k, v⟩ : Cell) else nth l j).key = (nth l j).key := fun j => by
   split
   ·rename_i e; rw [e, q2]
   ·rfl
  have val : numB (if i = atC l k then (⟨k, v⟩ : Cell) else nth l i).val = true := by
   split
   ·exact hv
   ·simp only [Bool.and_eq_true] at hci; exact hci.1.2
  rw [key, key, val]
  simp only [Bool.and_eq_true, Bool.or_eq_true] at hci ⊢
  exact ⟨⟨hci.1.1, trivial⟩, hci.2⟩
 ·have hi2 : isK l k = false := by simpa using hi1
  rw [if_neg hi1] at hi
  have e : putC l k v = l.take (atC l k) ++ [⟨k, v⟩] ++ l.drop (atC l k) := by unfold putC; rw [if_neg hi1]
  rw [e, nthC_ins _ _ _ _ hle, nthC_ins _ _ _ _ hle]
  simp only [Bool.and_eq_true, Bool.or_eq_true, beq_iff_eq]
  by_cases c1 : i < atC l k
  ·have := hc i (by omega)
   unfold cellB at this
   simp only [Bool.and_eq_true, Bool.or_eq_true, beq_iff_eq] at this
   rw [if_pos c1, if_pos (by omega)]
   exact this
  rw [if_neg c1]
  by_cases c2 : i = atC l k
  ·rw [if_pos c2]
   refine ⟨⟨hk, hv⟩, ?_⟩
   by_cases c3 : i = 0
   ·exact .inl c3
   ·rw [if_pos (by omega)]
    exact .inr (atC_lt (l := l) (k := k) (i := i - 1) (by omega))
  rw [if_neg c2]
  have := hc (i - 1) (by omega)
  unfold cellB at this
  simp only [Bool.and_eq_true, Bool.or_eq_true, beq_iff_eq] at this
  refine ⟨this.1, .inr ?_⟩
  rw [if_neg (by omega)]
  by_cases c3 : i - 1 = atC l k
  ·rw [if_pos c3, c3]
   have hat : atC l k < l.length := by omega
   refine ltT (fun e => ?_) (atC_at hat)
   have : isK l k = true := isK_iff.2 ⟨hat, e⟩
   rw [hi2] at this; cases this
  ·rw [if_neg c3]
   rcases this.2 with h | h
   ·omega
   ·exact h
theorem coreB_iff {p : Core} : coreB p = true ↔ kindOk p.kind = true ∧ cellsB p.cells = true ∧ (p.cells.length = 0 ∨ (kindN p.kind).testBit 1 = true) ∧ numB p.count = true ∧ ¬ (p.on = true ∧ p.broken = true) ∧ ((kindN p.kind).testBit 0 = true ∨ (p.on = false ∧ p.broken = false)) := by
 unfold coreB; grind
theorem need_bits {k m : ByteArray} (hk : kindOk k = true) (ho : offersB (kindN k) (wantZ m) = true) :
  ((m = mStart ∨ m = mStop ∨ m = mHear) → (kindN k).testBit 0 = true) ∧ ((m = mGet ∨ m = mPut ∨ m = mLoad) → (kindN k).testBit 1 = true) := by
 obtain ⟨i, _, e⟩ := kind_fin hk
 rw [e] at ho ⊢
 have w0 : wantZ mStart = ((2 ^ (0 : Fin 6).val : Nat) : Int) := by decide +kernel
 have w1 : wantZ mStop = ((2 ^ (0 : Fin 6).val : Nat) : Int) := by decide +kernel
 have w2 : wantZ mHear = ((2 ^ (3 : Fin 6).val : Nat) : Int) := by decide +kernel
 have w3 : wantZ mGet = ((2 ^ (1 : Fin 6).val : Nat) : Int) := by decide +kernel
 have w4 : wantZ mPut = ((2 ^ (1 : Fin 6).val : Nat) : Int) := by decide +kernel
 have w5 : wantZ mLoad = ((2 ^ (4 : Fin 6).val : Nat) : Int) := by decide +kernel
 constructor
 ·rintro (rfl | rfl | rfl)
  ·rw [w0] at ho; exact (kind_off i 0 ho).1 (.inl rfl)
  ·rw [w1] at ho; exact (kind_off i 0 ho).1 (.inl rfl)
  ·rw [w2] at ho; exact (kind_off i 3 ho).1 (.inr rfl)
 ·rintro (rfl | rfl | rfl)
  ·rw [w3] at ho; exact (kind_off i 1 ho).2 (.inl rfl)
  ·rw [w4] at ho; exact (kind_off i 1 ho).2 (.inl rfl)
  ·rw [w5] at ho; exact (kind_off i 4 ho).2 (.inr rfl)
theorem isKeep_iff {x : Call} : isKeep x = true ↔ x.method = mGet ∨ x.method = mPut := by unfold isKeep; simp
def OkC (p : Core) (y : Core × Reply) : Prop := coreB y.1 = true ∧ y.1.kind = p.kind ∧ y.2.code ≠ 1 ∧ y.2.code ≠ 7 ∧ 0 ≤ y.2.val ∧ y.2.val ≤ 999
theorem numB_iff {n : Int} : numB n = true ↔ 0 ≤ n ∧ n ≤ 999 := by unfold numB; simp
theorem does_ok {p : Core} {x : Call} (hp : coreB p = true) (hx : callB x = true) (ho : offersB (kindN p.kind) (wantZ x.method) = true) : OkC p (doesD p x) := by
 have hp' := coreB_iff.1 hp
 obtain ⟨p1, p2, p3, p4, p5, p6⟩ := hp'
 have nb := need_bits p1 ho
 have n4 := numB_iff.1 p4
 have n4' := numB_iff.1 (up3_num p4).1
 have hl := cellsB_len p2
 have same : ∀ c v t w h, c ≠ 1 → c ≠ 7 → 0 ≤ v → v ≤ 999 → OkC p (p, ⟨c, v, t, w, h⟩) := fun c v t w h h1 h2 h3 h4 => ⟨hp, rfl, h1, h2, h3, h4⟩
 unfold doesD
 split
 ·exact same _ _ _ _ _ (by decide) (by decide) (by decide) (by decide)
 split
 ·rename_i hm
  have := nb.1 (.inl hm)
  split
  ·exact ⟨coreB_iff.2 ⟨p1, p2, p3, p4, by simp, .inl this⟩, rfl, by simp [rep], by simp [rep], by simp [rep], by simp [rep]⟩
  ·rename_i hb hon
   have hbr : p.broken = false := by
    have : mStart ≠ mHeal ∧ mStart ≠ mTell := by decide
    rw [hm] at hb
    cases h : p.broken with
    | false => rfl
    | true => exact absurd ⟨h, this⟩ hb
   exact ⟨coreB_iff.2 ⟨p1, p2, p3, (up3_num p4).1, by simp [hbr], .inl this⟩, rfl, by simp [rep], by simp [rep], by simp [rep], by simp [rep]⟩
 split
 ·rename_i hm
  have := nb.1 (.inr (.inl hm))
  split
  ·exact same _ _ _ _ _ (by decide) (by decide) (by decide) (by decide)
  ·exact ⟨coreB_iff.2 ⟨p1, p2, p3, p4, by simp, .inl this⟩, rfl, by simp [rep], by simp [rep], by simp [rep], by simp [rep]⟩
 split
 ·rename_i hm
  have hb1 := nb.2 (by rcases isKeep_iff.1 hm with h | h <;> simp [h])
  unfold keepD
  split
  ·exact same _ _ _ _ _ (by decide) (by decide) (by decide) (by decide)
  split
  ·split
   ·rename_i hc
    have := numB_iff.1 (cellsB_at p2 (isK_iff.1 hc).1).2
    exact same _ _ _ _ _ (by decide) (by decide) this.1 this.2
   ·exact same _ _ _ _ _ (by decide) (by decide) (by decide) (by decide)
  split
  ·exact same _ _ _ _ _ (by decide) (by decide) (by decide) (by decide)
  ·rename_i hf
   have hpc := put_cells (v := x.val) p2 (callB_put hx hm) (callB_num hx) hf
   have := cellsB_len hpc
   exact ⟨coreB_iff.2 ⟨p1, hpc, .inr hb1, (up3_num p4).1, p5, p6⟩, rfl, by simp [rep], by simp [rep], by simp only [rep]; omega, by simp only [rep]; omega⟩
 split
 ·exact same _ _ _ _ _ (by decide) (by decide) n4.1 n4.2
 split
 ·rename_i hb _ _ _ _ hm
  have h0 := nb.1 (.inr (.inr hm))
  have hbr : p.broken = false := by
   have : mHear ≠ mHeal ∧ mHear ≠ mTell := by decide
   rw [hm] at hb
   cases h : p.broken with
   | false => rfl
   | true => exact absurd ⟨h, this⟩ hb
  exact ⟨coreB_iff.2 ⟨p1, p2, p3, (up3_num p4).1, by simp [hbr], .inl h0⟩, rfl, by simp [rep], by simp [rep], n4'.1, n4'.2⟩
 split
 ·exact same _ _ _ _ _ (by decide) (by decide) (by decide) (by decide)
 split
 ·rename_i hm
  split
  ·rename_i hk
   have := parC_ok hk
   have h5 := cellsB_len this
   exact ⟨coreB_iff.2 ⟨p1, this, .inr (nb.2 (.inr (.inr hm))), p4, p5, p6⟩, rfl, by simp [rep], by simp [rep], by simp only [rep]; omega, by simp only [rep]; omega⟩
  ·exact same _ _ _ _ _ (by decide) (by decide) (by decide) (by decide)
 split
 ·exact ⟨coreB_iff.2 ⟨p1, p2, p3, p4, by simp, .inr ⟨rfl, rfl⟩⟩, rfl, by simp [rep], by simp [rep], by simp [rep], by simp [rep]⟩
 ·exact same _ _ _ _ _ (by decide) (by decide) (by decide) (by decide)
/- Parts. -/
structure ShP (p q : Part) : Prop where
 kind : q.core.kind = p.core.kind
 names : q.layers.map (·.name) = p.layers.map (·.name)
theorem ShP.refl (p : Part) : ShP p p := ⟨rfl, rfl⟩
theorem ShP.trans {p q r : Part} (h : ShP p q) (k : ShP q r) : ShP p r := ⟨k.kind.trans h.kind, k.names.trans h.names⟩
theorem ShP.len {p q : Part} (h : ShP p q) : q.layers.length = p.layers.length := by simpa using congrArg List.length h.names
theorem ShP.name {p q : Part} (h : ShP p q) {i : Nat} (hi : i < p.layers.length) : (nth q.layers i).name = (nth p.layers i).name := by
 have h1 := congrArg (·[i]?) h.names
 have h2 := h.len
 simp only [List.getElem?_map] at h1
 rw [List.getElem?_eq_getElem hi, List.getElem?_eq_getElem (by omega)] at h1
 simp only [Option.map_some, Option.some.injEq] at h1
 simp [nth, List.getD_eq_getElem?_getD, hi, h2, h1]
theorem ShP.face {p q : Part} (h : ShP p q) {i : Nat} (hi : i ≤ p.layers.length) : faceAt q i = faceAt p i := by
 unfold faceAt
 split
 ·rw [h.kind]
 ·rw [h.name (by omega)]
theorem partB_iff {p : Part} : partB p = true ↔ coreB p.core = true ∧ p.layers.length ≤ 3 ∧ ∀ i, i < p.layers.length → layOk (nth p.layers i).name = true ∧ offersB (faceAt p i) (needN (nth p.layers i).name) = true ∧ numB (nth p.layers i).count = true ∧ ((nth p.layers i).count = 0 ∨ (nth p.layers i).name = counts ∨ (nth p.layers i).name = hears) := by
 unfold partB
 simp only [Bool.and_eq_true, decide_eq_true_eq, allTo_iff, layerB, Bool.or_eq_true]
 constructor
 ·rintro ⟨⟨h1, h2⟩, h3⟩
  exact ⟨h1, h2, fun i hi => by have := h3 i hi; exact ⟨this.1.1.1, this.1.1.2, this.1.2, by rcases this.2 with (h | h) | h <;> simp [h]⟩⟩
 ·rintro ⟨h1, h2, h3⟩
  exact ⟨⟨h1, h2⟩, fun i hi => by obtain ⟨a, b, c, d⟩ := h3 i hi; exact ⟨⟨⟨a, b⟩, c⟩, by rcases d with h | h | h <;> simp [h]⟩⟩
theorem partB_sh {p q : Part} (hp : partB p = true) (hs : ShP p q) (hc : coreB q.core = true) (hn : ∀ i, i < p.layers.length → numB (nth q.layers i).count = true ∧ ((nth q.layers i).count = 0 ∨ (nth p.layers i).name = counts ∨ (nth p.layers i).name = hears)) : partB q = true := by
 obtain ⟨_, h2, h3⟩ := partB_iff.1 hp
 refine partB_iff.2 ⟨hc, by rw [hs.len]; exact h2, fun i hi => ?_⟩
 rw [hs.len] at hi
 obtain ⟨a, b, _, _⟩ := h3 i hi
 obtain ⟨c, d⟩ := hn i hi
 rw [hs.name hi, hs.face (by omega)]
 exact ⟨a, b, c, d⟩
theorem bump_sh {p : Part} {k : Nat} (hk : k < p.layers.length) : ShP p (bump p k) := by
 refine ⟨rfl, ?_⟩
 unfold bump
 apply List.ext_getElem?
 intro i
 simp only [List.getElem?_map, List.getElem?_set]
 split
 ·rename_i e
  subst e
  (try rw [if_pos hk])
  rw [List.getElem?_eq_getElem hk]
  simp [nth, List.getD_eq_getElem?_getD, hk]
 ·rfl
theorem bump_nth {p : Part} {k : Nat} (hk : k < p.layers.length) (i : Nat) : nth (bump p k).layers i = if i = k then ⟨(nth p.layers k).name, up3 (nth p.layers k).count⟩ else nth p.layers i := nthC_set _ _ _ _ hk
theorem bump_ok {p : Part} {k : Nat} (hp : partB p = true) (hk : k < p.layers.length) (hn : (nth p.layers k).name = counts ∨ (nth p.layers k).name = hears) : partB (bump p k) = true := by
 obtain ⟨h1, h2, h3⟩ := partB_iff.1 hp
 refine partB_sh hp (bump_sh hk) h1 fun i hi => ?_
 rw [bump_nth hk]
 obtain ⟨_, _, c, d⟩ := h3 i hi
 split
 ·rename_i e
  subst e
  exact ⟨(up3_num c).1, .inr hn⟩
 ·exact ⟨c, d⟩
theorem sub_call {nm m : ByteArray} {f : Nat} (hf : f < 64) (hl : layOk nm = true) (h1 : offersB f (needN nm) = true) (ha : ¬ abM m < 0) (h2 : offersB (giveN nm) (wantZ m) = true) :
  (nm = counts ∧ m = mTell) ∨ (nm = hears ∧ m = mHear) ∨ (nm = healsN ∧ m = mHeal) ∨ offersB f (wantZ m) = true := by
 obtain ⟨i, e, en, eg⟩ := lay_fin hl
 obtain ⟨j, ew, hm⟩ := meth_fin ha
 rw [en] at h1
 rw [eg, ew] at h2
 rw [ew]
 obtain ⟨e3, e4, e6, e7⟩ := layers_eq
 rcases lay_off i j ⟨f, hf⟩ h1 h2 with ⟨a, b⟩ | ⟨a, b⟩ | ⟨a, b⟩ | h
 ·rw [a] at e; rw [b] at hm; simp [methods] at hm
  exact .inl ⟨by rw [e, e3], hm⟩
 ·rw [a] at e; rw [b] at hm; simp [methods] at hm
  exact .inr (.inl ⟨by rw [e, e6], hm⟩)
 ·rw [a] at e; rw [b] at hm; simp [methods] at hm
  exact .inr (.inr (.inl ⟨by rw [e, e7], hm⟩))
 ·exact .inr (.inr (.inr h))
theorem goes_call {nm : ByteArray} {f : Nat} (hf : f < 64) (h1 : offersB f (needN nm) = true) (hn : nm = lazyN ∨ nm = hears ∨ nm = healsN) : offersB f (wantZ mStart) = true ∧ offersB f (wantZ mStop) = true := by
 obtain ⟨e3, e4, e6, e7⟩ := layers_eq
 have e : ∃ i : Fin 9, nm = nth layers i.val ∧ (i.val = 4 ∨ i.val = 6 ∨ i.val = 7) := by
  rcases hn with h | h | h
  ·exact ⟨4, by rw [h]; exact e4.symm, .inl rfl⟩
  ·exact ⟨6, by rw [h]; exact e6.symm, .inr (.inl rfl)⟩
  ·exact ⟨7, by rw [h]; exact e7.symm, .inr (.inr rfl)⟩
 obtain ⟨i, rfl, hi⟩ := e
 have en : needN (nth layers i.val) = layN.getD i.val 0 := by unfold needN; rw [layAt_nth i]
 rw [en] at h1
 rw [want_start.1, want_start.2.1]
 have := lay_run i ⟨f, hf⟩ hi h1
 exact ⟨this, this⟩
def OkR (p : Part) (y : Part × Reply) : Prop := partB y.1 = true ∧ ShP p y.1 ∧ y.2.code ≠ 1 ∧ y.2.code ≠ 7 ∧ 0 ≤ y.2.val ∧ y.2.val ≤ 999
theorem names_ne : counts ≠ lazyN ∧ counts ≠ readsN ∧ counts ≠ hears ∧ counts ≠ healsN ∧ counts ≠ twiceN ∧ lazyN ≠ readsN ∧ lazyN ≠ hears ∧ lazyN ≠ healsN ∧ lazyN ≠ twiceN ∧ readsN ≠ hears ∧ readsN ≠ healsN ∧ readsN ≠ twiceN ∧ hears ≠ healsN ∧ hears ≠ twiceN ∧ healsN ≠ twiceN := by decide
theorem keep_ne {x : Call} (h : isKeep x = true) : x.method ≠ mTell ∧ x.method ≠ mHear ∧ x.method ≠ mHeal ∧ x.method ≠ mStart ∧ x.method ≠ mStop := by
 rcases isKeep_iff.1 h with e | e <;> rw [e] <;> decide
theorem thr_ok : ∀ (k : Nat) (p : Part) (x : Call), partB p = true → k ≤ p.layers.length → callB x = true → offersB (faceAt p k) (wantZ x.method) = true → OkR p (thrD k p x)
 | 0, p, x, hp, _, hx, ho => by
  obtain ⟨h1, h2, h3⟩ := partB_iff.1 hp
  obtain ⟨a, b, c, d, e, f⟩ := does_ok h1 hx ho
  have hs : ShP p (thrD 0 p x).1 := ⟨b, rfl⟩
  exact ⟨partB_sh hp hs a fun i hi => ⟨(h3 i hi).2.2.1, (h3 i hi).2.2.2⟩, hs, c, d, e, f⟩
 | k + 1, p, x, hp, hk, hx, ho => by
  obtain ⟨h1, h2, h3⟩ := partB_iff.1 hp
  obtain ⟨a, b, c, d⟩ := h3 k (by omega)
  have ho : offersB (giveN (nth p.layers k).name) (wantZ x.method) = true := by
   unfold faceAt at ho; rw [if_neg (by omega)] at ho; exact ho
  have hsub := sub_call (faceAt_lt p k) a b (callB_ab hx) ho
  have nc := numB_iff.1 c
  have ne := names_ne
  have cs := callB_start
  have below : offersB (faceAt p k) (wantZ x.method) = true → OkR p (thrD k p x) := fun h => thr_ok k p x hp (by omega) hx h
  have start : ∀ q, partB q = true → ShP p q → offersB (faceAt p k) (wantZ mStart) = true → OkR p (thrD k q (plainCall mStart)) := fun q hq hs h => by
   have := thr_ok k q (plainCall mStart) hq (by rw [hs.len]; omega) cs.1 (by rw [hs.face (by omega)]; exact h)
   exact ⟨this.1, hs.trans this.2.1, this.2.2⟩
  have stop : ∀ q, partB q = true → ShP p q → offersB (faceAt p k) (wantZ mStop) = true → OkR p (thrD k q (plainCall mStop)) := fun q hq hs h => by
   have := thr_ok k q (plainCall mStop) hq (by rw [hs.len]; omega) cs.2.1 (by rw [hs.face (by omega)]; exact h)
   exact ⟨this.1, hs.trans this.2.1, this.2.2⟩
  rw [thrD]
  split
  ·exact ⟨hp, ShP.refl _, by simp [rep], by simp [rep], nc.1, nc.2⟩
  rename_i g1
  split
  ·rename_i g2
   have kn := keep_ne g2.2
   have hb := below (by rcases hsub with h | h | h | h; exact absurd h.2 kn.1; exact absurd h.2 kn.2.1; exact absurd h.2 kn.2.2.1; exact h)
   have hl := hb.2.1.len
   have hnm := hb.2.1.name (i := k) (by omega)
   exact ⟨bump_ok hb.1 (by omega) (.inl (by rw [hnm]; exact g2.1)), hb.2.1.trans (bump_sh (by omega)), hb.2.2⟩
  rename_i g2
  split
  ·rename_i g3
   have kn := keep_ne g3.2
   have hof : offersB (faceAt p k) (wantZ x.method) = true := by rcases hsub with h | h | h | h; exact absurd h.2 kn.1; exact absurd h.2 kn.2.1; exact absurd h.2 kn.2.2.1; exact h
   have hb := below hof
   have hr := goes_call (faceAt_lt p k) b (.inl g3.1)
   split
   ·have hs := start _ hb.1 hb.2.1 hr.1
    have := thr_ok k _ x hs.1 (by rw [hs.2.1.len]; omega) hx (by rw [hs.2.1.face (by omega)]; exact hof)
    exact ⟨this.1, hs.2.1.trans this.2.1, this.2.2⟩
   ·exact hb
  rename_i g3
  split
  ·exact ⟨hp, ShP.refl _, by simp [rep], by simp [rep], by simp [rep], by simp [rep]⟩
  rename_i g4
  split
  ·rename_i g5
   have hr := goes_call (faceAt_lt p k) b (.inr (.inl g5.1))
   have hbu := bump_ok hp (k := k) (by omega) (.inr g5.1)
   have hsh : ShP p (bump p k) := bump_sh (by omega)
   split
   ·exact stop _ hbu hsh hr.2
   split
   ·exact start _ hbu hsh hr.1
   ·refine ⟨hbu, hsh, by simp [rep], by simp [rep], ?_⟩
    have := numB_iff.1 ((partB_iff.1 hbu).2.2 k (by rw [hsh.len]; omega)).2.2.1
    exact this
  rename_i g5
  split
  ·rename_i g6
   have hr := goes_call (faceAt_lt p k) b (.inr (.inr g6.1))
   have hs := stop p hp (ShP.refl _) hr.2
   exact start _ hs.1 hs.2.1 hr.1
  rename_i g6
  have hb := below (by
   rcases hsub with h | h | h | h
   ·exact absurd h g1
   ·exact absurd h g5
   ·exact absurd h g6
   ·exact h)
  split
  ·refine ⟨hb.1, hb.2.1, ?_⟩
   unfold twoR
   split
   ·rename_i h0
    obtain ⟨q1, q2⟩ := hb.2.2.2.2
    simp only
    rw [wrap_i64 (by omega) (by omega)]
    exact ⟨by simp [h0], by simp [h0], by omega, by omega⟩
   ·exact hb.2.2
  ·exact hb
/- What lies above does not matter. -/
def extP (p : Part) (r : List Layer) : Part := ⟨p.core, p.layers ++ r⟩
theorem bump_len (p : Part) (k : Nat) : (bump p k).layers.length = p.layers.length := by simp [bump]
theorem thr_len : ∀ (k : Nat) (p : Part) (x : Call), (thrD k p x).1.layers.length = p.layers.length
 | 0, p, x => rfl
 | k + 1, p, x => by
  have ih := thr_len k
  rw [thrD]
  split
  ·rfl
  split
  ·simp only [bump_len, ih]
  split
  ·split
   ·simp only [ih]
   ·simp only [ih]
  split
  ·rfl
  split
  ·split
   ·simp only [bump_len, ih]
   split
   ·simp only [bump_len, ih]
   ·simp only [bump_len]
  split
  ·simp only [ih]
  split
  ·simp only [ih]
  ·simp only [ih]
theorem nthA_l {α : Type} [Inhabited α] {l1 l2 : List α} {a : Nat} (h : a < l1.length) : nth (l1 ++ l2) a = nth l1 a := by
 simp [nth, List.getD_eq_getElem?_getD, List.getElem?_append_left h]
end Go.Proofs.YtbgcaneflfdddaaGreatDoor
/- Plain laws of cells in ascending order: where the reference puts a cell it stands as the program puts it; a place found from the front. -/
namespace Go.Proofs.YtbgcaneflfdddaaGreatDoor
open Go.RowKit Go
variable [GC]
theorem blTr : ∀ {a b c : List UInt8}, Op.bytesLess a b = true → Op.bytesLess b c = true → Op.bytesLess a c = true
 | _, [], _, h, _ => by simp [Op.bytesLess] at h
 | _, _ :: _, [], _, h => by simp [Op.bytesLess] at h
 | [], _ :: _, _ :: _, _, _ => by simp [Op.bytesLess]
 | x :: a, y :: b, z :: c, h1, h2 => by
  have ih := @blTr a b c
  simp only [Op.bytesLess, Bool.or_eq_true, Bool.and_eq_true, decide_eq_true_eq, beq_iff_eq] at h1 h2 ⊢
  grind
theorem firstTo_no {p : Nat → Bool} : ∀ {n : Nat}, firstTo p n = none → ∀ i, i < n → p i = false
 | 0, _, i, hi => by omega
 | n + 1, h, i, hi => by
  simp only [firstTo] at h
  split at h
  ·cases h
  ·rename_i h1
   split at h
   ·cases h
   ·rename_i h2
    rcases Nat.lt_or_ge i n with h3 | h3
    ·exact firstTo_no h1 i h3
    ·obtain rfl : i = n := by omega
     simpa using h2
theorem ltTr {a b c : ByteArray} (h1 : ltB a b = true) (h2 : ltB b c = true) : ltB a c = true := blTr h1 h2
theorem ltIrr (a : ByteArray) : ltB a a = false := by
 cases h : ltB a a with
 | false => rfl
 | true => have := ltA h; rw [h] at this; cases this
def ascC (l : List Cell) : Prop := ∀ i, i + 1 < l.length → ltB (nth l i).key (nth l (i + 1)).key = true
theorem cellsB_asc {l : List Cell} (h : cellsB l = true) : ascC l := fun i hi => by
 unfold cellsB at h
 simp only [Bool.and_eq_true] at h
 have := allTo_iff.1 h.2 (i + 1) hi
 unfold cellB at this
 simp only [Bool.and_eq_true, Bool.or_eq_true, beq_iff_eq] at this
 rcases this.2 with h | h
 ·omega
 ·exact h
theorem atC_gt {l : List Cell} (h : ascC l) {k : ByteArray} : ∀ i, atC l k < i → i < l.length → ltB k (nth l i).key = true := by
 intro i
 induction i with
 | zero => intro h; omega
 | succ i ih =>
  intro h1 h2
  have hs := h i h2
  rcases Nat.lt_or_ge (atC l k) i with h3 | h3
  ·exact ltTr (ih h3 (by omega)) hs
  ·have e : i = atC l k := by omega
   have h4 := atC_at (l := l) (k := k) (by omega)
   rw [← e] at h4
   by_cases e2 : (nth l i).key = k
   ·rw [← e2]; exact hs
   ·exact ltTr (ltT e2 h4) hs
def goP (l : List Cell) (k : ByteArray) (v : Int) (i : Nat) : List Cell :=
 if atC l k < i then (l.take (atC l k) ++ [⟨k, v⟩]) ++ (l.take i).drop (atC l k + if isK l k = true then 1 else 0) else l.take i
theorem goP_zero (l : List Cell) (k : ByteArray) (v : Int) : goP l k v 0 = [] := by unfold goP; simp
theorem take_snoc {α : Type} [Inhabited α] {l : List α} {i : Nat} (h : i < l.length) : l.take (i + 1) = l.take i ++ [nth l i] := by
 rw [List.take_add_one]; simp [nth, h]
theorem goP_low {l : List Cell} {k : ByteArray} {v : Int} {i : Nat} (h : i < atC l k) (hl : i < l.length) : goP l k v (i + 1) = goP l k v i ++ [nth l i] := by
 unfold goP
 rw [if_neg (show ¬ atC l k < i + 1 by omega), if_neg (show ¬ atC l k < i by omega), take_snoc hl]
theorem goP_at {l : List Cell} {k : ByteArray} {v : Int} {i : Nat} (h : i = atC l k) (hl : i < l.length) : goP l k v (i + 1) = if (nth l i).key = k then goP l k v i ++ [⟨k, v⟩] else (goP l k v i ++ [⟨k, v⟩]) ++ [nth l i] := by
 unfold goP
 rw [if_pos (show atC l k < i + 1 by omega), if_neg (show ¬ atC l k < i by omega), take_snoc hl]
 by_cases e : (nth l i).key = k
 ·have hk : isK l k = true := isK_iff.2 ⟨by omega, by rw [← h]; exact e⟩
  rw [if_pos e, if_pos hk, List.drop_eq_nil_of_le (by rw [List.length_append, List.length_take, List.length_singleton]; omega)]
  rw [List.append_nil, h]
 ·have hk : isK l k = false := by
   cases hq : isK l k with
   | false => rfl
   | true => have := (isK_iff.1 hq).2; rw [← h] at this; exact absurd this e
  simp only [if_neg e, hk, Bool.false_eq_true, if_false, Nat.add_zero]
  rw [List.drop_append_of_le_length (by rw [List.length_take]; omega), List.drop_eq_nil_of_le (by rw [List.length_take]; omega), List.nil_append, h]
theorem goP_high {l : List Cell} {k : ByteArray} {v : Int} {i : Nat} (h : atC l k < i) (hl : i < l.length) : goP l k v (i + 1) = goP l k v i ++ [nth l i] := by
 unfold goP
 rw [if_pos (show atC l k < i + 1 by omega), if_pos h, take_snoc hl, List.drop_append_of_le_length (by rw [List.length_take]; split <;> omega)]
 simp only [List.append_assoc]
theorem goP_end {l : List Cell} {k : ByteArray} {v : Int} : putC l k v = if atC l k < l.length then goP l k v l.length else goP l k v l.length ++ [⟨k, v⟩] := by
 unfold goP putC
 have hle := atC_le l k
 by_cases h : atC l k < l.length
 ·simp only [if_pos h, List.take_length]
  by_cases hk : isK l k = true
  ·rw [if_pos hk, if_pos hk, List.set_eq_take_append_cons_drop, if_pos h]
   simp
  ·rw [if_neg hk, if_neg hk, Nat.add_zero]
 ·have e : atC l k = l.length := by omega
  have hk : isK l k = false := by
   cases hq : isK l k with
   | false => rfl
   | true => have := (isK_iff.1 hq).1; omega
  simp only [if_neg h, hk, Bool.false_eq_true, if_false, e]
  simp
def plC (l : List Cell) (k : ByteArray) : Int := match firstTo (fun i => decide ((nth l i).key = k)) l.length with
 | some i => (i : Int)
 | none => -1
theorem plC_asc {l : List Cell} (h : ascC l) (k : ByteArray) : plC l k = if isK l k = true then ((atC l k : Nat) : Int) else -1 := by
 unfold plC
 cases hf : firstTo (fun i => decide ((nth l i).key = k)) l.length with
 | none =>
  have hn := firstTo_no hf
  rw [if_neg]
  intro hk
  obtain ⟨h1, h2⟩ := isK_iff.1 hk
  have := hn _ h1
  simp at this
  exact this h2
 | some i =>
  obtain ⟨h1, h2, h3⟩ := firstTo_lt hf
  have h2 : (nth l i).key = k := by simpa using h2
  have e : atC l k = i := by
   rcases Nat.lt_trichotomy i (atC l k) with h4 | h4 | h4
   ·have := atC_lt h4; rw [h2, ltIrr] at this; cases this
   ·exact h4.symm
   ·have := atC_gt h i h4 h1; rw [h2, ltIrr] at this; cases this
  rw [if_pos (isK_iff.2 ⟨by omega, by rw [e]; exact h2⟩), e]
end Go.Proofs.YtbgcaneflfdddaaGreatDoor
/- What the reference draws for parts: cells, cores, calls. -/
namespace Go.Proofs.YtbgcaneflfdddaaGreatDoor
open Go.RowKit Go
variable [GC]
def isSP (q : ByteArray → Bool) (r : D) : Prop := ∃ s : ByteArray, r = .str s ∧ q s = true
theorem isSP.ty {q : ByteArray → Bool} {r : D} (h : isSP q r) : HasVT tbl.tab (.one (.c .str)) r := by obtain ⟨x, rfl, _⟩ := h; trivial
def strRowP (q : ByteArray → Bool) : List D → Bool
 | [.str s] => q s
 | _ => false
theorem strRowP_ok {q : ByteArray → Bool} {r : List D} (h : strRowP q r = true) : ∃ s, r = [.str s] ∧ q s = true := by
 match r, h with
 | [.str s], h => exact ⟨s, rfl, h⟩
theorem d_l1StrP (q : ByteArray → Bool) (s0 : ByteArray) (h0 : q s0 = true) (rows0 : List (List D)) (hl : 0 < rows0.length) (hs : rows0.all (strRowP q) = true) : Dr 125 [.sl rows0] (isSP q) := by
 have hs' : ∀ r ∈ rows0, ∃ s : ByteArray, r = [.str s] ∧ q s = true := fun r hr => strRowP_ok (List.all_eq_true.1 hs r hr)
 have hty : HasVT tbl.tab (.one (.c (.sl 9))) (.sl rows0) := by
  show RowsTy _ (tbl.tab _) _
  rw [tab_str]
  exact RowsTy.of fun r hr => by obtain ⟨s, rfl, _⟩ := hs' r hr; exact ⟨trivial, trivial⟩
 refine Dr.of vc_spec_l1Str_ok rfl ty_spec_l1Str_ok (fun cs h => by exact ⟨hty, cur_tys h⟩) (.str s0) ⟨_, rfl, h0⟩ fun rows i sd f1 hl hr hi => ?_; (simp only [cA]); unfold vc_spec_l1Str
 have hn : (rows0.length : Int) ≤ 9223372036854775807 := by
  simp [FitsL, Fits, maxLen] at f1; omega
 (apply den_draw; (focus (simp only [VC.den, E.den, dEq, gsH_nil, and_true, lenD]; try exact rfl)); (focus (simp only [VC.den, E.den, dEq, gsH_nil, and_true, lenD]; try exact rfl)); (focus (exact ⟨_, _, _, rfl, by assumption, by assumption⟩)); (focus (first | exact d_l1Below rows0.length | exact Dr.ofR (d_l1Below rows0.length))); (focus (exact fun _ h => isBel.ty h)); rintro _ rows i sd ⟨x, rfl, hx⟩ hr hi; (simp only [cA]))
 refine den_cond (fun _ => ?_) ?_
 ·simp [E.den, lenD]; omega
 have hx2 := hx.2 (by omega)
 have e : rows0[x.toNat]? = some rows0[x.toNat] := List.getElem?_eq_getElem (by omega)
 obtain ⟨s, hs1, hs2⟩ := hs' _ (List.getElem_mem (show x.toNat < rows0.length by omega))
 refine ⟨⟨s, ?_, hs2⟩, _, _, _, rfl, hr, hi⟩
 simp [E.den, e, hs1]
theorem d_l3Key : Dr 126 [] (isSP nameB) := by
 refine Dr.of vc_spec_l3Key_ok rfl ty_spec_l3Key_ok (fun cs h => by exact cur_tys h) (.str ⟨#[97]⟩) ⟨_, rfl, by kernel_rfl⟩ fun rows i sd f1 hl hr hi => ?_; (simp only [cA]); unfold vc_spec_l3Key
 (apply den_draw; (iterate 2 (focus (simp only [VC.den, E.den, dEq, gsH_nil, and_true]; try exact rfl))); (focus (exact ⟨_, _, _, rfl, by assumption, by assumption⟩)); (focus (first | exact d_l1StrP nameB ⟨#[97]⟩ (by kernel_rfl) _ (by decide) (by kernel_rfl) | exact Dr.ofR (d_l1StrP nameB ⟨#[97]⟩ (by kernel_rfl) _ (by decide) (by kernel_rfl)))); (focus (exact fun _ h => isSP.ty h)); rintro _ rows i sd ⟨s, rfl, hs⟩ hr hi; (simp only [cA]))
 exact ⟨⟨_, rfl, hs⟩, _, _, _, rfl, hr, hi⟩
theorem c_spec_l3At (l : List Cell) (k : ByteArray) : Fun Tryz.prog 141 none [encS l, .str k] (.int .i64 (plC l k)) [] := by
 refine Fun.ofV vc_spec_l3At_ok ty_spec_l3At_ok rfl ?_ (fun hfit => ?_)
 ·exact ⟨ty_CellS l, trivial, trivial⟩
 have hl : l.length ≤ 9223372036854775807 := fits_encS hfit.1
 unfold vc_spec_l3At
 refine den_for l.length (fun k => [.int .i64 k]) (fun i => ∀ j, j < i → decide ((nth l j).key = k) = false) rfl (fun j h => by omega) ?_
 intro i hi hI _
 simp only [cA]
 refine den_ite (fun h2 => ?_) (fun h2 => ?_)
 ·simp only [E.den, dEq, iEq, sEq] at h2
  have h2 : i < l.length := by simp at h2; exact h2
  (refine den_cond (fun hg => ?_) ?_; (focus (simp only [gsH, gE, E.den, dEq, iEq, sEq] at hg ⊢; (try simp only [D.bool.injEq] at hg); (try simp only [D.bool.injEq]); grind)))
  refine den_ite (fun h3 => den_ret ?_) (fun h3 => ?_)
  ·simp only [E.den, dEq, iEq, sEq, row_Cell, cells_Cell, Int.toNat_natCast] at h3 ⊢
   have h3 : (nth l i).key = k := by simpa using h3
   have e : firstTo (fun i => decide ((nth l i).key = k)) l.length = some i := firstTo_some (by simpa using h3) hI h2
   unfold plC
   rw [e]
  ·simp only [E.den, dEq, iEq, sEq, row_Cell, cells_Cell, Int.toNat_natCast] at h3
   have h3 : (nth l i).key ≠ k := by simpa using h3
   refine den_next h2 ?_ fun j hj => ?_
   ·simp only [E.den, dEq, iEq, sEq]; rw [ar_add (by omega) (by omega)]; rfl
   ·rcases Nat.lt_or_ge j i with h | h
    ·exact hI j h
    ·obtain rfl : j = i := by omega
     simpa using h3
 ·simp only [E.den, dEq, iEq, sEq] at h2
  have h2 : i = l.length := by simp at h2; omega
  subst h2
  refine den_ret ?_
  simp only [E.den, dEq, iEq, sEq]
  unfold plC
  rw [firstTo_none hI]
theorem c_spec_l3Put (l : List Cell) (k : ByteArray) (v : Int) (hs : ascC l) (h4 : l.length ≤ 1048576) : FunR Tryz.prog 142 none [encS l, .str k, .int .i64 v] (encS (putC l k v)) [] [(0, 2)] := by
 refine FunR.ofV vc_spec_l3Put_ok ty_spec_l3Put_ok rt_spec_l3Put_ok rfl ?_ (fun hfit => ?_)
 ·exact ⟨ty_CellS l, trivial, rfl, trivial⟩
 have hle := atC_le l k
 unfold vc_spec_l3Put
 refine den_for l.length (fun i => [.bool (decide (atC l k < i)), encS (goP l k v i), .int .i64 i]) (fun _ => True) (by simp [E.den, goP_zero, encS]) trivial ?_
 intro i hi _ _
 have hgl : (goP l k v i).length ≤ i + 1 := by
  unfold goP
  split
  ·simp; omega
  ·simp; omega
 simp only [cA]
 refine den_ite (fun h2 => ?_) (fun h2 => ?_)
 ·simp only [E.den, dEq, iEq, sEq] at h2
  have h2 : i < l.length := by simp at h2; exact h2
  (refine den_cond (fun hg => ?_) ?_; (focus (simp only [gsH, gE, E.den, dEq, iEq, sEq] at hg ⊢; (try simp only [D.bool.injEq] at hg); (try simp only [D.bool.injEq]); grind)))
  refine den_ite (fun h3 => ?_) (fun h3 => ?_)
  ·simp only [E.den, dEq, iEq, sEq, row_Cell, cells_Cell, Int.toNat_natCast] at h3
   have hge : cmpS .geq (nth l i).key k = !ltB (nth l i).key k := by rfl
   simp at h3
   have ea : i = atC l k := by
    rcases Nat.lt_or_ge i (atC l k) with h | h
    ·have := atC_lt h; rw [h3.2] at this; cases this
    ·omega
   refine den_cond (fun _ => ?_) ?_
   ·simp only [E.den, dEq, iEq, sEq]; simp; omega
   have hgo := goP_at (v := v) ea h2
   refine den_ite (fun h5 => ?_) (fun h5 => ?_)
   ·simp only [E.den, dEq, iEq, sEq, row_Cell, cells_Cell, Int.toNat_natCast] at h5
    have h5 : (nth l i).key ≠ k := by simpa using h5
    rw [if_neg h5] at hgo
    refine den_cond (fun _ => ?_) ?_
    ·simp only [E.den, dEq, iEq, sEq]; simp; omega
    refine den_next h2 ?_ trivial
    rw [hgo, decide_eq_true (show atC l k < i + 1 by omega)]
    simp only [E.den, dEq, iEq, sEq, row_Cell, cells_Cell, Int.toNat_natCast]
    rw [ar_add (by omega) (by omega)]
    simp [encS, cells_Cell]
   ·simp only [E.den, dEq, iEq, sEq, row_Cell, cells_Cell, Int.toNat_natCast] at h5
    have h5 : (nth l i).key = k := by simpa using h5
    rw [if_pos h5] at hgo
    refine den_next h2 ?_ trivial
    rw [hgo, decide_eq_true (show atC l k < i + 1 by omega)]
    simp only [E.den, dEq, iEq, sEq, row_Cell, cells_Cell, Int.toNat_natCast]
    rw [ar_add (by omega) (by omega)]
    simp [encS, cells_Cell]
  ·simp only [E.den, dEq, iEq, sEq, row_Cell, cells_Cell, Int.toNat_natCast] at h3
   have hge : cmpS .geq (nth l i).key k = !ltB (nth l i).key k := by rfl
   have hnk : (nth l i).key ≠ k := by
    intro e
    rcases Nat.lt_trichotomy i (atC l k) with h | h | h
    ·have := atC_lt h; rw [e, ltIrr] at this; cases this
    ·rw [e, ltIrr] at h3; simp at h3; omega
    ·have := atC_gt hs i h h2; rw [e, ltIrr] at this; cases this
   have hni : i ≠ atC l k := by
    intro e
    have := atC_at (l := l) (k := k) (by omega)
    rw [← e] at this
    rw [this] at h3; simp at h3; omega
   have hgo : goP l k v (i + 1) = goP l k v i ++ [nth l i] := by
    rcases Nat.lt_or_ge i (atC l k) with h | h
    ·exact goP_low h h2
    ·exact goP_high (by omega) h2
   have hdc : decide (atC l k < i + 1) = decide (atC l k < i) := decide_eq_decide.2 (by omega)
   refine den_ite (fun h5 => ?_) (fun h5 => ?_)
   ·refine den_cond (fun _ => ?_) ?_
    ·simp only [E.den, dEq, iEq, sEq]; simp; omega
    refine den_next h2 ?_ trivial
    rw [hgo, hdc]
    simp only [E.den, dEq, iEq, sEq, row_Cell, cells_Cell, Int.toNat_natCast]
    rw [ar_add (by omega) (by omega)]
    simp [encS, cells_Cell]
   ·exfalso
    simp only [E.den, dEq, iEq, sEq, row_Cell, cells_Cell, Int.toNat_natCast] at h5
    exact hnk (by simpa using h5)
 ·simp only [E.den, dEq, iEq, sEq] at h2
  have h2 : i = l.length := by simp at h2; omega
  subst h2
  have hend := goP_end (l := l) (k := k) (v := v)
  refine den_ite (fun h3 => ?_) (fun h3 => ?_)
  ·simp only [E.den, dEq, iEq, sEq] at h3
   have h3 : ¬ atC l k < l.length := by simpa using h3
   refine den_cond (fun _ => ?_) (den_ret ?_)
   ·simp only [E.den, dEq, iEq, sEq]; simp; omega
   ·rw [hend, if_neg h3]
    simp only [E.den, dEq, iEq, sEq]
    simp [encS, cells_Cell]
  ·simp only [E.den, dEq, iEq, sEq] at h3
   have h3 : atC l k < l.length := by simpa using h3
   refine den_ret ?_
   rw [hend, if_pos h3]
   simp only [E.den, dEq, iEq, sEq]
def isCs (r : D) : Prop := ∃ l : List Cell, r = encS l ∧ cellsB l = true
theorem isCs.ty {r : D} (h : isCs r) : HasVT tbl.tab (.one (.c (.sl 125))) r := by obtain ⟨l, rfl, _⟩ := h; exact ty_CellS l
structure CsSt where
 l : List Cell
 n : Int
 rows : List (List D)
 i : Int
 h : Int
def CsSt.lay (s : CsSt) : List D := [encS s.l, .int .i64 s.n, .sl s.rows, .int .i64 s.i, .int .i64 s.h]
theorem d_l3Cells : DrR 122 [] isCs [(0, 2)] := by
 refine DrR.of vc_spec_l3Cells_ok rt_spec_l3Cells_ok rfl ty_spec_l3Cells_ok (fun cs h => by exact cur_tys h) (encS ([] : List Cell)) ⟨_, rfl, by decide⟩ fun rows i sd f1 hl hr hi => ?_; (simp only [cA]); unfold vc_spec_l3Cells
 (apply den_draw; (iterate 2 (focus (simp only [VC.den, E.den, dEq, gsH_nil, and_true]; try exact rfl))); (focus (exact ⟨_, _, _, rfl, by assumption, by assumption⟩)); (focus (first | exact d_l1Below _ | exact Dr.ofR (d_l1Below _))); (focus (exact fun _ h => isBel.ty h)); rintro _ rows i sd ⟨n, rfl, hn⟩ hr hi; (simp only [cA]))
 have hn2 := hn.2 (by omega)
 refine den_loop CsSt CsSt.lay (fun s => RowsTy tbl.tab [.int .u8] s.rows ∧ 0 ≤ s.i ∧ 0 ≤ s.n ∧ s.n ≤ 6 ∧ cellsB s.l = true) (fun s => s.n.toNat) ⟨[], n, rows, i, sd⟩ (fun s s' h => by simp [CsSt.lay] at h; rw [h.2.1]) rfl ⟨hr, hi, hn.1, by simp only; omega, show cellsB [] = true by decide⟩ ?_
 rintro ⟨l, m, rows, i, sd⟩ ⟨hr, hi, hm, hm6, hl⟩ -
 simp only at hr hi hm hm6 hl
 have hl4 := cellsB_len hl
 have hms : 0 < m → arI .sub .i64 m 1 = m - 1 := fun h => ar_sub (by omega) (by omega)
 simp only [CsSt.lay, List.cons_append, List.nil_append]
 refine den_ite (fun h => ?_) (fun h => ?_)
 ·simp [E.den, cmpI] at h
  (apply den_draw; (iterate 2 (focus (simp only [VC.den, E.den, dEq, gsH_nil, and_true]; try exact rfl))); (focus (exact ⟨_, _, _, rfl, by assumption, by assumption⟩)); (focus (first | exact d_l3Key | exact Dr.ofR (d_l3Key))); (focus (exact fun _ h => isSP.ty h)); rintro _ rows i sd ⟨k, rfl, hk⟩ hr hi; (simp only [cA]))
  (refine den_call ?_ (c_spec_l3At l k) (rfl) ?_; (focus (simp only [VC.den, E.den, dEq, gsH_nil, and_true]; try exact rfl)); (simp only [cA]))
  refine den_ite (fun h2 => ?_) (fun h2 => ?_)
  ·simp only [E.den, dEq, iEq, sEq] at h2
   rw [plC_asc (cellsB_asc hl)] at h2
   (apply den_draw; (iterate 2 (focus (simp only [VC.den, E.den, dEq, gsH_nil, and_true]; try exact rfl))); (focus (exact ⟨_, _, _, rfl, by assumption, by assumption⟩)); (focus (first | exact d_l1Below _ | exact Dr.ofR (d_l1Below _))); (focus (exact fun _ h => isBel.ty h)); rintro _ rows i sd ⟨y, rfl, hy⟩ hr hi; (simp only [cA]))
   have hy2 := hy.2 (by omega)
   have hput : cellsB (putC l k y) = true := put_cells hl hk (numB_iff.2 ⟨hy.1, by omega⟩) (fun hc => by
    rw [hc.1] at h2
    simp at h2
    omega)
   (refine den_callR ?_ (c_spec_l3Put l k y (cellsB_asc hl) (by omega)) (ty_CellS _) ?_; (focus (simp only [VC.den, E.den, dEq, gsH_nil, and_true]; try exact rfl)); (simp only [cA]))
   refine ⟨⟨putC l k y, m - 1, rows, i, sd⟩, ?_, ⟨hr, hi, by simp only; omega, by simp only; omega, hput⟩, by simp only; omega⟩
   simp [E.den, CsSt.lay, hms h]
  ·refine ⟨⟨l, m - 1, rows, i, sd⟩, ?_, ⟨hr, hi, by simp only; omega, by simp only; omega, hl⟩, by simp only; omega⟩
   simp [E.den, CsSt.lay, hms h]
 ·exact ⟨⟨l, rfl, hl⟩, _, _, _, rfl, hr, hi⟩
def fewT (s : ByteArray) : Bool := decide (s.size ≤ 100)
theorem d_l3Text : Dr 127 [] (isSP fewT) := by
 refine Dr.of vc_spec_l3Text_ok rfl ty_spec_l3Text_ok (fun cs h => by exact cur_tys h) (.str noText) ⟨_, rfl, by decide⟩ fun rows i sd f1 hl hr hi => ?_; (simp only [cA]); unfold vc_spec_l3Text
 (apply den_drawR; (iterate 2 (focus (simp only [VC.den, E.den, dEq, gsH_nil, and_true]; try exact rfl))); (focus (exact ⟨_, _, _, rfl, by assumption, by assumption⟩)); (focus (first | exact d_l3Cells | exact Dr.ofR (d_l3Cells))); (focus (exact fun _ h => isCs.ty h)); rintro _ rows i sd ⟨l, rfl, hl⟩ hr hi; (simp only [cA]))
 (refine den_call ?_ (c_spec_FormatCells l) (trivial) ?_; (focus (simp only [VC.den, E.den, dEq, gsH_nil, and_true]; try exact rfl)); (simp only [cA]))
 have hf := fmtC_size l
 (apply den_draw; (iterate 2 (focus (simp only [VC.den, E.den, dEq, gsH_nil, and_true]; try exact rfl))); (focus (exact ⟨_, _, _, rfl, by assumption, by assumption⟩)); (focus (first | exact d_l1Below _ | exact Dr.ofR (d_l1Below _))); (focus (exact fun _ h => isBel.ty h)); rintro _ rows i sd ⟨y, rfl, hy⟩ hr hi; (simp only [cA]))
 refine den_ite (fun h => ?_) (fun h => ?_)
 ·(apply den_draw; (iterate 2 (focus (simp only [VC.den, E.den, dEq, gsH_nil, and_true]; try exact rfl))); (focus (exact ⟨_, _, _, rfl, by assumption, by assumption⟩)); (focus (first | exact d_l1StrP (fun s => decide (s.size ≤ 40)) noText (by decide) _ (by decide) (by kernel_rfl) | exact Dr.ofR (d_l1StrP (fun s => decide (s.size ≤ 40)) noText (by decide) _ (by decide) (by kernel_rfl)))); (focus (exact fun _ h => isSP.ty h)); rintro _ rows i sd ⟨s, rfl, hs⟩ hr hi; (simp only [cA]))
  have hs : s.size ≤ 40 := by simpa using hs
  refine den_cond (fun _ => ?_) ?_
  ·simp only [E.den, dEq, iEq, sEq]; refine dec_ok ?_; unfold maxLen; omega
  exact ⟨⟨_, rfl, by unfold fewT; simp only [E.den, List.map_cons, List.map_nil, List.cons_append, List.nil_append, List.getD_cons_zero, List.getD_cons_succ, D.toS_str, ByteArray.size_append, decide_eq_true_eq]; omega⟩, _, _, _, rfl, hr, hi⟩
 refine den_ite (fun h => ?_) (fun h => ?_)
 ·(apply den_draw; (iterate 2 (focus (simp only [VC.den, E.den, dEq, gsH_nil, and_true]; try exact rfl))); (focus (exact ⟨_, _, _, rfl, by assumption, by assumption⟩)); (focus (first | exact d_l1StrP fewT noText (by decide) _ (by decide) (by kernel_rfl) | exact Dr.ofR (d_l1StrP fewT noText (by decide) _ (by decide) (by kernel_rfl)))); (focus (exact fun _ h => isSP.ty h)); rintro _ rows i sd ⟨s, rfl, hs⟩ hr hi; (simp only [cA]))
  exact ⟨⟨_, rfl, hs⟩, _, _, _, rfl, hr, hi⟩
 ·exact ⟨⟨_, rfl, by unfold fewT; simp; omega⟩, _, _, _, rfl, hr, hi⟩
def isCl (r : D) : Prop := ∃ x : Call, r = enc x ∧ x.text.size ≤ 100
theorem isCl.ty {r : D} (h : isCl r) : HasVT tbl.tab (.one (.agg [.str, .str, .int .i64, .str])) r := by obtain ⟨x, rfl, _⟩ := h; exact ty_Call x
theorem d_l3Call : Dr 92 [] isCl := by
 refine Dr.of vc_spec_l3Call_ok rfl ty_spec_l3Call_ok (fun cs h => by exact cur_tys h) (enc (⟨noText, noText, 0, noText⟩ : Call)) ⟨_, rfl, show noText.size ≤ 100 by decide⟩ fun rows i sd f1 hl hr hi => ?_; (simp only [cA]); unfold vc_spec_l3Call
 (apply den_draw; (iterate 2 (focus (simp only [VC.den, E.den, dEq, gsH_nil, and_true]; try exact rfl))); (focus (exact ⟨_, _, _, rfl, by assumption, by assumption⟩)); (focus (first | exact d_l1Str _ (by decide) rfl | exact Dr.ofR (d_l1Str _ (by decide) rfl))); (focus (exact fun _ h => isS.ty h)); rintro _ rows i sd ⟨s, rfl⟩ hr hi; (simp only [cA]))
 refine den_ite (fun h => ?_) (fun h => ?_)
 ·(apply den_draw; (iterate 2 (focus (simp only [VC.den, E.den, dEq, gsH_nil, and_true]; try exact rfl))); (focus (exact ⟨_, _, _, rfl, by assumption, by assumption⟩)); (focus (first | exact d_l3Key | exact Dr.ofR (d_l3Key))); (focus (exact fun _ h => isSP.ty h)); rintro _ rows i sd ⟨k, rfl, hk⟩ hr hi; (simp only [cA]))
  exact ⟨⟨⟨s, k, 0, noText⟩, rfl, show noText.size ≤ 100 by decide⟩, _, _, _, rfl, hr, hi⟩
 refine den_ite (fun h => ?_) (fun h => ?_)
 ·(apply den_draw; (iterate 2 (focus (simp only [VC.den, E.den, dEq, gsH_nil, and_true]; try exact rfl))); (focus (exact ⟨_, _, _, rfl, by assumption, by assumption⟩)); (focus (first | exact d_l3Key | exact Dr.ofR (d_l3Key))); (focus (exact fun _ h => isSP.ty h)); rintro _ rows i sd ⟨k, rfl, hk⟩ hr hi; (simp only [cA]))
  (apply den_draw; (iterate 2 (focus (simp only [VC.den, E.den, dEq, gsH_nil, and_true]; try exact rfl))); (focus (exact ⟨_, _, _, rfl, by assumption, by assumption⟩)); (focus (first | exact d_l1Below _ | exact Dr.ofR (d_l1Below _))); (focus (exact fun _ h => isBel.ty h)); rintro _ rows i sd ⟨y, rfl, hy⟩ hr hi; (simp only [cA]))
  exact ⟨⟨⟨s, k, y, noText⟩, rfl, show noText.size ≤ 100 by decide⟩, _, _, _, rfl, hr, hi⟩
 refine den_ite (fun h => ?_) (fun h => ?_)
 ·(apply den_draw; (iterate 2 (focus (simp only [VC.den, E.den, dEq, gsH_nil, and_true]; try exact rfl))); (focus (exact ⟨_, _, _, rfl, by assumption, by assumption⟩)); (focus (first | exact d_l1Below _ | exact Dr.ofR (d_l1Below _))); (focus (exact fun _ h => isBel.ty h)); rintro _ rows i sd ⟨y, rfl, hy⟩ hr hi; (simp only [cA]))
  exact ⟨⟨⟨s, noText, y, noText⟩, rfl, show noText.size ≤ 100 by decide⟩, _, _, _, rfl, hr, hi⟩
 refine den_ite (fun h => ?_) (fun h => ?_)
 ·(apply den_draw; (iterate 2 (focus (simp only [VC.den, E.den, dEq, gsH_nil, and_true]; try exact rfl))); (focus (exact ⟨_, _, _, rfl, by assumption, by assumption⟩)); (focus (first | exact d_l3Text | exact Dr.ofR (d_l3Text))); (focus (exact fun _ h => isSP.ty h)); rintro _ rows i sd ⟨t, rfl, ht⟩ hr hi; (simp only [cA]))
  exact ⟨⟨⟨s, noText, 0, t⟩, rfl, by unfold fewT at ht; simpa using ht⟩, _, _, _, rfl, hr, hi⟩
 ·exact ⟨⟨⟨s, noText, 0, noText⟩, rfl, show noText.size ≤ 100 by decide⟩, _, _, _, rfl, hr, hi⟩
theorem d_l2Method : Dr 123 [] isS := by
 refine Dr.of vc_spec_l2Method_ok rfl ty_spec_l2Method_ok (fun cs h => by exact cur_tys h) (.str noText) ⟨_, rfl⟩ fun rows i sd f1 hl hr hi => ?_; (simp only [cA]); unfold vc_spec_l2Method
 (apply den_draw; (iterate 2 (focus (simp only [VC.den, E.den, dEq, gsH_nil, and_true]; try exact rfl))); (focus (exact ⟨_, _, _, rfl, by assumption, by assumption⟩)); (focus (first | exact d_l1Once _ | exact Dr.ofR (d_l1Once _))); (focus (exact fun _ h => isB.ty h)); rintro _ rows i sd ⟨b, rfl⟩ hr hi; (simp only [cA]))
 refine den_ite (fun h => ?_) (fun h => ?_)
 ·(apply den_draw; (iterate 2 (focus (simp only [VC.den, E.den, dEq, gsH_nil, and_true]; try exact rfl))); (focus (exact ⟨_, _, _, rfl, by assumption, by assumption⟩)); (focus (first | exact d_l1Str _ (by decide) rfl | exact Dr.ofR (d_l1Str _ (by decide) rfl))); (focus (exact fun _ h => isS.ty h)); rintro _ rows i sd ⟨s, rfl⟩ hr hi; (simp only [cA]))
  exact ⟨⟨_, rfl⟩, _, _, _, rfl, hr, hi⟩
 ·(apply den_draw; (iterate 2 (focus (simp only [VC.den, E.den, dEq, gsH_nil, and_true]; try exact rfl))); (focus (exact ⟨_, _, _, rfl, by assumption, by assumption⟩)); (focus (first | exact d_l1Str _ (by decide) rfl | exact Dr.ofR (d_l1Str _ (by decide) rfl))); (focus (exact fun _ h => isS.ty h)); rintro _ rows i sd ⟨s, rfl⟩ hr hi; (simp only [cA]))
  exact ⟨⟨_, rfl⟩, _, _, _, rfl, hr, hi⟩
theorem d_l3AnyCall : Dr 91 [] isCl := by
 refine Dr.of vc_spec_l3AnyCall_ok rfl ty_spec_l3AnyCall_ok (fun cs h => by exact cur_tys h) (enc (⟨noText, noText, 0, noText⟩ : Call)) ⟨_, rfl, show noText.size ≤ 100 by decide⟩ fun rows i sd f1 hl hr hi => ?_; (simp only [cA]); unfold vc_spec_l3AnyCall
 (apply den_draw; (iterate 2 (focus (simp only [VC.den, E.den, dEq, gsH_nil, and_true]; try exact rfl))); (focus (exact ⟨_, _, _, rfl, by assumption, by assumption⟩)); (focus (first | exact d_l3Call | exact Dr.ofR (d_l3Call))); (focus (exact fun _ h => isCl.ty h)); rintro _ rows i sd ⟨x, rfl, hx⟩ hr hi; (simp only [cA]))
 (apply den_draw; (iterate 2 (focus (simp only [VC.den, E.den, dEq, gsH_nil, and_true]; try exact rfl))); (focus (exact ⟨_, _, _, rfl, by assumption, by assumption⟩)); (focus (first | exact d_l1Below _ | exact Dr.ofR (d_l1Below _))); (focus (exact fun _ h => isBel.ty h)); rintro _ rows i sd ⟨y, rfl, hy⟩ hr hi; (simp only [cA]))
 refine den_ite (fun h => ?_) (fun h => ?_)
 ·(apply den_draw; (iterate 2 (focus (simp only [VC.den, E.den, dEq, gsH_nil, and_true]; try exact rfl))); (focus (exact ⟨_, _, _, rfl, by assumption, by assumption⟩)); (focus (first | exact d_l2Method | exact Dr.ofR (d_l2Method))); (focus (exact fun _ h => isS.ty h)); rintro _ rows i sd ⟨s, rfl⟩ hr hi; (simp only [cA]))
  exact ⟨⟨⟨s, x.key, x.val, x.text⟩, rfl, hx⟩, _, _, _, rfl, hr, hi⟩
 refine den_ite (fun h => ?_) (fun h => ?_)
 ·(apply den_draw; (iterate 2 (focus (simp only [VC.den, E.den, dEq, gsH_nil, and_true]; try exact rfl))); (focus (exact ⟨_, _, _, rfl, by assumption, by assumption⟩)); (focus (first | exact d_l1Word | exact Dr.ofR (d_l1Word))); (focus (exact fun _ h => isS.ty h)); rintro _ rows i sd ⟨s, rfl⟩ hr hi; (simp only [cA]))
  exact ⟨⟨⟨x.method, s, x.val, x.text⟩, rfl, hx⟩, _, _, _, rfl, hr, hi⟩
 refine den_ite (fun h => ?_) (fun h => ?_)
 ·(apply den_draw; (iterate 2 (focus (simp only [VC.den, E.den, dEq, gsH_nil, and_true]; try exact rfl))); (focus (exact ⟨_, _, _, rfl, by assumption, by assumption⟩)); (focus (first | exact d_l1Odd | exact Dr.ofR (d_l1Odd))); (focus (exact fun _ h => isI.ty h)); rintro _ rows i sd ⟨v, rfl⟩ hr hi; (simp only [cA]))
  exact ⟨⟨⟨x.method, x.key, v, x.text⟩, rfl, hx⟩, _, _, _, rfl, hr, hi⟩
 refine den_ite (fun h => ?_) (fun h => ?_)
 ·(apply den_draw; (iterate 2 (focus (simp only [VC.den, E.den, dEq, gsH_nil, and_true]; try exact rfl))); (focus (exact ⟨_, _, _, rfl, by assumption, by assumption⟩)); (focus (first | exact d_l1StrP fewT noText (by decide) _ (by decide) (by kernel_rfl) | exact Dr.ofR (d_l1StrP fewT noText (by decide) _ (by decide) (by kernel_rfl)))); (focus (exact fun _ h => isSP.ty h)); rintro _ rows i sd ⟨s, rfl, hs⟩ hr hi; (simp only [cA]))
  exact ⟨⟨⟨x.method, x.key, x.val, s⟩, rfl, by unfold fewT at hs; simpa using hs⟩, _, _, _, rfl, hr, hi⟩
 ·exact ⟨⟨x, rfl, hx⟩, _, _, _, rfl, hr, hi⟩
end Go.Proofs.YtbgcaneflfdddaaGreatDoor
/- The laws of parts as plain laws of data. -/
namespace Go.Proofs.YtbgcaneflfdddaaGreatDoor
open Go.RowKit Go
variable [GC]
theorem call_bad {p : Part} {x : Call} (h : partB p = false ∨ callB x = false) : callD p x = (p, rep 7 0 0 0) := by unfold callD; rw [if_pos h]
theorem call_no {p : Part} {x : Call} (hp : partB p = true) (hx : callB x = true) (ho : offersB (faceOf p) (wantZ x.method) = false) : callD p x = (p, rep 1 0 (wantZ x.method) (faceOf p)) := by
 unfold callD; rw [if_neg (by simp [hp, hx]), if_pos ho]
theorem call_yes {p : Part} {x : Call} (hp : partB p = true) (hx : callB x = true) (ho : offersB (faceOf p) (wantZ x.method) = true) : callD p x = thrD p.layers.length p x := by
 unfold callD; rw [if_neg (by simp [hp, hx]), if_neg (by simp [ho])]
theorem call_ok {p : Part} {x : Call} (hp : partB p = true) (hx : callB x = true) (ho : offersB (faceOf p) (wantZ x.method) = true) : OkR p (callD p x) := by
 rw [call_yes hp hx ho]
 exact thr_ok _ p x hp (Nat.le_refl _) hx ho
theorem call_keeps {p : Part} (hp : partB p = true) (x : Call) : partB (callD p x).1 = true ∧ ShP p (callD p x).1 := by
 by_cases hx : callB x = true
 ·by_cases ho : offersB (faceOf p) (wantZ x.method) = true
  ·have := call_ok hp hx ho
   exact ⟨this.1, this.2.1⟩
  ·rw [call_no hp hx (by simpa using ho)]; exact ⟨hp, ShP.refl _⟩
 ·rw [call_bad (.inr (by simpa using hx))]; exact ⟨hp, ShP.refl _⟩
theorem call_assert {p : Part} {x : Call} (h : (callD p x).2.code = 1) : partB p = true ∧ callB x = true ∧ offersB (faceOf p) (wantZ x.method) = false ∧ callD p x = (p, rep 1 0 (wantZ x.method) (faceOf p)) := by
 by_cases hp : partB p = true
 ·by_cases hx : callB x = true
  ·by_cases ho : offersB (faceOf p) (wantZ x.method) = true
   ·exact absurd h (call_ok hp hx ho).2.2.1
   ·have ho : offersB (faceOf p) (wantZ x.method) = false := by simpa using ho
    exact ⟨hp, hx, ho, call_no hp hx ho⟩
  ·rw [call_bad (.inr (by simpa using hx))] at h; simp [rep] at h
 ·rw [call_bad (.inl (by simpa using hp))] at h; simp [rep] at h
def stD (p : Part) (l : List Call) : Nat → Part
 | 0 => p
 | k + 1 => (callD (stD p l k) (nth l k)).1
theorem stD_cons (p : Part) (x : Call) (l : List Call) : ∀ k, stD p (x :: l) (k + 1) = stD (callD p x).1 l k
 | 0 => by simp [stD, nth_zero]
 | k + 1 => by rw [stD, stD_cons p x l k, stD, nth_cons]
structure Runs (p : Part) (l : List Call) (q : Part) (r : List Reply) : Prop where
 len : r.length ≤ l.length
 at' : ∀ i, i < r.length → nth r i = (callD (stD p l i) (nth l i)).2
 one : ∀ i, i < r.length → (nth r i).code = 1 → i + 1 = r.length
 fin : q = stD p l r.length
 all : r.length < l.length → r ≠ [] ∧ (nth r (r.length - 1)).code = 1
theorem calls_runs : ∀ (l : List Call) (p : Part), Runs p l (callsD p l).1 (callsD p l).2
 | [], p => ⟨Nat.le_refl _, fun i h => by simp [callsD] at h, fun i h => by simp [callsD] at h, rfl, fun h => by simp [callsD] at h⟩
 | x :: l, p => by
  rw [callsD]
  split
  ·rename_i h1
   refine ⟨by simp, fun i hi => ?_, fun i hi _ => ?_, ?_, fun _ => ⟨by simp, by simpa [nth_zero] using h1⟩⟩
   ·simp at hi; subst hi; simp [nth_zero, stD]
   ·simp at hi; subst hi; rfl
   ·simp [stD, nth_zero]
  ·rename_i h1
   have ih := calls_runs l (callD p x).1
   refine ⟨by simpa using ih.len, fun i hi => ?_, fun i hi hc => ?_, ?_, fun h => ?_⟩
   ·cases i with
    | zero => simp [nth_zero, stD]
    | succ i => rw [nth_cons, nth_cons, stD_cons]; exact ih.at' i (by simpa using hi)
   ·cases i with
    | zero => rw [nth_zero] at hc; exact absurd hc h1
    | succ i =>
     rw [nth_cons] at hc
     have := ih.one i (by simpa using hi) hc
     simp; omega
   ·simp only [List.length_cons]; rw [stD_cons]; exact ih.fin
   ·have := ih.all (by simpa using h)
    refine ⟨by simp, ?_⟩
    obtain ⟨hne, hc⟩ := this
    have : 0 < (callsD (callD p x).1 l).2.length := List.length_pos_iff.2 hne
    simp only [List.length_cons]
    have e : (callsD (callD p x).1 l).2.length + 1 - 1 = ((callsD (callD p x).1 l).2.length - 1) + 1 := by omega
    rw [e, nth_cons]; exact hc
theorem calls_skip : ∀ (l : List Call) (p : Part), (callsD p l).2 ≠ [] → (nth (callsD p l).2 ((callsD p l).2.length - 1)).code = 1 →
  callsD p (l.take ((callsD p l).2.length - 1) ++ l.drop (callsD p l).2.length) = ((callsD (callsD p l).1 (l.drop (callsD p l).2.length)).1, (callsD p l).2.take ((callsD p l).2.length - 1) ++ (callsD (callsD p l).1 (l.drop (callsD p l).2.length)).2)
 | [], p, h, _ => absurd rfl h
 | x :: l, p, h, hc => by
  rw [callsD] at h hc ⊢
  by_cases h1 : (callD p x).2.code = 1
  ·simp only [if_pos h1] at h hc ⊢
   obtain ⟨_, _, _, e⟩ := call_assert h1
   simp [e]
  ·simp only [if_neg h1] at h hc ⊢
   have hl : (callsD (callD p x).1 l).2 ≠ [] := by
    intro e
    rw [e] at hc
    simp [nth_zero] at hc
    exact h1 hc
   have hp : 0 < (callsD (callD p x).1 l).2.length := List.length_pos_iff.2 hl
   simp only [List.length_cons, Nat.add_sub_cancel] at hc ⊢
   have e : (callsD (callD p x).1 l).2.length = ((callsD (callD p x).1 l).2.length - 1) + 1 := by omega
   rw [e, nth_cons] at hc
   have ih := calls_skip l (callD p x).1 hl hc
   generalize hr : callsD (callD p x).1 l = y at *
   obtain ⟨m, hm⟩ : ∃ m, y.2.length = m + 1 := ⟨y.2.length - 1, by omega⟩
   rw [hm] at ih ⊢
   simp only [Nat.add_sub_cancel, List.take_succ_cons, List.drop_succ_cons, List.cons_append] at ih ⊢
   rw [callsD, if_neg h1, ih]
/- Wrapping. -/
theorem wrap_code {p : Part} {s : ByteArray} (h : (wrapP p s).2.code = 0) : partB p = true ∧ layOk s = true ∧ p.layers.length < 3 ∧ offersB (faceOf p) (needN s) = true ∧ (wrapP p s).1 = extP p [⟨s, 0⟩] ∧ partB (extP p [⟨s, 0⟩]) = true := by
 unfold wrapP at h ⊢
 split at h
 ·simp [rep] at h
 rename_i h1
 split at h
 ·simp [rep] at h
 rename_i h2
 split at h
 ·simp [rep] at h
 rename_i h3
 rw [if_neg h1, if_neg h2, if_neg h3]
 have hp : partB p = true := by grind
 have hs : layOk s = true := by grind
 have ho : offersB (faceOf p) (needN s) = true := by simpa using h3
 refine ⟨hp, hs, by omega, ho, rfl, ?_⟩
 obtain ⟨q1, q2, q3⟩ := partB_iff.1 hp
 refine partB_iff.2 ⟨q1, by simp [extP]; omega, fun i hi => ?_⟩
 have hi' : i < p.layers.length + 1 := by simpa [extP] using hi
 have hf : faceAt (extP p [⟨s, 0⟩]) i = faceAt p i := by
  unfold faceAt extP
  split
  ·rfl
  ·rw [nthA_l (by omega)]
 rw [hf]
 by_cases e : i < p.layers.length
 ·have : nth (extP p [⟨s, 0⟩]).layers i = nth p.layers i := nthA_l e
  rw [this]; exact q3 i e
 ·have e : i = p.layers.length := by omega
  subst e
  have : nth (extP p [⟨s, 0⟩]).layers p.layers.length = ⟨s, 0⟩ := by simp [extP, nth]
  rw [this]
  exact ⟨hs, ho, (by decide : numB 0 = true), .inl rfl⟩
/- Telling. -/
/- Counting. -/
/- Lazy. -/
/- Hearing. -/
/- Reading. -/
/- Through keeps and runs. -/
end Go.Proofs.YtbgcaneflfdddaaGreatDoor
/- Writing marks into memory of one's own: what stays, what the shape of data is, a row of leaves with one cell written. No program in sight. -/
namespace Go.Proofs.YtbgcaneflfdddaaGreatDoor
open Go.RowKit Go
variable [GC]
theorem fro_of_block {w w' : World} {p : Addr} (h : w'.heap[p.block]? = w.heap[p.block]?) : w'.frozen? p = w.frozen? p := by
 unfold World.frozen?; rw [h]
theorem R.less {w : World} {M M' : Addr → Prop} {d : D} {v : Value} (h : R w M d v) (hM : ∀ p, M' p → M p) : R w M' d v :=
 R.keep (fun p v hp hn => ⟨hp, fun hm => hn (hM p hm)⟩) d v h
section
variable {w w' : World} {A M M' : Addr → Prop}
end
/-! Rows of leaves -/
theorem flat_cells {w : World} {M : Addr → Prop} {rows : List (List D)} {n b o len cap : Nat} {s : Option Nat} (hn : ∀ r ∈ rows, r.length = n) (h : R w M (.sl rows) (.slice (some ⟨b, o, s⟩) len cap)) {i j : Nat} {r : List D} {d : D} (hi : rows[i]? = some r) (hj : r[j]? = some d) :
  ∃ u, w.cell? ⟨b, o + i * n + j, none⟩ = some u ∧ ¬ M ⟨b, o + i * n + j, none⟩ ∧ R w M d u := by
 obtain ⟨a, len', cap', e, h1, h2, h3, h4, h5⟩ := h
 cases e
 exact ((h5 b o s rfl).2.get hn hi).get hj
theorem flat_of {w : World} {M : Addr → Prop} {rows : List (List D)} {n b o len cap : Nat} {s : Option Nat} (hn : ∀ r ∈ rows, r.length = n) (h1 : len = rows.length) (h2 : len ≤ cap) (h3 : cap ≤ maxLen) (h4 : 0 < len → s = none)
  (hc : ∀ (i j : Nat) (r : List D) (d : D), rows[i]? = some r → r[j]? = some d → ∃ u, w.cell? ⟨b, o + i * n + j, none⟩ = some u ∧ ¬ M ⟨b, o + i * n + j, none⟩ ∧ R w M d u) : R w M (.sl rows) (.slice (some ⟨b, o, s⟩) len cap) := by
 refine ⟨_, _, _, rfl, h1, h2, h3, (fun e => by cases e), fun b' o' s' e => ?_⟩
 cases e
 exact ⟨h4, Rws.of hn fun i r hr => Rw.of fun j d hd => hc i j r d hr hd⟩
theorem Fun.calls {P : Program} {f : FuncId} {ds : List D} {r : D} (h : Fun P f none ds r []) {w : World} {M : Addr → Prop} {vs : List Value} (hG : Rdy w M) (hr : Rs w M ds vs) :
  Calls P f vs.toArray w fun e w' => ∃ v, e = .returned v ∧ R w' M r v ∧ Below w.heap.size w w' :=
 (h.2 w M 0 vs hG hr (fun cs h => by cases h)).mono fun e w' ⟨v, h1, h2, h3, _⟩ => ⟨v, h1, h2, h3.to_below⟩
theorem store_run {P : Program} {w : World} {a : Addr} {u v : Value} (h : w.cell? a = some u) (hf : w.frozen? a = false) (hone : v.oneCell' = true) : (store a v).run P w = .ok () (w.setCell a v) := by
 rw [run_store P w a v .plain hone, h, hf]; rfl
/-! Rows by a function -/
/-! The shape of entries -/
end Go.Proofs.YtbgcaneflfdddaaGreatDoor
