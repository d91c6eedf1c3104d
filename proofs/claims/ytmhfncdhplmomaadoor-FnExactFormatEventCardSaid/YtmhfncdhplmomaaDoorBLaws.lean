/- The laws' helpers: sizes, copies, equality. Written by gen3.py. -/
import Derived.Test.YtmhfncdhplmomaaDoorBRowN
namespace Go.Proofs.YtmhfncdhplmomaaDoor
open Go.RowKit Go
set_option linter.unusedVariables false
set_option linter.unusedSimpArgs false
set_option maxRecDepth 100000
set_option linter.unusedSectionVars false
variable [GC]
/-- What a size helper answers: what is left, and then P; or -1. -/
def isZ (n : Int) (P : Prop) (r : D) : Prop := ∃ m : Int, r = .int .i64 m ∧ -1 ≤ m ∧ m ≤ n ∧ (0 ≤ m → P)
theorem isZ.no {n : Int} {P : Prop} (h : 0 ≤ n) : isZ n P (.int .i64 (-1)) := ⟨-1, rfl, by omega, by omega, by omega⟩
theorem isZ.ty {n : Int} {P : Prop} {r : D} (h : isZ n P r) : HasVT tbl.tab (.one (.c (.int .i64))) r := by obtain ⟨m, rfl, _⟩ := h; rfl
class Sm (α : Type) where
  sm : α → Prop
instance : Sm ByteArray := ⟨fun s => s.size ≤ 1048576⟩
instance {α : Type} [Inhabited α] [Sm α] : Sm (List α) := ⟨fun l => l.length ≤ 1048576 ∧ ∀ k, k < l.length → Sm.sm (nth l k)⟩
theorem sm_str {s : ByteArray} : Sm.sm s ↔ s.size ≤ 1048576 := Iff.rfl
theorem sm_list {α : Type} [Inhabited α] [Sm α] {l : List α} : Sm.sm l ↔ l.length ≤ 1048576 ∧ ∀ k, k < l.length → Sm.sm (nth l k) := Iff.rfl
theorem z_StringS (l : List ByteArray) (n : Int) (h0 : 0 ≤ n) (h1 : n ≤ 1048576) : ∃ r, isZ n (Sm.sm l) r ∧ Fun Tryd.prog 39 none [encS l, .int .i64 n] r [] := by
  refine Fun.exV vc_laws_szStringS_ok rfl ty_laws_szStringS_ok ⟨ty_strS l, rfl, trivial⟩ (.int .i64 (-1)) (isZ.no h0) fun hfit => ?_; unfold vc_laws_szStringS
  have hl : l.length ≤ 9223372036854775807 := fits_encS hfit.1
  have e : arI .sub .i64 n l.length = n - l.length := ar_sub (by omega) (by omega)
  refine den_ite (fun h => ?_) (fun h => ?_)
  · exact ⟨isZ.no h0, rfl⟩
  simp only [E.den, List.map_cons, List.map_nil, List.getD_cons_zero, List.getD_cons_succ, D.toI_int, D.toB_bool, D.toS_str, enc_toA, encS_toR, encS_len, len_str, cmpI_lss, e] at h
  simp at h
  refine den_loop (Int × Nat) (fun s => [.int .i64 s.1, .int .i64 s.2]) (fun s => s.2 ≤ l.length ∧ s.1 ≤ n - l.length ∧ 0 ≤ s.1 ∧ ∀ i, i < s.2 → Sm.sm (nth l i)) (fun s => l.length - s.2) (n - l.length, 0) (fun s s' h => by simp at h; omega) ?_ ⟨by omega, by omega, by omega, by omega⟩ ?_
  · simp only [E.den, List.map_cons, List.map_nil, List.getD_cons_zero, List.getD_cons_succ, D.toI_int, D.toB_bool, D.toS_str, enc_toA, encS_toR, encS_len, len_str, cmpI_lss, e]; rfl
  rintro ⟨m, k⟩ ⟨hk, hm, hm0, hI⟩ -
  simp only at hk hm hm0 hI
  simp only [List.cons_append, List.nil_append]
  refine den_ite (fun h2 => ?_) (fun h2 => ?_)
  · simp [E.den, cmpI] at h2
    refine den_cond (fun hg => ?_) ?_
    · simp [E.den]; omega
    have hs2 := fits_str (fits_nth hfit.1 h2).1
    have e2 : arI .sub .i64 m (nth l k).size = m - (nth l k).size := ar_sub (by omega) (by omega)
    refine den_ite (fun h3 => ?_) (fun h3 => ?_)
    · exact ⟨isZ.no h0, rfl⟩
    simp only [E.den, List.map_cons, List.map_nil, List.getD_cons_zero, List.getD_cons_succ, D.toI_int, D.toB_bool, D.toS_str, enc_toA, encS_toR, encS_len, len_str, cmpI_lss, row_str, cells_str, Int.toNat_natCast, e2] at h3
    simp at h3
    refine ⟨(m - (nth l k).size, k + 1), ?_, ⟨by omega, by omega, by omega, fun i hi => ?_⟩, by omega⟩
    · simp only [E.den, List.map_cons, List.map_nil, List.getD_cons_zero, List.getD_cons_succ, D.toI_int, D.toB_bool, D.toS_str, enc_toA, encS_toR, encS_len, len_str, cmpI_lss, row_str, cells_str, Int.toNat_natCast, e2]; rw [ar_add (by omega) (by omega)]; rfl
    rcases Nat.lt_or_ge i k with h' | h'
    · exact hI i h'
    · obtain rfl : i = k := by omega
      exact sm_str.2 (by omega)
  · simp [E.den, cmpI] at h2
    obtain rfl : k = l.length := by omega
    exact ⟨⟨m, rfl, by omega, by omega, fun _ => sm_list.2 ⟨by omega, hI⟩⟩, rfl⟩
theorem c_laws_toStringS (l : List ByteArray) (hs : l.length ≤ 1048576) : Fun Tryd.prog 44 none [encS l] (encS l) [] := by
  refine Fun.of_callsG (by kernel_rfl) fun w M vs hG hr => ?_
  have hM := hG.1
  obtain ⟨v, q, rfl, hv, rfl⟩ := hr
  have hlen := map_len (n := 1) (fun x => rfl) l
  obtain ⟨a, cap, rfl, hml, hel⟩ := arg_slice hlen hv
  rw [List.length_map] at hml hv ⊢
  have HE := Lib.hid hel
  have HV := Lib.hid hv
  clear hel hv
  have hmk := fun W => run_make_at (P := Tryd.prog) 39 9 (z := .string ⟨#[]⟩) (size := 1) (bytes := 16) Tryd.underlying39 (by kernel_rfl) .i64 .i64 l.length (by omega) (by omega) W
  go_enter Tryd.func44, Tryd.ntmps44
  go_wp2
  go_loopw [4] (fun i wr => Below w.heap.size w wr ∧ ∃ k : Nat, k ≤ l.length ∧ i = .int .i64 k ∧ RowN wr (own M w.heap.size) w.heap.size 9 l.length 1 k (l.map Enc.cells)) (fun i _ => l.length - (intOf i).toNat)
  case atStart => exact ⟨by go_grown, 0, by omega, rfl, RowN.new (Blk.new _ _ _) (by rw [size_madeCells]; exact (Nat.mul_one _).symm)⟩
  case round =>
    obtain ⟨hB, k, hk, rfl, hR⟩ := hrel
    have hBs := hB.size
    have hgl := hR.lt
    by_cases hlt : k < l.length
    · have hrow := get_map l (k := k) (by omega)
      obtain ⟨b, o, us, rfl, hul, hus, hcell⟩ := HE.out k _ hrow
      obtain ⟨u0, rfl⟩ := len_1 hul
      have he0 := cell_keep hB (hcell 0 _ rfl)
      (try simp only [Nat.add_zero, Nat.mul_one] at he0)
      have hi0 : (0 : Int) ≤ (k : Int) := by omega
      have hi1 : (k : Int) < (l.length : Int) := by omega
      have hMw : ∀ p, own M w.heap.size p → p.block < wr.heap.size := fun p hp => by
        rcases hp with hp | hp
        · exact Nat.lt_of_lt_of_le (hM p hp) hB.size
        · omega
      have hus' : Rs wr (own M w.heap.size) (Enc.cells (nth l k)) [u0] := Rs.keep (Keeps.below hB fun p hp h => h.elim id fun e => by omega) _ _ hus
      have hu0 : u0 = .string (nth l k) := by
        obtain ⟨v0, r0, e0, ⟨hv0, _⟩, _⟩ := hus
        cases e0; exact hv0
      subst hu0
      obtain ⟨z0, hz0⟩ := hR.there (i := k) (j := 0) hlt (by decide)
      rw [Nat.mul_one, Nat.add_zero] at hz0
      have hf0 := hR.free k
      go_wp2
      have hx : RowN (setN wr w.heap.size (k * 1) [.string (nth l k)]) (own M w.heap.size) w.heap.size 9 l.length 1 (k + 1) (l.map Enc.cells) := hR.step hlt hrow hlen hus'
      simp only [Nat.mul_one] at hx
      exact ⟨⟨by go_grown, k + 1, by omega, by go_num, hx⟩, by simp [intOf]; omega⟩
    · go_wp2
      go_ret
      obtain rfl : k = l.length := by omega
      exact ⟨_, rfl, hR.done (by simp) hlen (fun p hp h => by have := hM p h; omega) (by unfold maxLen; omega), hB⟩

theorem c_laws_eqStringS (l l' : List ByteArray) : Fun Tryd.prog 49 none [encS l, encS l'] (.bool (decide (l = l'))) [] := by
  refine Fun.ofV vc_laws_eqStringS_ok ty_laws_eqStringS_ok rfl ?_ (fun hfit => ?_)
  · exact ⟨ty_strS l, ty_strS l', trivial⟩
  have hl : l.length ≤ 9223372036854775807 := fits_encS hfit.1
  unfold vc_laws_eqStringS
  refine den_ite (fun h => ?_) (fun h => ?_)
  · simp [E.den, cmpI] at h
    refine den_ret ?_
    have : l ≠ l' := fun e => h (by rw [e])
    simp [E.den, this]
  simp [E.den, cmpI] at h
  have h : l.length = l'.length := by omega
  refine den_for l.length (fun k => [.int .i64 k]) (fun k => ∀ i, i < k → nth l i = nth l' i) rfl (by omega) ?_
  intro k hk hI _
  simp only [List.cons_append, List.nil_append]
  refine den_ite (fun h2 => ?_) (fun h2 => ?_)
  · simp [E.den, cmpI] at h2
    refine den_cond (fun hg => ?_) (den_cond (fun hg => ?_) ?_)
    · simp [E.den]; omega
    · simp [E.den]; omega
    refine den_ite (fun h3 => ?_) (fun h3 => ?_)
    · simp only [E.den, List.map_cons, List.map_nil, List.getD_cons_zero, List.getD_cons_succ, D.toI_int, D.toB_bool, D.toS_str, enc_toA, encS_toR, encS_len, len_str, cmpI_lss, row_str, cells_str, Int.toNat_natCast, cmpS_neq] at h3
      simp at h3
      exact den_ret (by have : l ≠ l' := fun e => h3 (by rw [e])
                        simp [E.den, this])
    simp only [E.den, List.map_cons, List.map_nil, List.getD_cons_zero, List.getD_cons_succ, D.toI_int, D.toB_bool, D.toS_str, enc_toA, encS_toR, encS_len, len_str, cmpI_lss, row_str, cells_str, Int.toNat_natCast, cmpS_neq] at h3
    simp at h3
    refine den_next h2 ?_ fun i hi => ?_
    · simp [E.den]; rw [ar_add (by omega) (by omega)]
    rcases Nat.lt_or_ge i k with h' | h'
    · exact hI i h'
    · obtain rfl : i = k := by omega
      exact h3
  · simp [E.den, cmpI] at h2
    obtain rfl : k = l.length := by omega
    exact den_ret (by simp [E.den, ext_nth h hI])
instance : Sm Layer := ⟨fun x => Sm.sm x.name⟩
theorem sm_Layer {x : Layer} : Sm.sm x ↔ Sm.sm x.name := Iff.rfl
instance : Sm Cell := ⟨fun x => Sm.sm x.key⟩
theorem sm_Cell {x : Cell} : Sm.sm x ↔ Sm.sm x.key := Iff.rfl
instance : Sm Core := ⟨fun x => Sm.sm x.kind ∧ Sm.sm x.cells⟩
theorem sm_Core {x : Core} : Sm.sm x ↔ Sm.sm x.kind ∧ Sm.sm x.cells := Iff.rfl
instance : Sm Call := ⟨fun x => Sm.sm x.method ∧ Sm.sm x.key ∧ Sm.sm x.text⟩
theorem sm_Call {x : Call} : Sm.sm x ↔ Sm.sm x.method ∧ Sm.sm x.key ∧ Sm.sm x.text := Iff.rfl
theorem z_Call (x : Call) (n : Int) (h0 : 0 ≤ n) (h1 : n ≤ 1048576) : ∃ r, isZ n (Sm.sm x) r ∧ Fun Tryd.prog 51 none [enc x, .int .i64 n] r [] := by
  refine Fun.exV vc_laws_szCall_ok rfl ty_laws_szCall_ok ⟨ty_laws_Call x, rfl, trivial⟩ (.int .i64 (-1)) (isZ.no h0) fun hfit => ?_; unfold vc_laws_szCall
  have hf := hfit.1
  simp only [enc, Fits, cells_Call, FitsL] at hf
  have hs0 : x.method.size ≤ 9223372036854775807 := fits_str (by simp only [Fits]; exact hf.1)
  have e0 : arI .sub .i64 n x.method.size = n - x.method.size := ar_sub (by omega) (by omega)
  refine den_ite (fun h => ⟨isZ.no h0, rfl⟩) (fun g0 => ?_)
  simp only [E.den, List.map_cons, List.map_nil, List.getD_cons_zero, List.getD_cons_succ, D.toI_int, D.toB_bool, D.toS_str, enc_toA, encS_toR, encS_len, len_str, cmpI_lss, cells_Call, e0] at g0
  simp at g0
  have hs1 : x.key.size ≤ 9223372036854775807 := fits_str (by simp only [Fits]; exact hf.2.1)
  have e1 : arI .sub .i64 (n - x.method.size) x.key.size = (n - x.method.size) - x.key.size := ar_sub (by omega) (by omega)
  refine den_ite (fun h => ⟨isZ.no h0, rfl⟩) (fun g1 => ?_)
  simp only [E.den, List.map_cons, List.map_nil, List.getD_cons_zero, List.getD_cons_succ, D.toI_int, D.toB_bool, D.toS_str, enc_toA, encS_toR, encS_len, len_str, cmpI_lss, cells_Call, e0, e1] at g1
  simp at g1
  have hs2 : x.text.size ≤ 9223372036854775807 := fits_str (by simp only [Fits]; exact hf.2.2.2.1)
  have e2 : arI .sub .i64 ((n - x.method.size) - x.key.size) x.text.size = ((n - x.method.size) - x.key.size) - x.text.size := ar_sub (by omega) (by omega)
  refine den_ite (fun h => ⟨isZ.no h0, rfl⟩) (fun g2 => ?_)
  simp only [E.den, List.map_cons, List.map_nil, List.getD_cons_zero, List.getD_cons_succ, D.toI_int, D.toB_bool, D.toS_str, enc_toA, encS_toR, encS_len, len_str, cmpI_lss, cells_Call, e0, e1, e2] at g2
  simp at g2
  refine ⟨⟨(((n - x.method.size) - x.key.size) - x.text.size), ?_, by omega, by omega, fun _ => ⟨sm_str.2 (by omega), sm_str.2 (by omega), sm_str.2 (by omega)⟩⟩, rfl⟩
  simp only [E.den, List.map_cons, List.map_nil, List.getD_cons_zero, List.getD_cons_succ, D.toI_int, D.toB_bool, D.toS_str, enc_toA, encS_toR, encS_len, len_str, cmpI_lss, cells_Call, e0, e1, e2]
theorem c_laws_toCall (x : Call) (h : Sm.sm x) : Fun Tryd.prog 54 none [enc x] (enc x) [] := by
  refine Fun.ofV vc_laws_toCall_ok ty_laws_toCall_ok rfl ?_ (fun hfit => ?_)
  · exact ⟨ty_laws_Call x, trivial⟩
  unfold vc_laws_toCall
  exact den_ret (by simp [E.den, cells_Call, enc])
theorem c_laws_eqCall (x y : Call) : Fun Tryd.prog 57 none [enc x, enc y] (.bool (decide (x = y))) [] := by
  refine Fun.ofV vc_laws_eqCall_ok ty_laws_eqCall_ok rfl ?_ (fun hfit => ?_)
  · exact ⟨ty_Call x, ty_Call y, trivial⟩
  have e := eq_Call x y
  unfold vc_laws_eqCall
  refine den_ite (fun h => ?_) (fun h0 => ?_)
  · simp [E.den, cmpI, cmpS_neq, cells_Call] at h
    exact den_ret (by simp [E.den, e, h])
  simp [E.den, cmpI, cmpS_neq, cells_Call] at h0
  refine den_ite (fun h => ?_) (fun h1 => ?_)
  · simp [E.den, cmpI, cmpS_neq, cells_Call] at h
    exact den_ret (by simp [E.den, e, h])
  simp [E.den, cmpI, cmpS_neq, cells_Call] at h1
  refine den_ite (fun h => ?_) (fun h2 => ?_)
  · simp [E.den, cmpI, cmpS_neq, cells_Call] at h
    exact den_ret (by simp [E.den, e, h])
  simp [E.den, cmpI, cmpS_neq, cells_Call] at h2
  refine den_ite (fun h => ?_) (fun h3 => ?_)
  · simp [E.den, cmpI, cmpS_neq, cells_Call] at h
    exact den_ret (by simp [E.den, e, h])
  simp [E.den, cmpI, cmpS_neq, cells_Call] at h3
  exact den_ret (by simp [E.den, e, h0, h1, h2, h3])
instance : Sm Reply := ⟨fun x => Sm.sm x.text⟩
theorem sm_Reply {x : Reply} : Sm.sm x ↔ Sm.sm x.text := Iff.rfl
instance : Sm Part := ⟨fun x => Sm.sm x.core ∧ Sm.sm x.layers⟩
theorem sm_Part {x : Part} : Sm.sm x ↔ Sm.sm x.core ∧ Sm.sm x.layers := Iff.rfl
instance : Sm Ver := ⟨fun x => True⟩
theorem sm_Ver {x : Ver} : Sm.sm x ↔ True := Iff.rfl
theorem c_laws_toVersion (x : Ver) : Fun Tryd.prog 9 none [enc x] (enc x) [] := by
  refine Fun.ofV vc_laws_toVersion_ok ty_laws_toVersion_ok rfl ?_ (fun hfit => ?_)
  · exact ⟨ty_laws_Ver x, trivial⟩
  unfold vc_laws_toVersion
  exact den_ret (by simp [E.den, cells_Ver, enc])
theorem c_laws_eqVersion (x y : Ver) : Fun Tryd.prog 13 none [enc x, enc y] (.bool (decide (x = y))) [] := by
  refine Fun.ofV vc_laws_eqVersion_ok ty_laws_eqVersion_ok rfl ?_ (fun hfit => ?_)
  · exact ⟨ty_Ver x, ty_Ver y, trivial⟩
  have e := eq_Ver x y
  unfold vc_laws_eqVersion
  refine den_ite (fun h => ?_) (fun h0 => ?_)
  · simp [E.den, cmpI, cmpS_neq, cells_Ver] at h
    exact den_ret (by simp [E.den, e, h])
  simp [E.den, cmpI, cmpS_neq, cells_Ver] at h0
  refine den_ite (fun h => ?_) (fun h1 => ?_)
  · simp [E.den, cmpI, cmpS_neq, cells_Ver] at h
    exact den_ret (by simp [E.den, e, h])
  simp [E.den, cmpI, cmpS_neq, cells_Ver] at h1
  exact den_ret (by simp [E.den, e, h0, h1])
instance : Sm Need := ⟨fun x => Sm.sm x.frm⟩
theorem sm_Need {x : Need} : Sm.sm x ↔ Sm.sm x.frm := Iff.rfl
theorem z_Need (x : Need) (n : Int) (h0 : 0 ≤ n) (h1 : n ≤ 1048576) : ∃ r, isZ n (Sm.sm x) r ∧ Fun Tryd.prog 65 none [enc x, .int .i64 n] r [] := by
  refine Fun.exV vc_laws_szNeed_ok rfl ty_laws_szNeed_ok ⟨ty_laws_Need x, rfl, trivial⟩ (.int .i64 (-1)) (isZ.no h0) fun hfit => ?_; unfold vc_laws_szNeed
  have hf := hfit.1
  simp only [enc, Fits, cells_Need, FitsL] at hf
  have hs0 : x.frm.size ≤ 9223372036854775807 := fits_str (by simp only [Fits]; exact hf.2.1)
  have e0 : arI .sub .i64 n x.frm.size = n - x.frm.size := ar_sub (by omega) (by omega)
  refine den_ite (fun h => ⟨isZ.no h0, rfl⟩) (fun g0 => ?_)
  simp only [E.den, List.map_cons, List.map_nil, List.getD_cons_zero, List.getD_cons_succ, D.toI_int, D.toB_bool, D.toS_str, enc_toA, encS_toR, encS_len, len_str, cmpI_lss, cells_Need, e0] at g0
  simp at g0
  refine ⟨⟨(n - x.frm.size), ?_, by omega, by omega, fun _ => sm_str.2 (by omega)⟩, rfl⟩
  simp only [E.den, List.map_cons, List.map_nil, List.getD_cons_zero, List.getD_cons_succ, D.toI_int, D.toB_bool, D.toS_str, enc_toA, encS_toR, encS_len, len_str, cmpI_lss, cells_Need, e0]
theorem z_NeedS (l : List Need) (n : Int) (h0 : 0 ≤ n) (h1 : n ≤ 1048576) : ∃ r, isZ n (Sm.sm l) r ∧ Fun Tryd.prog 40 none [encS l, .int .i64 n] r [] := by
  refine Fun.exV vc_laws_szNeedS_ok rfl ty_laws_szNeedS_ok ⟨ty_laws_NeedS l, rfl, trivial⟩ (.int .i64 (-1)) (isZ.no h0) fun hfit => ?_; unfold vc_laws_szNeedS
  have hl : l.length ≤ 9223372036854775807 := fits_encS hfit.1
  have e : arI .sub .i64 n l.length = n - l.length := ar_sub (by omega) (by omega)
  refine den_ite (fun h => ?_) (fun h => ?_)
  · exact ⟨isZ.no h0, rfl⟩
  simp only [E.den, List.map_cons, List.map_nil, List.getD_cons_zero, List.getD_cons_succ, D.toI_int, D.toB_bool, D.toS_str, enc_toA, encS_toR, encS_len, len_str, cmpI_lss, e] at h
  simp at h
  refine den_loop (Int × Nat) (fun s => [.int .i64 s.1, .int .i64 s.2]) (fun s => s.2 ≤ l.length ∧ s.1 ≤ n - l.length ∧ 0 ≤ s.1 ∧ ∀ i, i < s.2 → Sm.sm (nth l i)) (fun s => l.length - s.2) (n - l.length, 0) (fun s s' h => by simp at h; omega) ?_ ⟨by omega, by omega, by omega, by omega⟩ ?_
  · simp only [E.den, List.map_cons, List.map_nil, List.getD_cons_zero, List.getD_cons_succ, D.toI_int, D.toB_bool, D.toS_str, enc_toA, encS_toR, encS_len, len_str, cmpI_lss, e]; rfl
  rintro ⟨m, k⟩ ⟨hk, hm, hm0, hI⟩ -
  simp only at hk hm hm0 hI
  simp only [List.cons_append, List.nil_append]
  refine den_ite (fun h2 => ?_) (fun h2 => ?_)
  · simp [E.den, cmpI] at h2
    refine den_cond (fun hg => ?_) ?_
    · simp [E.den]; omega
    ((first | refine den_callE ?_ (z_Need (nth l k) m hm0 (by omega)) (fun _ h => isZ.ty h) ?_ | refine den_callRE ?_ (z_Need (nth l k) m hm0 (by omega)) (fun _ h => isZ.ty h) ?_ | refine den_callE ?_ (exR (z_Need (nth l k) m hm0 (by omega))) (fun _ h => isZ.ty h) ?_); (focus (simp only [VC.den, E.den, List.map_cons, List.map_nil, Option.map_none, Option.map_some, List.getD_cons_zero, List.getD_cons_succ, List.cons_append, List.nil_append, List.append_nil, D.toI_int, D.toB_bool, D.toS_str, D.toA_agg, D.toT_tup, D.toR_sl, enc_toA, encS_toR, encS_len, List.drop_succ_cons, List.drop_zero, List.take_succ_cons, List.take_zero, gsH_nil, and_true, row_Need, Int.toNat_natCast]; try exact rfl)); rintro _ ⟨q, rfl, q1, q2, q3⟩; (simp only [List.cons_append, List.nil_append]))
    refine den_ite (fun h3 => ?_) (fun h3 => ?_)
    · exact ⟨isZ.no h0, rfl⟩
    simp only [E.den, List.map_cons, List.map_nil, List.getD_cons_zero, List.getD_cons_succ, D.toI_int, D.toB_bool, D.toS_str, enc_toA, encS_toR, encS_len, len_str, cmpI_lss] at h3
    simp at h3
    refine ⟨(q, k + 1), ?_, ⟨by omega, by omega, h3, fun i hi => ?_⟩, by omega⟩
    · simp only [E.den, List.map_cons, List.map_nil, List.getD_cons_zero, List.getD_cons_succ, D.toI_int, D.toB_bool, D.toS_str, enc_toA, encS_toR, encS_len, len_str, cmpI_lss]; rw [ar_add (by omega) (by omega)]; rfl
    rcases Nat.lt_or_ge i k with h' | h'
    · exact hI i h'
    · obtain rfl : i = k := by omega
      exact q3 h3
  · simp [E.den, cmpI] at h2
    obtain rfl : k = l.length := by omega
    exact ⟨⟨m, rfl, by omega, by omega, fun _ => sm_list.2 ⟨by omega, hI⟩⟩, rfl⟩
theorem c_laws_toNeed (x : Need) (h : Sm.sm x) : Fun Tryd.prog 70 none [enc x] (enc x) [] := by
  refine Fun.ofV vc_laws_toNeed_ok ty_laws_toNeed_ok rfl ?_ (fun hfit => ?_)
  · exact ⟨ty_laws_Need x, trivial⟩
  unfold vc_laws_toNeed
  ((first | refine den_call ?_ (c_laws_toVersion x.least) (ty_Ver _) ?_ | refine den_callR ?_ (c_laws_toVersion x.least) (ty_Ver _) ?_ | refine den_call ?_ (.ofR (c_laws_toVersion x.least)) (ty_Ver _) ?_); (focus (simp only [VC.den, E.den, List.map_cons, List.map_nil, Option.map_none, Option.map_some, List.getD_cons_zero, List.getD_cons_succ, List.cons_append, List.nil_append, List.append_nil, D.toI_int, D.toB_bool, D.toS_str, D.toA_agg, D.toT_tup, D.toR_sl, enc_toA, encS_toR, encS_len, List.drop_succ_cons, List.drop_zero, List.take_succ_cons, List.take_zero, gsH_nil, and_true, cells_Need]; try exact rfl)); (simp only [List.cons_append, List.nil_append]))
  exact den_ret (by simp [E.den, cells_Need, cells_Ver, enc])
theorem c_laws_toNeedS (l : List Need) (hs : l.length ≤ 1048576) (hx : ∀ k, k < l.length → Sm.sm (nth l k)) : Fun Tryd.prog 45 none [encS l] (encS l) [] := by
  refine Fun.of_callsG (by kernel_rfl) fun w M vs hG hr => ?_
  have hM := hG.1
  obtain ⟨v, q, rfl, hv, rfl⟩ := hr
  have hlen := map_len (n := 4) (fun x => rfl) l
  obtain ⟨a, cap, rfl, hml, hel⟩ := arg_slice hlen hv
  rw [List.length_map] at hml hv ⊢
  have HE := Lib.hid hel
  have HV := Lib.hid hv
  clear hel hv
  have hmk := fun W => run_make_at (P := Tryd.prog) 45 77 (z := .agg #[.int .i64 0, .string ⟨#[]⟩, .int .i64 0, .int .i64 0]) (size := 4) (bytes := 40) Tryd.underlying45 (by kernel_rfl) .i64 .i64 l.length (by omega) (by omega) W
  go_enter Tryd.func45, Tryd.ntmps45
  go_wp2
  go_loopw [4] (fun i wr => Below w.heap.size w wr ∧ ∃ k : Nat, k ≤ l.length ∧ i = .int .i64 k ∧ RowN wr (own M w.heap.size) w.heap.size 77 l.length 4 k (l.map Enc.cells)) (fun i _ => l.length - (intOf i).toNat)
  case atStart => exact ⟨by go_grown, 0, by omega, rfl, RowN.new (Blk.new _ _ _) (by rw [size_madeCells])⟩
  case round =>
    obtain ⟨hB, k, hk, rfl, hR⟩ := hrel
    have hBs := hB.size
    have hgl := hR.lt
    by_cases hlt : k < l.length
    · have hrow := get_map l (k := k) (by omega)
      obtain ⟨b, o, us, rfl, hul, hus, hcell⟩ := HE.out k _ hrow
      obtain ⟨u0, u1, u2, u3, rfl⟩ := len_4 hul
      have he0 := cell_keep hB (hcell 0 _ rfl); have he1 := cell_keep hB (hcell 1 _ rfl); have he2 := cell_keep hB (hcell 2 _ rfl); have he3 := cell_keep hB (hcell 3 _ rfl)
      (try simp only [Nat.add_zero, Nat.mul_one] at he0)
      have hi0 : (0 : Int) ≤ (k : Int) := by omega
      have hi1 : (k : Int) < (l.length : Int) := by omega
      have hMw : ∀ p, own M w.heap.size p → p.block < wr.heap.size := fun p hp => by
        rcases hp with hp | hp
        · exact Nat.lt_of_lt_of_le (hM p hp) hB.size
        · omega
      have hus' : Rs wr (own M w.heap.size) [enc (nth l k)] [.agg #[u0, u1, u2, u3]] := Rs.one ⟨_, rfl, Rs.keep (Keeps.below hB fun p hp h => h.elim id fun e => by omega) _ _ hus⟩
      have HC := Lib.hid (fun (w0 : World) (hb : Below wr.heap.size wr w0) => (c_laws_toNeed (nth l k) (hx k hlt)).2 w0 (own M w.heap.size) 0 [.agg #[u0, u1, u2, u3]] (hG.below (bt hB hb) fun p hp => Nat.lt_of_lt_of_le (hMw p hp) hb.size) (Rs.keep (Keeps.below hb fun _ _ h => h) _ _ hus') (fun cs h => by cases h))
      go_wp2_with (go_at_call 70; refine (HC.out _ (by go_grown)).mono ?_; rintro e w1 ⟨v1, rfl, ⟨cs1, rfl, hr1⟩, hb1, -⟩; replace hb1 := hb1.to_below; have hR1 := hR.keep hb1; obtain ⟨y0, y1, y2, y3, hy⟩ := len_4 (show cs1.toList.length = 4 from hr1.length); have hy' : cs1 = #[y0, y1, y2, y3] := (by rw [← Array.toList_inj, hy]); subst hy'; replace hr1 : Rs w1 (own M w.heap.size) (Enc.cells (nth l k)) [y0, y1, y2, y3] := hr1; have hone := cells_one (ty_Need (nth l k)) hr1; have hbk := hR1.blkN; obtain ⟨hst0, hbk0⟩ := hbk.store (P := Tryd.prog) (o := k * 4) (v := y0) (by have := off_lt (n := 4) (j := 0) hlt (by decide); omega) (hone _ (by simp)); obtain ⟨hst1, hbk1⟩ := hbk0.store (P := Tryd.prog) (o := k * 4 + 1) (v := y1) (by have := off_lt (n := 4) (j := 1) hlt (by decide); omega) (hone _ (by simp)); obtain ⟨hst2, hbk2⟩ := hbk1.store (P := Tryd.prog) (o := k * 4 + 2) (v := y2) (by have := off_lt (n := 4) (j := 2) hlt (by decide); omega) (hone _ (by simp)); obtain ⟨hst3, hbk3⟩ := hbk2.store (P := Tryd.prog) (o := k * 4 + 3) (v := y3) (by have := off_lt (n := 4) (j := 3) hlt (by decide); omega) (hone _ (by simp)))
      have hx : RowN (setN w1 w.heap.size (k * 4) [y0, y1, y2, y3]) (own M w.heap.size) w.heap.size 77 l.length 4 (k + 1) (l.map Enc.cells) := hR1.step hlt hrow hlen hr1
      exact ⟨⟨by have h2 := bt hB hb1; go_grown, k + 1, by omega, by go_num, hx⟩, by simp [intOf]; omega⟩
    · go_wp2
      go_ret
      obtain rfl : k = l.length := by omega
      exact ⟨_, rfl, hR.done (by simp) hlen (fun p hp h => by have := hM p h; omega) (by unfold maxLen; omega), hB⟩

theorem c_laws_eqNeed (x y : Need) : Fun Tryd.prog 76 none [enc x, enc y] (.bool (decide (x = y))) [] := by
  refine Fun.ofV vc_laws_eqNeed_ok ty_laws_eqNeed_ok rfl ?_ (fun hfit => ?_)
  · exact ⟨ty_Need x, ty_Need y, trivial⟩
  have e := eq_Need x y
  unfold vc_laws_eqNeed
  refine den_ite (fun h => ?_) (fun h0 => ?_)
  · simp [E.den, cmpI, cmpS_neq, cells_Need] at h
    exact den_ret (by simp [E.den, e, h])
  simp [E.den, cmpI, cmpS_neq, cells_Need] at h0
  refine den_ite (fun h => ?_) (fun h1 => ?_)
  · simp [E.den, cmpI, cmpS_neq, cells_Need] at h
    exact den_ret (by simp [E.den, e, h])
  simp [E.den, cmpI, cmpS_neq, cells_Need] at h1
  ((first | refine den_call ?_ (c_laws_eqVersion x.least y.least) (trivial) ?_ | refine den_callR ?_ (c_laws_eqVersion x.least y.least) (trivial) ?_ | refine den_call ?_ (.ofR (c_laws_eqVersion x.least y.least)) (trivial) ?_); (focus (simp only [VC.den, E.den, List.map_cons, List.map_nil, Option.map_none, Option.map_some, List.getD_cons_zero, List.getD_cons_succ, List.cons_append, List.nil_append, List.append_nil, D.toI_int, D.toB_bool, D.toS_str, D.toA_agg, D.toT_tup, D.toR_sl, enc_toA, encS_toR, encS_len, List.drop_succ_cons, List.drop_zero, List.take_succ_cons, List.take_zero, gsH_nil, and_true, cells_Need]; try exact rfl)); (simp only [List.cons_append, List.nil_append]))
  refine den_ite (fun h => ?_) (fun h2 => ?_)
  · simp [E.den] at h
    exact den_ret (by simp [E.den, e, h])
  simp [E.den] at h2
  exact den_ret (by simp [E.den, e, h0, h1, h2])
theorem c_laws_eqNeedS (l l' : List Need) : Fun Tryd.prog 50 none [encS l, encS l'] (.bool (decide (l = l'))) [] := by
  refine Fun.ofV vc_laws_eqNeedS_ok ty_laws_eqNeedS_ok rfl ?_ (fun hfit => ?_)
  · exact ⟨ty_NeedS l, ty_NeedS l', trivial⟩
  have hl : l.length ≤ 9223372036854775807 := fits_encS hfit.1
  unfold vc_laws_eqNeedS
  refine den_ite (fun h => ?_) (fun h => ?_)
  · simp [E.den, cmpI] at h
    refine den_ret ?_
    have : l ≠ l' := fun e => h (by rw [e])
    simp [E.den, this]
  simp [E.den, cmpI] at h
  have h : l.length = l'.length := by omega
  refine den_for l.length (fun k => [.int .i64 k]) (fun k => ∀ i, i < k → nth l i = nth l' i) rfl (by omega) ?_
  intro k hk hI _
  simp only [List.cons_append, List.nil_append]
  refine den_ite (fun h2 => ?_) (fun h2 => ?_)
  · simp [E.den, cmpI] at h2
    refine den_cond (fun hg => ?_) (den_cond (fun hg => ?_) ?_)
    · simp [E.den]; omega
    · simp [E.den]; omega
    ((first | refine den_call ?_ (c_laws_eqNeed (nth l k) (nth l' k)) (trivial) ?_ | refine den_callR ?_ (c_laws_eqNeed (nth l k) (nth l' k)) (trivial) ?_ | refine den_call ?_ (.ofR (c_laws_eqNeed (nth l k) (nth l' k))) (trivial) ?_); (focus (simp only [VC.den, E.den, List.map_cons, List.map_nil, Option.map_none, Option.map_some, List.getD_cons_zero, List.getD_cons_succ, List.cons_append, List.nil_append, List.append_nil, D.toI_int, D.toB_bool, D.toS_str, D.toA_agg, D.toT_tup, D.toR_sl, enc_toA, encS_toR, encS_len, List.drop_succ_cons, List.drop_zero, List.take_succ_cons, List.take_zero, gsH_nil, and_true, row_Need, Int.toNat_natCast]; try exact rfl)); (simp only [List.cons_append, List.nil_append]))
    refine den_ite (fun h3 => ?_) (fun h3 => ?_)
    · simp [E.den] at h3
      exact den_ret (by have : l ≠ l' := fun e => h3 (by rw [e])
                        simp [E.den, this])
    simp [E.den] at h3
    refine den_next h2 ?_ fun i hi => ?_
    · simp [E.den]; rw [ar_add (by omega) (by omega)]
    rcases Nat.lt_or_ge i k with h' | h'
    · exact hI i h'
    · obtain rfl : i = k := by omega
      exact h3
  · simp [E.den, cmpI] at h2
    obtain rfl : k = l.length := by omega
    exact den_ret (by simp [E.den, ext_nth h hI])
instance : Sm Entry := ⟨fun x => Sm.sm x.name ∧ Sm.sm x.recipe ∧ Sm.sm x.needs⟩
theorem sm_Entry {x : Entry} : Sm.sm x ↔ Sm.sm x.name ∧ Sm.sm x.recipe ∧ Sm.sm x.needs := Iff.rfl
theorem z_Entry (x : Entry) (n : Int) (h0 : 0 ≤ n) (h1 : n ≤ 1048576) : ∃ r, isZ n (Sm.sm x) r ∧ Fun Tryd.prog 20 none [enc x, .int .i64 n] r [] := by
  refine Fun.exV vc_laws_szEntry_ok rfl ty_laws_szEntry_ok ⟨ty_laws_Entry x, rfl, trivial⟩ (.int .i64 (-1)) (isZ.no h0) fun hfit => ?_; unfold vc_laws_szEntry
  have hf := hfit.1
  simp only [enc, Fits, cells_Entry, FitsL] at hf
  have hs0 : x.name.size ≤ 9223372036854775807 := fits_str (by simp only [Fits]; exact hf.1)
  have e0 : arI .sub .i64 n x.name.size = n - x.name.size := ar_sub (by omega) (by omega)
  refine den_ite (fun h => ⟨isZ.no h0, rfl⟩) (fun g0 => ?_)
  simp only [E.den, List.map_cons, List.map_nil, List.getD_cons_zero, List.getD_cons_succ, D.toI_int, D.toB_bool, D.toS_str, enc_toA, encS_toR, encS_len, len_str, cmpI_lss, cells_Entry, e0] at g0
  simp at g0
  ((first | refine den_callE ?_ (z_StringS x.recipe (n - x.name.size) (by omega) (by omega)) (fun _ h => isZ.ty h) ?_ | refine den_callRE ?_ (z_StringS x.recipe (n - x.name.size) (by omega) (by omega)) (fun _ h => isZ.ty h) ?_ | refine den_callE ?_ (exR (z_StringS x.recipe (n - x.name.size) (by omega) (by omega))) (fun _ h => isZ.ty h) ?_); (focus (simp only [VC.den, E.den, List.map_cons, List.map_nil, Option.map_none, Option.map_some, List.getD_cons_zero, List.getD_cons_succ, List.cons_append, List.nil_append, List.append_nil, D.toI_int, D.toB_bool, D.toS_str, D.toA_agg, D.toT_tup, D.toR_sl, enc_toA, encS_toR, encS_len, List.drop_succ_cons, List.drop_zero, List.take_succ_cons, List.take_zero, gsH_nil, and_true, cells_Entry, len_str, e0]; try exact rfl)); rintro _ ⟨m1, rfl, p1, q1, s1⟩; (simp only [List.cons_append, List.nil_append]))
  refine den_ite (fun h => ⟨isZ.no h0, rfl⟩) (fun g1 => ?_)
  simp only [E.den, List.map_cons, List.map_nil, List.getD_cons_zero, List.getD_cons_succ, D.toI_int, D.toB_bool, D.toS_str, enc_toA, encS_toR, encS_len, len_str, cmpI_lss] at g1
  simp at g1
  ((first | refine den_callE ?_ (z_NeedS x.needs m1 (by omega) (by omega)) (fun _ h => isZ.ty h) ?_ | refine den_callRE ?_ (z_NeedS x.needs m1 (by omega) (by omega)) (fun _ h => isZ.ty h) ?_ | refine den_callE ?_ (exR (z_NeedS x.needs m1 (by omega) (by omega))) (fun _ h => isZ.ty h) ?_); (focus (simp only [VC.den, E.den, List.map_cons, List.map_nil, Option.map_none, Option.map_some, List.getD_cons_zero, List.getD_cons_succ, List.cons_append, List.nil_append, List.append_nil, D.toI_int, D.toB_bool, D.toS_str, D.toA_agg, D.toT_tup, D.toR_sl, enc_toA, encS_toR, encS_len, List.drop_succ_cons, List.drop_zero, List.take_succ_cons, List.take_zero, gsH_nil, and_true, cells_Entry, len_str, e0]; try exact rfl)); rintro _ ⟨m2, rfl, p2, q2, s2⟩; (simp only [List.cons_append, List.nil_append]))
  refine den_ite (fun h => ⟨isZ.no h0, rfl⟩) (fun g2 => ?_)
  simp only [E.den, List.map_cons, List.map_nil, List.getD_cons_zero, List.getD_cons_succ, D.toI_int, D.toB_bool, D.toS_str, enc_toA, encS_toR, encS_len, len_str, cmpI_lss] at g2
  simp at g2
  refine ⟨⟨m2, ?_, by omega, by omega, fun _ => ⟨sm_str.2 (by omega), s1 g1, s2 g2⟩⟩, rfl⟩
  simp only [E.den, List.map_cons, List.map_nil, List.getD_cons_zero, List.getD_cons_succ, D.toI_int, D.toB_bool, D.toS_str, enc_toA, encS_toR, encS_len, len_str, cmpI_lss, cells_Entry, e0]
theorem c_laws_toEntry (x : Entry) (h : Sm.sm x) : Fun Tryd.prog 22 none [enc x] (enc x) [] := by
  refine Fun.ofV vc_laws_toEntry_ok ty_laws_toEntry_ok rfl ?_ (fun hfit => ?_)
  · exact ⟨ty_laws_Entry x, trivial⟩
  unfold vc_laws_toEntry
  ((first | refine den_call ?_ (c_laws_toStringS x.recipe (sm_list.1 (h.2.1)).1) (ty_strS _) ?_ | refine den_callR ?_ (c_laws_toStringS x.recipe (sm_list.1 (h.2.1)).1) (ty_strS _) ?_ | refine den_call ?_ (.ofR (c_laws_toStringS x.recipe (sm_list.1 (h.2.1)).1)) (ty_strS _) ?_); (focus (simp only [VC.den, E.den, List.map_cons, List.map_nil, Option.map_none, Option.map_some, List.getD_cons_zero, List.getD_cons_succ, List.cons_append, List.nil_append, List.append_nil, D.toI_int, D.toB_bool, D.toS_str, D.toA_agg, D.toT_tup, D.toR_sl, enc_toA, encS_toR, encS_len, List.drop_succ_cons, List.drop_zero, List.take_succ_cons, List.take_zero, gsH_nil, and_true, cells_Entry]; try exact rfl)); (simp only [List.cons_append, List.nil_append]))
  ((first | refine den_call ?_ (c_laws_toVersion x.ver) (ty_Ver _) ?_ | refine den_callR ?_ (c_laws_toVersion x.ver) (ty_Ver _) ?_ | refine den_call ?_ (.ofR (c_laws_toVersion x.ver)) (ty_Ver _) ?_); (focus (simp only [VC.den, E.den, List.map_cons, List.map_nil, Option.map_none, Option.map_some, List.getD_cons_zero, List.getD_cons_succ, List.cons_append, List.nil_append, List.append_nil, D.toI_int, D.toB_bool, D.toS_str, D.toA_agg, D.toT_tup, D.toR_sl, enc_toA, encS_toR, encS_len, List.drop_succ_cons, List.drop_zero, List.take_succ_cons, List.take_zero, gsH_nil, and_true, cells_Entry]; try exact rfl)); (simp only [List.cons_append, List.nil_append]))
  ((first | refine den_call ?_ (c_laws_toNeedS x.needs (sm_list.1 (h.2.2)).1 (sm_list.1 (h.2.2)).2) (ty_NeedS _) ?_ | refine den_callR ?_ (c_laws_toNeedS x.needs (sm_list.1 (h.2.2)).1 (sm_list.1 (h.2.2)).2) (ty_NeedS _) ?_ | refine den_call ?_ (.ofR (c_laws_toNeedS x.needs (sm_list.1 (h.2.2)).1 (sm_list.1 (h.2.2)).2)) (ty_NeedS _) ?_); (focus (simp only [VC.den, E.den, List.map_cons, List.map_nil, Option.map_none, Option.map_some, List.getD_cons_zero, List.getD_cons_succ, List.cons_append, List.nil_append, List.append_nil, D.toI_int, D.toB_bool, D.toS_str, D.toA_agg, D.toT_tup, D.toR_sl, enc_toA, encS_toR, encS_len, List.drop_succ_cons, List.drop_zero, List.take_succ_cons, List.take_zero, gsH_nil, and_true, cells_Entry]; try exact rfl)); (simp only [List.cons_append, List.nil_append]))
  exact den_ret (by simp [E.den, cells_Entry, cells_Ver, enc])
theorem c_laws_eqEntry (x y : Entry) : Fun Tryd.prog 24 none [enc x, enc y] (.bool (decide (x = y))) [] := by
  refine Fun.ofV vc_laws_eqEntry_ok ty_laws_eqEntry_ok rfl ?_ (fun hfit => ?_)
  · exact ⟨ty_Entry x, ty_Entry y, trivial⟩
  have e := eq_Entry x y
  unfold vc_laws_eqEntry
  refine den_ite (fun h => ?_) (fun h0 => ?_)
  · simp [E.den, cmpI, cmpS_neq, cells_Entry] at h
    exact den_ret (by simp [E.den, e, h])
  simp [E.den, cmpI, cmpS_neq, cells_Entry] at h0
  ((first | refine den_call ?_ (c_laws_eqStringS x.recipe y.recipe) (trivial) ?_ | refine den_callR ?_ (c_laws_eqStringS x.recipe y.recipe) (trivial) ?_ | refine den_call ?_ (.ofR (c_laws_eqStringS x.recipe y.recipe)) (trivial) ?_); (focus (simp only [VC.den, E.den, List.map_cons, List.map_nil, Option.map_none, Option.map_some, List.getD_cons_zero, List.getD_cons_succ, List.cons_append, List.nil_append, List.append_nil, D.toI_int, D.toB_bool, D.toS_str, D.toA_agg, D.toT_tup, D.toR_sl, enc_toA, encS_toR, encS_len, List.drop_succ_cons, List.drop_zero, List.take_succ_cons, List.take_zero, gsH_nil, and_true, cells_Entry]; try exact rfl)); (simp only [List.cons_append, List.nil_append]))
  refine den_ite (fun h => ?_) (fun h1 => ?_)
  · simp [E.den] at h
    exact den_ret (by simp [E.den, e, h])
  simp [E.den] at h1
  ((first | refine den_call ?_ (c_laws_eqVersion x.ver y.ver) (trivial) ?_ | refine den_callR ?_ (c_laws_eqVersion x.ver y.ver) (trivial) ?_ | refine den_call ?_ (.ofR (c_laws_eqVersion x.ver y.ver)) (trivial) ?_); (focus (simp only [VC.den, E.den, List.map_cons, List.map_nil, Option.map_none, Option.map_some, List.getD_cons_zero, List.getD_cons_succ, List.cons_append, List.nil_append, List.append_nil, D.toI_int, D.toB_bool, D.toS_str, D.toA_agg, D.toT_tup, D.toR_sl, enc_toA, encS_toR, encS_len, List.drop_succ_cons, List.drop_zero, List.take_succ_cons, List.take_zero, gsH_nil, and_true, cells_Entry]; try exact rfl)); (simp only [List.cons_append, List.nil_append]))
  refine den_ite (fun h => ?_) (fun h2 => ?_)
  · simp [E.den] at h
    exact den_ret (by simp [E.den, e, h])
  simp [E.den] at h2
  ((first | refine den_call ?_ (c_laws_eqNeedS x.needs y.needs) (trivial) ?_ | refine den_callR ?_ (c_laws_eqNeedS x.needs y.needs) (trivial) ?_ | refine den_call ?_ (.ofR (c_laws_eqNeedS x.needs y.needs)) (trivial) ?_); (focus (simp only [VC.den, E.den, List.map_cons, List.map_nil, Option.map_none, Option.map_some, List.getD_cons_zero, List.getD_cons_succ, List.cons_append, List.nil_append, List.append_nil, D.toI_int, D.toB_bool, D.toS_str, D.toA_agg, D.toT_tup, D.toR_sl, enc_toA, encS_toR, encS_len, List.drop_succ_cons, List.drop_zero, List.take_succ_cons, List.take_zero, gsH_nil, and_true, cells_Entry]; try exact rfl)); (simp only [List.cons_append, List.nil_append]))
  refine den_ite (fun h => ?_) (fun h3 => ?_)
  · simp [E.den] at h
    exact den_ret (by simp [E.den, e, h])
  simp [E.den] at h3
  exact den_ret (by simp [E.den, e, h0, h1, h2, h3])
instance : Sm Event := ⟨fun x => Sm.sm x.name ∧ Sm.sm x.call ∧ Sm.sm x.recipe⟩
theorem sm_Event {x : Event} : Sm.sm x ↔ Sm.sm x.name ∧ Sm.sm x.call ∧ Sm.sm x.recipe := Iff.rfl
theorem z_Event (x : Event) (n : Int) (h0 : 0 ≤ n) (h1 : n ≤ 1048576) : ∃ r, isZ n (Sm.sm x) r ∧ Fun Tryd.prog 25 none [enc x, .int .i64 n] r [] := by
  refine Fun.exV vc_laws_szEvent_ok rfl ty_laws_szEvent_ok ⟨ty_laws_Event x, rfl, trivial⟩ (.int .i64 (-1)) (isZ.no h0) fun hfit => ?_; unfold vc_laws_szEvent
  have hf := hfit.1
  simp only [enc, Fits, cells_Event, FitsL] at hf
  have hs0 : x.name.size ≤ 9223372036854775807 := fits_str (by simp only [Fits]; exact hf.2.1)
  have e0 : arI .sub .i64 n x.name.size = n - x.name.size := ar_sub (by omega) (by omega)
  refine den_ite (fun h => ⟨isZ.no h0, rfl⟩) (fun g0 => ?_)
  simp only [E.den, List.map_cons, List.map_nil, List.getD_cons_zero, List.getD_cons_succ, D.toI_int, D.toB_bool, D.toS_str, enc_toA, encS_toR, encS_len, len_str, cmpI_lss, cells_Event, e0] at g0
  simp at g0
  ((first | refine den_callE ?_ (z_Call x.call (n - x.name.size) (by omega) (by omega)) (fun _ h => isZ.ty h) ?_ | refine den_callRE ?_ (z_Call x.call (n - x.name.size) (by omega) (by omega)) (fun _ h => isZ.ty h) ?_ | refine den_callE ?_ (exR (z_Call x.call (n - x.name.size) (by omega) (by omega))) (fun _ h => isZ.ty h) ?_); (focus (simp only [VC.den, E.den, List.map_cons, List.map_nil, Option.map_none, Option.map_some, List.getD_cons_zero, List.getD_cons_succ, List.cons_append, List.nil_append, List.append_nil, D.toI_int, D.toB_bool, D.toS_str, D.toA_agg, D.toT_tup, D.toR_sl, enc_toA, encS_toR, encS_len, List.drop_succ_cons, List.drop_zero, List.take_succ_cons, List.take_zero, gsH_nil, and_true, cells_Event, len_str, e0]; try exact rfl)); rintro _ ⟨m1, rfl, p1, q1, s1⟩; (simp only [List.cons_append, List.nil_append]))
  refine den_ite (fun h => ⟨isZ.no h0, rfl⟩) (fun g1 => ?_)
  simp only [E.den, List.map_cons, List.map_nil, List.getD_cons_zero, List.getD_cons_succ, D.toI_int, D.toB_bool, D.toS_str, enc_toA, encS_toR, encS_len, len_str, cmpI_lss] at g1
  simp at g1
  ((first | refine den_callE ?_ (z_StringS x.recipe m1 (by omega) (by omega)) (fun _ h => isZ.ty h) ?_ | refine den_callRE ?_ (z_StringS x.recipe m1 (by omega) (by omega)) (fun _ h => isZ.ty h) ?_ | refine den_callE ?_ (exR (z_StringS x.recipe m1 (by omega) (by omega))) (fun _ h => isZ.ty h) ?_); (focus (simp only [VC.den, E.den, List.map_cons, List.map_nil, Option.map_none, Option.map_some, List.getD_cons_zero, List.getD_cons_succ, List.cons_append, List.nil_append, List.append_nil, D.toI_int, D.toB_bool, D.toS_str, D.toA_agg, D.toT_tup, D.toR_sl, enc_toA, encS_toR, encS_len, List.drop_succ_cons, List.drop_zero, List.take_succ_cons, List.take_zero, gsH_nil, and_true, cells_Event, len_str, e0]; try exact rfl)); rintro _ ⟨m2, rfl, p2, q2, s2⟩; (simp only [List.cons_append, List.nil_append]))
  refine den_ite (fun h => ⟨isZ.no h0, rfl⟩) (fun g2 => ?_)
  simp only [E.den, List.map_cons, List.map_nil, List.getD_cons_zero, List.getD_cons_succ, D.toI_int, D.toB_bool, D.toS_str, enc_toA, encS_toR, encS_len, len_str, cmpI_lss] at g2
  simp at g2
  refine ⟨⟨m2, ?_, by omega, by omega, fun _ => ⟨sm_str.2 (by omega), s1 g1, s2 g2⟩⟩, rfl⟩
  simp only [E.den, List.map_cons, List.map_nil, List.getD_cons_zero, List.getD_cons_succ, D.toI_int, D.toB_bool, D.toS_str, enc_toA, encS_toR, encS_len, len_str, cmpI_lss, cells_Event, e0]
theorem c_laws_toEvent (x : Event) (h : Sm.sm x) : Fun Tryd.prog 27 none [enc x] (enc x) [] := by
  refine Fun.ofV vc_laws_toEvent_ok ty_laws_toEvent_ok rfl ?_ (fun hfit => ?_)
  · exact ⟨ty_laws_Event x, trivial⟩
  unfold vc_laws_toEvent
  ((first | refine den_call ?_ (c_laws_toCall x.call (h.2.1)) (ty_Call _) ?_ | refine den_callR ?_ (c_laws_toCall x.call (h.2.1)) (ty_Call _) ?_ | refine den_call ?_ (.ofR (c_laws_toCall x.call (h.2.1))) (ty_Call _) ?_); (focus (simp only [VC.den, E.den, List.map_cons, List.map_nil, Option.map_none, Option.map_some, List.getD_cons_zero, List.getD_cons_succ, List.cons_append, List.nil_append, List.append_nil, D.toI_int, D.toB_bool, D.toS_str, D.toA_agg, D.toT_tup, D.toR_sl, enc_toA, encS_toR, encS_len, List.drop_succ_cons, List.drop_zero, List.take_succ_cons, List.take_zero, gsH_nil, and_true, cells_Event]; try exact rfl)); (simp only [List.cons_append, List.nil_append]))
  ((first | refine den_call ?_ (c_laws_toStringS x.recipe (sm_list.1 (h.2.2)).1) (ty_strS _) ?_ | refine den_callR ?_ (c_laws_toStringS x.recipe (sm_list.1 (h.2.2)).1) (ty_strS _) ?_ | refine den_call ?_ (.ofR (c_laws_toStringS x.recipe (sm_list.1 (h.2.2)).1)) (ty_strS _) ?_); (focus (simp only [VC.den, E.den, List.map_cons, List.map_nil, Option.map_none, Option.map_some, List.getD_cons_zero, List.getD_cons_succ, List.cons_append, List.nil_append, List.append_nil, D.toI_int, D.toB_bool, D.toS_str, D.toA_agg, D.toT_tup, D.toR_sl, enc_toA, encS_toR, encS_len, List.drop_succ_cons, List.drop_zero, List.take_succ_cons, List.take_zero, gsH_nil, and_true, cells_Event]; try exact rfl)); (simp only [List.cons_append, List.nil_append]))
  exact den_ret (by simp [E.den, cells_Event, cells_Call, enc])
theorem c_laws_eqEvent (x y : Event) : Fun Tryd.prog 29 none [enc x, enc y] (.bool (decide (x = y))) [] := by
  refine Fun.ofV vc_laws_eqEvent_ok ty_laws_eqEvent_ok rfl ?_ (fun hfit => ?_)
  · exact ⟨ty_Event x, ty_Event y, trivial⟩
  have e := eq_Event x y
  unfold vc_laws_eqEvent
  refine den_ite (fun h => ?_) (fun h0 => ?_)
  · simp [E.den, cmpI, cmpS_neq, cells_Event] at h
    exact den_ret (by simp [E.den, e, h])
  simp [E.den, cmpI, cmpS_neq, cells_Event] at h0
  refine den_ite (fun h => ?_) (fun h1 => ?_)
  · simp [E.den, cmpI, cmpS_neq, cells_Event] at h
    exact den_ret (by simp [E.den, e, h])
  simp [E.den, cmpI, cmpS_neq, cells_Event] at h1
  ((first | refine den_call ?_ (c_laws_eqCall x.call y.call) (trivial) ?_ | refine den_callR ?_ (c_laws_eqCall x.call y.call) (trivial) ?_ | refine den_call ?_ (.ofR (c_laws_eqCall x.call y.call)) (trivial) ?_); (focus (simp only [VC.den, E.den, List.map_cons, List.map_nil, Option.map_none, Option.map_some, List.getD_cons_zero, List.getD_cons_succ, List.cons_append, List.nil_append, List.append_nil, D.toI_int, D.toB_bool, D.toS_str, D.toA_agg, D.toT_tup, D.toR_sl, enc_toA, encS_toR, encS_len, List.drop_succ_cons, List.drop_zero, List.take_succ_cons, List.take_zero, gsH_nil, and_true, cells_Event]; try exact rfl)); (simp only [List.cons_append, List.nil_append]))
  refine den_ite (fun h => ?_) (fun h2 => ?_)
  · simp [E.den] at h
    exact den_ret (by simp [E.den, e, h])
  simp [E.den] at h2
  ((first | refine den_call ?_ (c_laws_eqStringS x.recipe y.recipe) (trivial) ?_ | refine den_callR ?_ (c_laws_eqStringS x.recipe y.recipe) (trivial) ?_ | refine den_call ?_ (.ofR (c_laws_eqStringS x.recipe y.recipe)) (trivial) ?_); (focus (simp only [VC.den, E.den, List.map_cons, List.map_nil, Option.map_none, Option.map_some, List.getD_cons_zero, List.getD_cons_succ, List.cons_append, List.nil_append, List.append_nil, D.toI_int, D.toB_bool, D.toS_str, D.toA_agg, D.toT_tup, D.toR_sl, enc_toA, encS_toR, encS_len, List.drop_succ_cons, List.drop_zero, List.take_succ_cons, List.take_zero, gsH_nil, and_true, cells_Event]; try exact rfl)); (simp only [List.cons_append, List.nil_append]))
  refine den_ite (fun h => ?_) (fun h3 => ?_)
  · simp [E.den] at h
    exact den_ret (by simp [E.den, e, h])
  simp [E.den] at h3
  exact den_ret (by simp [E.den, e, h0, h1, h2, h3])
end Go.Proofs.YtmhfncdhplmomaaDoor
