/- The laws' helpers: sizes, copies, equality. Written by gen3.py. -/
import Derived.Test.YtmhfncdhplmomaaGreatDoorBRowN
namespace Go.Proofs.YtmhfncdhplmomaaGreatDoor
open Go.RowKit Go
set_option linter.unusedVariables false
set_option linter.unusedSimpArgs false
set_option maxRecDepth 100000
set_option linter.unusedSectionVars false
variable [GC]
/-- What a size helper answers: what is left, and then P; or -1. -/
def isZ (n : Int) (P : Prop) (r : D) : Prop := ∃ m : Int, r = .int .i64 m ∧ -1 ≤ m ∧ m ≤ n ∧ (0 ≤ m → P)
theorem isZ.no {n : Int} {P : Prop} (h : 0 ≤ n) : isZ n P (.int .i64 (-1)) := ⟨-1, rfl, by omega, by omega, by omega⟩
theorem isZ.ty {n : Int} {P : Prop} {r : D} (h : isZ n P r) : HasVT tbl.tab (.one (.c (.int .i64))) r := by obtain ⟨m, rfl, _⟩ := h; rfl
class Sm (α : Type) where
  sm : α → Prop
instance : Sm ByteArray := ⟨fun s => s.size ≤ 1048576⟩
instance {α : Type} [Inhabited α] [Sm α] : Sm (List α) := ⟨fun l => l.length ≤ 1048576 ∧ ∀ k, k < l.length → Sm.sm (nth l k)⟩
theorem sm_str {s : ByteArray} : Sm.sm s ↔ s.size ≤ 1048576 := Iff.rfl
theorem sm_list {α : Type} [Inhabited α] [Sm α] {l : List α} : Sm.sm l ↔ l.length ≤ 1048576 ∧ ∀ k, k < l.length → Sm.sm (nth l k) := Iff.rfl
theorem c_laws_eqStringS (l l' : List ByteArray) : Fun Tryz.prog 68 none [encS l, encS l'] (.bool (decide (l = l'))) [] := by
  refine Fun.ofV vc_laws_eqStringS_ok ty_laws_eqStringS_ok rfl ?_ (fun hfit => ?_)
  · exact ⟨ty_strS l, ty_strS l', trivial⟩
  have hl : l.length ≤ 9223372036854775807 := fits_encS hfit.1
  unfold vc_laws_eqStringS
  refine den_ite (fun h => ?_) (fun h => ?_)
  · simp [E.den, cmpI] at h
    refine den_ret ?_
    have : l ≠ l' := fun e => h (by rw [e])
    simp [E.den, this]
  simp [E.den, cmpI] at h
  have h : l.length = l'.length := by omega
  refine den_for l.length (fun k => [.int .i64 k]) (fun k => ∀ i, i < k → nth l i = nth l' i) rfl (by omega) ?_
  intro k hk hI _
  simp only [List.cons_append, List.nil_append]
  refine den_ite (fun h2 => ?_) (fun h2 => ?_)
  · simp [E.den, cmpI] at h2
    refine den_cond (fun hg => ?_) (den_cond (fun hg => ?_) ?_)
    · simp [E.den]; omega
    · simp [E.den]; omega
    refine den_ite (fun h3 => ?_) (fun h3 => ?_)
    · simp only [E.den, List.map_cons, List.map_nil, List.getD_cons_zero, List.getD_cons_succ, D.toI_int, D.toB_bool, D.toS_str, enc_toA, encS_toR, encS_len, len_str, cmpI_lss, row_str, cells_str, Int.toNat_natCast, cmpS_neq] at h3
      simp at h3
      exact den_ret (by have : l ≠ l' := fun e => h3 (by rw [e])
                        simp [E.den, this])
    simp only [E.den, List.map_cons, List.map_nil, List.getD_cons_zero, List.getD_cons_succ, D.toI_int, D.toB_bool, D.toS_str, enc_toA, encS_toR, encS_len, len_str, cmpI_lss, row_str, cells_str, Int.toNat_natCast, cmpS_neq] at h3
    simp at h3
    refine den_next h2 ?_ fun i hi => ?_
    · simp [E.den]; rw [ar_add (by omega) (by omega)]
    rcases Nat.lt_or_ge i k with h' | h'
    · exact hI i h'
    · obtain rfl : i = k := by omega
      exact h3
  · simp [E.den, cmpI] at h2
    obtain rfl : k = l.length := by omega
    exact den_ret (by simp [E.den, ext_nth h hI])
instance : Sm Layer := ⟨fun x => Sm.sm x.name⟩
theorem sm_Layer {x : Layer} : Sm.sm x ↔ Sm.sm x.name := Iff.rfl
instance : Sm Cell := ⟨fun x => Sm.sm x.key⟩
theorem sm_Cell {x : Cell} : Sm.sm x ↔ Sm.sm x.key := Iff.rfl
instance : Sm Core := ⟨fun x => Sm.sm x.kind ∧ Sm.sm x.cells⟩
theorem sm_Core {x : Core} : Sm.sm x ↔ Sm.sm x.kind ∧ Sm.sm x.cells := Iff.rfl
instance : Sm Call := ⟨fun x => Sm.sm x.method ∧ Sm.sm x.key ∧ Sm.sm x.text⟩
theorem sm_Call {x : Call} : Sm.sm x ↔ Sm.sm x.method ∧ Sm.sm x.key ∧ Sm.sm x.text := Iff.rfl
theorem c_laws_eqCall (x y : Call) : Fun Tryz.prog 67 none [enc x, enc y] (.bool (decide (x = y))) [] := by
  refine Fun.ofV vc_laws_eqCall_ok ty_laws_eqCall_ok rfl ?_ (fun hfit => ?_)
  · exact ⟨ty_Call x, ty_Call y, trivial⟩
  have e := eq_Call x y
  unfold vc_laws_eqCall
  refine den_ite (fun h => ?_) (fun h0 => ?_)
  · simp [E.den, cmpI, cmpS_neq, cells_Call] at h
    exact den_ret (by simp [E.den, e, h])
  simp [E.den, cmpI, cmpS_neq, cells_Call] at h0
  refine den_ite (fun h => ?_) (fun h1 => ?_)
  · simp [E.den, cmpI, cmpS_neq, cells_Call] at h
    exact den_ret (by simp [E.den, e, h])
  simp [E.den, cmpI, cmpS_neq, cells_Call] at h1
  refine den_ite (fun h => ?_) (fun h2 => ?_)
  · simp [E.den, cmpI, cmpS_neq, cells_Call] at h
    exact den_ret (by simp [E.den, e, h])
  simp [E.den, cmpI, cmpS_neq, cells_Call] at h2
  refine den_ite (fun h => ?_) (fun h3 => ?_)
  · simp [E.den, cmpI, cmpS_neq, cells_Call] at h
    exact den_ret (by simp [E.den, e, h])
  simp [E.den, cmpI, cmpS_neq, cells_Call] at h3
  exact den_ret (by simp [E.den, e, h0, h1, h2, h3])
instance : Sm Reply := ⟨fun x => Sm.sm x.text⟩
theorem sm_Reply {x : Reply} : Sm.sm x ↔ Sm.sm x.text := Iff.rfl
instance : Sm Part := ⟨fun x => Sm.sm x.core ∧ Sm.sm x.layers⟩
theorem sm_Part {x : Part} : Sm.sm x ↔ Sm.sm x.core ∧ Sm.sm x.layers := Iff.rfl
instance : Sm Ver := ⟨fun x => True⟩
theorem sm_Ver {x : Ver} : Sm.sm x ↔ True := Iff.rfl
theorem c_laws_eqVersion (x y : Ver) : Fun Tryz.prog 73 none [enc x, enc y] (.bool (decide (x = y))) [] := by
  refine Fun.ofV vc_laws_eqVersion_ok ty_laws_eqVersion_ok rfl ?_ (fun hfit => ?_)
  · exact ⟨ty_Ver x, ty_Ver y, trivial⟩
  have e := eq_Ver x y
  unfold vc_laws_eqVersion
  refine den_ite (fun h => ?_) (fun h0 => ?_)
  · simp [E.den, cmpI, cmpS_neq, cells_Ver] at h
    exact den_ret (by simp [E.den, e, h])
  simp [E.den, cmpI, cmpS_neq, cells_Ver] at h0
  refine den_ite (fun h => ?_) (fun h1 => ?_)
  · simp [E.den, cmpI, cmpS_neq, cells_Ver] at h
    exact den_ret (by simp [E.den, e, h])
  simp [E.den, cmpI, cmpS_neq, cells_Ver] at h1
  exact den_ret (by simp [E.den, e, h0, h1])
instance : Sm Need := ⟨fun x => Sm.sm x.frm⟩
theorem sm_Need {x : Need} : Sm.sm x ↔ Sm.sm x.frm := Iff.rfl
theorem c_laws_eqNeed (x y : Need) : Fun Tryz.prog 108 none [enc x, enc y] (.bool (decide (x = y))) [] := by
  refine Fun.ofV vc_laws_eqNeed_ok ty_laws_eqNeed_ok rfl ?_ (fun hfit => ?_)
  · exact ⟨ty_Need x, ty_Need y, trivial⟩
  have e := eq_Need x y
  unfold vc_laws_eqNeed
  refine den_ite (fun h => ?_) (fun h0 => ?_)
  · simp [E.den, cmpI, cmpS_neq, cells_Need] at h
    exact den_ret (by simp [E.den, e, h])
  simp [E.den, cmpI, cmpS_neq, cells_Need] at h0
  refine den_ite (fun h => ?_) (fun h1 => ?_)
  · simp [E.den, cmpI, cmpS_neq, cells_Need] at h
    exact den_ret (by simp [E.den, e, h])
  simp [E.den, cmpI, cmpS_neq, cells_Need] at h1
  ((first | refine den_call ?_ (c_laws_eqVersion x.least y.least) (trivial) ?_ | refine den_callR ?_ (c_laws_eqVersion x.least y.least) (trivial) ?_ | refine den_call ?_ (.ofR (c_laws_eqVersion x.least y.least)) (trivial) ?_); (focus (simp only [VC.den, E.den, List.map_cons, List.map_nil, Option.map_none, Option.map_some, List.getD_cons_zero, List.getD_cons_succ, List.cons_append, List.nil_append, List.append_nil, D.toI_int, D.toB_bool, D.toS_str, D.toA_agg, D.toT_tup, D.toR_sl, enc_toA, encS_toR, encS_len, List.drop_succ_cons, List.drop_zero, List.take_succ_cons, List.take_zero, gsH_nil, and_true, cells_Need]; try exact rfl)); (simp only [List.cons_append, List.nil_append]))
  refine den_ite (fun h => ?_) (fun h2 => ?_)
  · simp [E.den] at h
    exact den_ret (by simp [E.den, e, h])
  simp [E.den] at h2
  exact den_ret (by simp [E.den, e, h0, h1, h2])
theorem c_laws_eqNeedS (l l' : List Need) : Fun Tryz.prog 74 none [encS l, encS l'] (.bool (decide (l = l'))) [] := by
  refine Fun.ofV vc_laws_eqNeedS_ok ty_laws_eqNeedS_ok rfl ?_ (fun hfit => ?_)
  · exact ⟨ty_NeedS l, ty_NeedS l', trivial⟩
  have hl : l.length ≤ 9223372036854775807 := fits_encS hfit.1
  unfold vc_laws_eqNeedS
  refine den_ite (fun h => ?_) (fun h => ?_)
  · simp [E.den, cmpI] at h
    refine den_ret ?_
    have : l ≠ l' := fun e => h (by rw [e])
    simp [E.den, this]
  simp [E.den, cmpI] at h
  have h : l.length = l'.length := by omega
  refine den_for l.length (fun k => [.int .i64 k]) (fun k => ∀ i, i < k → nth l i = nth l' i) rfl (by omega) ?_
  intro k hk hI _
  simp only [List.cons_append, List.nil_append]
  refine den_ite (fun h2 => ?_) (fun h2 => ?_)
  · simp [E.den, cmpI] at h2
    refine den_cond (fun hg => ?_) (den_cond (fun hg => ?_) ?_)
    · simp [E.den]; omega
    · simp [E.den]; omega
    ((first | refine den_call ?_ (c_laws_eqNeed (nth l k) (nth l' k)) (trivial) ?_ | refine den_callR ?_ (c_laws_eqNeed (nth l k) (nth l' k)) (trivial) ?_ | refine den_call ?_ (.ofR (c_laws_eqNeed (nth l k) (nth l' k))) (trivial) ?_); (focus (simp only [VC.den, E.den, List.map_cons, List.map_nil, Option.map_none, Option.map_some, List.getD_cons_zero, List.getD_cons_succ, List.cons_append, List.nil_append, List.append_nil, D.toI_int, D.toB_bool, D.toS_str, D.toA_agg, D.toT_tup, D.toR_sl, enc_toA, encS_toR, encS_len, List.drop_succ_cons, List.drop_zero, List.take_succ_cons, List.take_zero, gsH_nil, and_true, row_Need, Int.toNat_natCast]; try exact rfl)); (simp only [List.cons_append, List.nil_append]))
    refine den_ite (fun h3 => ?_) (fun h3 => ?_)
    · simp [E.den] at h3
      exact den_ret (by have : l ≠ l' := fun e => h3 (by rw [e])
                        simp [E.den, this])
    simp [E.den] at h3
    refine den_next h2 ?_ fun i hi => ?_
    · simp [E.den]; rw [ar_add (by omega) (by omega)]
    rcases Nat.lt_or_ge i k with h' | h'
    · exact hI i h'
    · obtain rfl : i = k := by omega
      exact h3
  · simp [E.den, cmpI] at h2
    obtain rfl : k = l.length := by omega
    exact den_ret (by simp [E.den, ext_nth h hI])
instance : Sm Entry := ⟨fun x => Sm.sm x.name ∧ Sm.sm x.recipe ∧ Sm.sm x.needs⟩
theorem sm_Entry {x : Entry} : Sm.sm x ↔ Sm.sm x.name ∧ Sm.sm x.recipe ∧ Sm.sm x.needs := Iff.rfl
theorem c_laws_eqEntry (x y : Entry) : Fun Tryz.prog 27 none [enc x, enc y] (.bool (decide (x = y))) [] := by
  refine Fun.ofV vc_laws_eqEntry_ok ty_laws_eqEntry_ok rfl ?_ (fun hfit => ?_)
  · exact ⟨ty_Entry x, ty_Entry y, trivial⟩
  have e := eq_Entry x y
  unfold vc_laws_eqEntry
  refine den_ite (fun h => ?_) (fun h0 => ?_)
  · simp [E.den, cmpI, cmpS_neq, cells_Entry] at h
    exact den_ret (by simp [E.den, e, h])
  simp [E.den, cmpI, cmpS_neq, cells_Entry] at h0
  ((first | refine den_call ?_ (c_laws_eqStringS x.recipe y.recipe) (trivial) ?_ | refine den_callR ?_ (c_laws_eqStringS x.recipe y.recipe) (trivial) ?_ | refine den_call ?_ (.ofR (c_laws_eqStringS x.recipe y.recipe)) (trivial) ?_); (focus (simp only [VC.den, E.den, List.map_cons, List.map_nil, Option.map_none, Option.map_some, List.getD_cons_zero, List.getD_cons_succ, List.cons_append, List.nil_append, List.append_nil, D.toI_int, D.toB_bool, D.toS_str, D.toA_agg, D.toT_tup, D.toR_sl, enc_toA, encS_toR, encS_len, List.drop_succ_cons, List.drop_zero, List.take_succ_cons, List.take_zero, gsH_nil, and_true, cells_Entry]; try exact rfl)); (simp only [List.cons_append, List.nil_append]))
  refine den_ite (fun h => ?_) (fun h1 => ?_)
  · simp [E.den] at h
    exact den_ret (by simp [E.den, e, h])
  simp [E.den] at h1
  ((first | refine den_call ?_ (c_laws_eqVersion x.ver y.ver) (trivial) ?_ | refine den_callR ?_ (c_laws_eqVersion x.ver y.ver) (trivial) ?_ | refine den_call ?_ (.ofR (c_laws_eqVersion x.ver y.ver)) (trivial) ?_); (focus (simp only [VC.den, E.den, List.map_cons, List.map_nil, Option.map_none, Option.map_some, List.getD_cons_zero, List.getD_cons_succ, List.cons_append, List.nil_append, List.append_nil, D.toI_int, D.toB_bool, D.toS_str, D.toA_agg, D.toT_tup, D.toR_sl, enc_toA, encS_toR, encS_len, List.drop_succ_cons, List.drop_zero, List.take_succ_cons, List.take_zero, gsH_nil, and_true, cells_Entry]; try exact rfl)); (simp only [List.cons_append, List.nil_append]))
  refine den_ite (fun h => ?_) (fun h2 => ?_)
  · simp [E.den] at h
    exact den_ret (by simp [E.den, e, h])
  simp [E.den] at h2
  ((first | refine den_call ?_ (c_laws_eqNeedS x.needs y.needs) (trivial) ?_ | refine den_callR ?_ (c_laws_eqNeedS x.needs y.needs) (trivial) ?_ | refine den_call ?_ (.ofR (c_laws_eqNeedS x.needs y.needs)) (trivial) ?_); (focus (simp only [VC.den, E.den, List.map_cons, List.map_nil, Option.map_none, Option.map_some, List.getD_cons_zero, List.getD_cons_succ, List.cons_append, List.nil_append, List.append_nil, D.toI_int, D.toB_bool, D.toS_str, D.toA_agg, D.toT_tup, D.toR_sl, enc_toA, encS_toR, encS_len, List.drop_succ_cons, List.drop_zero, List.take_succ_cons, List.take_zero, gsH_nil, and_true, cells_Entry]; try exact rfl)); (simp only [List.cons_append, List.nil_append]))
  refine den_ite (fun h => ?_) (fun h3 => ?_)
  · simp [E.den] at h
    exact den_ret (by simp [E.den, e, h])
  simp [E.den] at h3
  exact den_ret (by simp [E.den, e, h0, h1, h2, h3])
instance : Sm Event := ⟨fun x => Sm.sm x.name ∧ Sm.sm x.call ∧ Sm.sm x.recipe⟩
theorem sm_Event {x : Event} : Sm.sm x ↔ Sm.sm x.name ∧ Sm.sm x.call ∧ Sm.sm x.recipe := Iff.rfl
theorem c_laws_eqEvent (x y : Event) : Fun Tryz.prog 23 none [enc x, enc y] (.bool (decide (x = y))) [] := by
  refine Fun.ofV vc_laws_eqEvent_ok ty_laws_eqEvent_ok rfl ?_ (fun hfit => ?_)
  · exact ⟨ty_Event x, ty_Event y, trivial⟩
  have e := eq_Event x y
  unfold vc_laws_eqEvent
  refine den_ite (fun h => ?_) (fun h0 => ?_)
  · simp [E.den, cmpI, cmpS_neq, cells_Event] at h
    exact den_ret (by simp [E.den, e, h])
  simp [E.den, cmpI, cmpS_neq, cells_Event] at h0
  refine den_ite (fun h => ?_) (fun h1 => ?_)
  · simp [E.den, cmpI, cmpS_neq, cells_Event] at h
    exact den_ret (by simp [E.den, e, h])
  simp [E.den, cmpI, cmpS_neq, cells_Event] at h1
  ((first | refine den_call ?_ (c_laws_eqCall x.call y.call) (trivial) ?_ | refine den_callR ?_ (c_laws_eqCall x.call y.call) (trivial) ?_ | refine den_call ?_ (.ofR (c_laws_eqCall x.call y.call)) (trivial) ?_); (focus (simp only [VC.den, E.den, List.map_cons, List.map_nil, Option.map_none, Option.map_some, List.getD_cons_zero, List.getD_cons_succ, List.cons_append, List.nil_append, List.append_nil, D.toI_int, D.toB_bool, D.toS_str, D.toA_agg, D.toT_tup, D.toR_sl, enc_toA, encS_toR, encS_len, List.drop_succ_cons, List.drop_zero, List.take_succ_cons, List.take_zero, gsH_nil, and_true, cells_Event]; try exact rfl)); (simp only [List.cons_append, List.nil_append]))
  refine den_ite (fun h => ?_) (fun h2 => ?_)
  · simp [E.den] at h
    exact den_ret (by simp [E.den, e, h])
  simp [E.den] at h2
  ((first | refine den_call ?_ (c_laws_eqStringS x.recipe y.recipe) (trivial) ?_ | refine den_callR ?_ (c_laws_eqStringS x.recipe y.recipe) (trivial) ?_ | refine den_call ?_ (.ofR (c_laws_eqStringS x.recipe y.recipe)) (trivial) ?_); (focus (simp only [VC.den, E.den, List.map_cons, List.map_nil, Option.map_none, Option.map_some, List.getD_cons_zero, List.getD_cons_succ, List.cons_append, List.nil_append, List.append_nil, D.toI_int, D.toB_bool, D.toS_str, D.toA_agg, D.toT_tup, D.toR_sl, enc_toA, encS_toR, encS_len, List.drop_succ_cons, List.drop_zero, List.take_succ_cons, List.take_zero, gsH_nil, and_true, cells_Event]; try exact rfl)); (simp only [List.cons_append, List.nil_append]))
  refine den_ite (fun h => ?_) (fun h3 => ?_)
  · simp [E.den] at h
    exact den_ret (by simp [E.den, e, h])
  simp [E.den] at h3
  exact den_ret (by simp [E.den, e, h0, h1, h2, h3])
end Go.Proofs.YtmhfncdhplmomaaGreatDoor
