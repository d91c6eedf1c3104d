/- Contracts: the names of entries that something holds of; who misses, reaches, needs, is stuck; the links; the order of the start: the program's side. -/
import Derived.Test.YthoafgehfgblaaaBNames
namespace Go.Proofs.Ythoafgehfgblaaa
open Go.RowKit Go
set_option linter.unusedVariables false
set_option linter.unusedSimpArgs false
set_option maxRecDepth 100000
set_option linter.unusedSectionVars false
variable [GC]
theorem nm_snoc (l : List ByteArray) (s : ByteArray) : D.sl (l.map Enc.cells ++ [[.str s]]) = encS (l ++ [s]) := by simp [encS, cells_str]
theorem c_impl_named (l : List Entry) (x : D) (p : Nat → Bool) (hl : l.length ≤ 1048576) (hx : HasVT tbl.tab (.one (.c .fn)) x) (hp : ∀ i : Nat, i < l.length → FunV Try.prog x [.int .i64 i] (.bool (p i))) : FunR Try.prog 62 none [encS l, x] (encS (namesOf l p)) [] [(0, 1)] := by
  refine FunR.ofV vc_impl_named_ok ty_impl_named_ok rt_impl_named_ok rfl ?_ (fun hfit => ?_)
  · exact ⟨ty_EntryS l, hx, trivial⟩
  unfold vc_impl_named
  refine den_for l.length (fun k => [encS (namesTo l p k), .int .i64 k]) (fun _ => True) rfl trivial ?_
  intro k hk _ _
  simp only [List.cons_append, List.nil_append]
  have hlen := namesTo_len l p k
  refine den_ite (fun h2 => ?_) (fun h2 => ?_)
  · simp only [E.den, dEq, iEq, sEq] at h2
    have h2 : k < l.length := by simp at h2; exact h2
    (refine den_cond (fun hg => ?_) ?_; (focus (simp only [gsH, List.mem_cons, List.not_mem_nil, or_false, forall_eq_or_imp, forall_eq, E.den, dEq, iEq, sEq] at hg ⊢; (try simp only [D.bool.injEq] at hg); (try simp only [D.bool.injEq]); grind)))
    refine den_callV rfl rfl (hp k h2) trivial ?_
    simp only [List.cons_append, List.nil_append]
    refine den_ite (fun h3 => ?_) (fun h3 => ?_)
    · simp only [E.den, dEq, iEq, sEq, row_Entry, cells_Entry] at h3
      refine den_cond (fun _ => ?_) ?_
      · simp [E.den]; omega
      refine den_next h2 ?_ trivial
      simp only [E.den, dEq, iEq, sEq, row_Entry, cells_Entry]
      rw [ar_add (by omega) (by omega), namesTo_succ, if_pos h3, nm_snoc]; rfl
    · simp only [E.den, dEq, iEq, sEq, row_Entry, cells_Entry] at h3
      refine den_next h2 ?_ trivial
      simp only [E.den, dEq, iEq, sEq]
      rw [ar_add (by omega) (by omega), namesTo_succ, if_neg (by simpa using h3)]; rfl
  · simp only [E.den, dEq, iEq, sEq] at h2
    obtain rfl : k = l.length := by simp at h2; omega
    exact den_ret (by simp [E.den, namesOf])
/-! What the wiring holds, typed -/
theorem tab_bool : tbl.tab 4 = [.bool] := by kernel_rfl
theorem tab_bools : tbl.tab 71 = [.sl 4] := by kernel_rfl
theorem ty_bRow (n : Nat) (f : Nat → Bool) : HasTy tbl.tab (.sl 4) (bRow n f) := by
  show RowsTy _ (tbl.tab _) _
  rw [tab_bool]
  refine RowsTy.of fun r hr => ?_
  unfold rowsOf at hr
  obtain ⟨a, _, rfl⟩ := List.mem_map.1 hr
  exact ⟨trivial, trivial⟩
theorem ty_bMat (n : Nat) (S : Nat → Nat → Bool) : HasTy tbl.tab (.sl 71) (bMat n S) := by
  show RowsTy _ (tbl.tab _) _
  rw [tab_bools]
  refine RowsTy.of fun r hr => ?_
  unfold rowsOf at hr
  obtain ⟨a, _, rfl⟩ := List.mem_map.1 hr
  exact ⟨ty_bRow _ _, trivial⟩
def wireC (l : List Entry) : List D := [bRow l.length (missS l), bMat l.length (needS l), bMat l.length (reachS l)]
theorem ty_wireC (l : List Entry) : RowTy tbl.tab [.sl 4, .sl 71, .sl 71] (wireC l) := ⟨ty_bRow _ _, ty_bMat _ _, ty_bMat _ _, trivial⟩
theorem ty_wireD (l : List Entry) : HasVT tbl.tab (.one (.agg [.sl 4, .sl 71, .sl 71])) (wireD l) := ty_wireC l
/-! The functions that are handed to it -/
theorem c_impl_MissingOf_1 (l : List Entry) (i : Nat) (hi : i < l.length) : FunC Try.prog 63 [.int .i64 i] [wireC l] (.bool (missS l i)) := by
  refine FunC.ofV vc_impl_MissingOf_1_ok ty_impl_MissingOf_1_ok rfl rfl ?_ (fun hfit hcap => ?_)
  · exact ⟨rfl, ty_wireC l, trivial⟩
  unfold vc_impl_MissingOf_1
  simp only [List.cons_append, List.nil_append, List.map_cons, List.map_nil]
  refine den_cond (fun _ => ?_) (den_ret ?_)
  · simp only [E.den, dEq, iEq, sEq, wireC, bRow_len]; simp; omega
  · simp only [E.den, dEq, iEq, sEq, wireC, bRow_get hi]
theorem c_impl_ReachOf_1 (l : List Entry) (k i : Nat) (hk : k < l.length) (hi : i < l.length) : FunC Try.prog 73 [.int .i64 i] [wireC l, [.int .i64 k]] (.bool (reachS l k i)) := by
  refine FunC.ofV vc_impl_ReachOf_1_ok ty_impl_ReachOf_1_ok rfl rfl ?_ (fun hfit hcap => ?_)
  · exact ⟨rfl, ty_wireC l, ⟨rfl, trivial⟩, trivial⟩
  unfold vc_impl_ReachOf_1
  simp only [List.cons_append, List.nil_append, List.map_cons, List.map_nil]
  refine den_cond (fun _ => ?_) (den_cond (fun _ => ?_) (den_ret ?_))
  · simp only [E.den, dEq, iEq, sEq, wireC, bMat_len]; simp; omega
  · simp only [E.den, dEq, iEq, sEq, wireC, bMat_get hk, bRow_len]; simp; omega
  · simp only [E.den, dEq, iEq, sEq, wireC, bMat_get hk, bRow_get hi]
theorem c_impl_NeedersOf_1 (l : List Entry) (k i : Nat) (hk : k < l.length) (hi : i < l.length) : FunC Try.prog 74 [.int .i64 i] [wireC l, [.int .i64 k]] (.bool (reachS l i k)) := by
  refine FunC.ofV vc_impl_NeedersOf_1_ok ty_impl_NeedersOf_1_ok rfl rfl ?_ (fun hfit hcap => ?_)
  · exact ⟨rfl, ty_wireC l, ⟨rfl, trivial⟩, trivial⟩
  unfold vc_impl_NeedersOf_1
  simp only [List.cons_append, List.nil_append, List.map_cons, List.map_nil]
  refine den_cond (fun _ => ?_) (den_cond (fun _ => ?_) (den_ret ?_))
  · simp only [E.den, dEq, iEq, sEq, wireC, bMat_len]; simp; omega
  · simp only [E.den, dEq, iEq, sEq, wireC, bMat_get hi, bRow_len]; simp; omega
  · simp only [E.den, dEq, iEq, sEq, wireC, bMat_get hi, bRow_get hk]
theorem c_impl_StuckOf_1 (n : Nat) (p : Nat → Bool) (i : Nat) (hi : i < n) : FunC Try.prog 76 [.int .i64 i] [[bRow n p]] (.bool (p i)) := by
  refine FunC.ofV vc_impl_StuckOf_1_ok ty_impl_StuckOf_1_ok rfl rfl ?_ (fun hfit hcap => ?_)
  · exact ⟨rfl, ⟨ty_bRow _ _, trivial⟩, trivial⟩
  unfold vc_impl_StuckOf_1
  simp only [List.cons_append, List.nil_append, List.map_cons, List.map_nil]
  refine den_cond (fun _ => ?_) (den_ret ?_)
  · simp only [E.den, dEq, iEq, sEq, bRow_len]; simp; omega
  · simp only [E.den, dEq, iEq, sEq, bRow_get hi]
theorem c_impl_MissingOf (l : List Entry) (hl : l.length ≤ 1048576) : FunR Try.prog 19 none [encS l] (encS (missN l)) [] [(0, 1)] := by
  refine FunR.ofV vc_impl_MissingOf_ok ty_impl_MissingOf_ok rt_impl_MissingOf_ok rfl ?_ (fun hfit => ?_)
  · exact ⟨ty_EntryS l, trivial⟩
  unfold vc_impl_MissingOf
  ((first | refine den_call ?_ (c_impl_IsRegistry l) (trivial) ?_ | refine den_callR ?_ (c_impl_IsRegistry l) (trivial) ?_ | refine den_call ?_ (.ofR (c_impl_IsRegistry l)) (trivial) ?_); (focus (simp only [VC.den, E.den, dEq, gsH_nil, and_true]; try exact rfl)); (simp only [List.cons_append, List.nil_append]))
  refine den_ite (fun h => ?_) (fun h => ?_)
  · simp only [E.den, dEq, iEq, sEq] at h
    have : regB l = false := by simpa using h
    exact den_ret (by simp [E.den, missN, this, encS])
  simp only [E.den, dEq, iEq, sEq] at h
  have hr : regB l = true := by simpa using h
  ((first | refine den_call ?_ (c_impl_wire l hl) (ty_wireD l) ?_ | refine den_callR ?_ (c_impl_wire l hl) (ty_wireD l) ?_ | refine den_call ?_ (.ofR (c_impl_wire l hl)) (ty_wireD l) ?_); (focus (simp only [VC.den, E.den, dEq, gsH_nil, and_true]; try exact rfl)); (simp only [List.cons_append, List.nil_append]))
  ((first | refine den_call ?_ (c_impl_named l (.fn 63 [wireC l]) (missS l) hl trivial (fun i hi => ⟨_, _, rfl, c_impl_MissingOf_1 l i hi⟩)) (ty_strS _) ?_ | refine den_callR ?_ (c_impl_named l (.fn 63 [wireC l]) (missS l) hl trivial (fun i hi => ⟨_, _, rfl, c_impl_MissingOf_1 l i hi⟩)) (ty_strS _) ?_ | refine den_call ?_ (.ofR (c_impl_named l (.fn 63 [wireC l]) (missS l) hl trivial (fun i hi => ⟨_, _, rfl, c_impl_MissingOf_1 l i hi⟩))) (ty_strS _) ?_); (focus (simp only [VC.den, E.den, dEq, gsH_nil, and_true]; try exact rfl)); (simp only [List.cons_append, List.nil_append]))
  exact den_ret (by simp [E.den, missN, hr])
theorem findI_lt {l : List Entry} {s : ByteArray} : findI l s < 0 ↔ findO l s = none := by
  unfold findI
  split <;> rename_i h <;> simp [h] <;> omega
abbrev rOut (l : List Entry) (k : Nat) : Nat → Bool := reachS l k
abbrev rIn (l : List Entry) (k : Nat) : Nat → Bool := fun i => reachS l i k
theorem c_impl_ReachOf (l : List Entry) (s : ByteArray) (hl : l.length ≤ 1048576) : FunR Try.prog 29 none [encS l, .str s] (encS (reachN l s)) [] [(0, 1)] := by
  refine FunR.ofV vc_impl_ReachOf_ok ty_impl_ReachOf_ok rt_impl_ReachOf_ok rfl ?_ (fun hfit => ?_)
  · exact ⟨ty_EntryS l, trivial, trivial⟩
  unfold vc_impl_ReachOf
  ((first | refine den_call ?_ (c_impl_FindEntry l s) (rfl) ?_ | refine den_callR ?_ (c_impl_FindEntry l s) (rfl) ?_ | refine den_call ?_ (.ofR (c_impl_FindEntry l s)) (rfl) ?_); (focus (simp only [VC.den, E.den, dEq, gsH_nil, and_true]; try exact rfl)); (simp only [List.cons_append, List.nil_append]))
  ((first | refine den_call ?_ (c_impl_IsRegistry l) (trivial) ?_ | refine den_callR ?_ (c_impl_IsRegistry l) (trivial) ?_ | refine den_call ?_ (.ofR (c_impl_IsRegistry l)) (trivial) ?_); (focus (simp only [VC.den, E.den, dEq, gsH_nil, and_true]; try exact rfl)); (simp only [List.cons_append, List.nil_append]))
  refine den_ite (fun h => ?_) (fun h => ?_)
  · simp only [E.den, dEq, iEq, sEq] at h
    refine den_ret ?_
    have h : regB l = false ∨ findI l s < 0 := by simpa using h
    rcases h with h | h
    · simp [E.den, reachN, h, encS]
    · rw [findI_lt] at h
      simp [E.den, reachN, h, encS]
  simp only [E.den, dEq, iEq, sEq] at h
  have h : regB l = true ∧ 0 ≤ findI l s := by simpa using h
  obtain ⟨hr, hf⟩ := h
  cases hfo : findO l s with
  | none =>
    have := findI_lt.2 hfo
    omega
  | some k =>
    have hk := (find_is hfo).1
    have hi : findI l s = (k : Int) := by unfold findI; rw [hfo]
    rw [hi]
    ((first | refine den_call ?_ (c_impl_wire l hl) (ty_wireD l) ?_ | refine den_callR ?_ (c_impl_wire l hl) (ty_wireD l) ?_ | refine den_call ?_ (.ofR (c_impl_wire l hl)) (ty_wireD l) ?_); (focus (simp only [VC.den, E.den, dEq, gsH_nil, and_true]; try exact rfl)); (simp only [List.cons_append, List.nil_append]))
    ((first | refine den_call ?_ (c_impl_named l (.fn 73 [wireC l, [.int .i64 k]]) (rOut l k) hl trivial (fun i hi => ⟨_, _, rfl, c_impl_ReachOf_1 l k i hk hi⟩)) (ty_strS _) ?_ | refine den_callR ?_ (c_impl_named l (.fn 73 [wireC l, [.int .i64 k]]) (rOut l k) hl trivial (fun i hi => ⟨_, _, rfl, c_impl_ReachOf_1 l k i hk hi⟩)) (ty_strS _) ?_ | refine den_call ?_ (.ofR (c_impl_named l (.fn 73 [wireC l, [.int .i64 k]]) (rOut l k) hl trivial (fun i hi => ⟨_, _, rfl, c_impl_ReachOf_1 l k i hk hi⟩))) (ty_strS _) ?_); (focus (simp only [VC.den, E.den, dEq, gsH_nil, and_true]; try exact rfl)); (simp only [List.cons_append, List.nil_append]))
    exact den_ret (by simp [E.den, reachN, hr, hfo])

theorem c_impl_NeedersOf (l : List Entry) (s : ByteArray) (hl : l.length ≤ 1048576) : FunR Try.prog 30 none [encS l, .str s] (encS (needersN l s)) [] [(0, 1)] := by
  refine FunR.ofV vc_impl_NeedersOf_ok ty_impl_NeedersOf_ok rt_impl_NeedersOf_ok rfl ?_ (fun hfit => ?_)
  · exact ⟨ty_EntryS l, trivial, trivial⟩
  unfold vc_impl_NeedersOf
  ((first | refine den_call ?_ (c_impl_FindEntry l s) (rfl) ?_ | refine den_callR ?_ (c_impl_FindEntry l s) (rfl) ?_ | refine den_call ?_ (.ofR (c_impl_FindEntry l s)) (rfl) ?_); (focus (simp only [VC.den, E.den, dEq, gsH_nil, and_true]; try exact rfl)); (simp only [List.cons_append, List.nil_append]))
  ((first | refine den_call ?_ (c_impl_IsRegistry l) (trivial) ?_ | refine den_callR ?_ (c_impl_IsRegistry l) (trivial) ?_ | refine den_call ?_ (.ofR (c_impl_IsRegistry l)) (trivial) ?_); (focus (simp only [VC.den, E.den, dEq, gsH_nil, and_true]; try exact rfl)); (simp only [List.cons_append, List.nil_append]))
  refine den_ite (fun h => ?_) (fun h => ?_)
  · simp only [E.den, dEq, iEq, sEq] at h
    refine den_ret ?_
    have h : regB l = false ∨ findI l s < 0 := by simpa using h
    rcases h with h | h
    · simp [E.den, needersN, h, encS]
    · rw [findI_lt] at h
      simp [E.den, needersN, h, encS]
  simp only [E.den, dEq, iEq, sEq] at h
  have h : regB l = true ∧ 0 ≤ findI l s := by simpa using h
  obtain ⟨hr, hf⟩ := h
  cases hfo : findO l s with
  | none =>
    have := findI_lt.2 hfo
    omega
  | some k =>
    have hk := (find_is hfo).1
    have hi : findI l s = (k : Int) := by unfold findI; rw [hfo]
    rw [hi]
    ((first | refine den_call ?_ (c_impl_wire l hl) (ty_wireD l) ?_ | refine den_callR ?_ (c_impl_wire l hl) (ty_wireD l) ?_ | refine den_call ?_ (.ofR (c_impl_wire l hl)) (ty_wireD l) ?_); (focus (simp only [VC.den, E.den, dEq, gsH_nil, and_true]; try exact rfl)); (simp only [List.cons_append, List.nil_append]))
    ((first | refine den_call ?_ (c_impl_named l (.fn 74 [wireC l, [.int .i64 k]]) (rIn l k) hl trivial (fun i hi => ⟨_, _, rfl, c_impl_NeedersOf_1 l k i hk hi⟩)) (ty_strS _) ?_ | refine den_callR ?_ (c_impl_named l (.fn 74 [wireC l, [.int .i64 k]]) (rIn l k) hl trivial (fun i hi => ⟨_, _, rfl, c_impl_NeedersOf_1 l k i hk hi⟩)) (ty_strS _) ?_ | refine den_call ?_ (.ofR (c_impl_named l (.fn 74 [wireC l, [.int .i64 k]]) (rIn l k) hl trivial (fun i hi => ⟨_, _, rfl, c_impl_NeedersOf_1 l k i hk hi⟩))) (ty_strS _) ?_); (focus (simp only [VC.den, E.den, dEq, gsH_nil, and_true]; try exact rfl)); (simp only [List.cons_append, List.nil_append]))
    exact den_ret (by simp [E.den, needersN, hr, hfo])

end Go.Proofs.Ythoafgehfgblaaa
