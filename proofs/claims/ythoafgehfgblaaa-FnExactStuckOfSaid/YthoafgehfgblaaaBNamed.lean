/- Contracts: the names of entries that something holds of; who misses, reaches, needs, is stuck; the links; the order of the start: the program's side. -/
import Derived.Test.YthoafgehfgblaaaBWireLaw
namespace Go.Proofs.Ythoafgehfgblaaa
open Go.RowKit Go
set_option linter.unusedVariables false
set_option linter.unusedSimpArgs false
set_option maxRecDepth 100000
set_option linter.unusedSectionVars false
variable [GC]
theorem nm_snoc (l : List ByteArray) (s : ByteArray) : D.sl (l.map Enc.cells ++ [[.str s]]) = encS (l ++ [s]) := by simp [encS, cells_str]
theorem c_impl_named (l : List Entry) (x : D) (p : Nat → Bool) (hl : l.length ≤ 1048576) (hx : HasVT tbl.tab (.one (.c .fn)) x) (hp : ∀ i : Nat, i < l.length → FunV Try.prog x [.int .i64 i] (.bool (p i))) : FunR Try.prog 62 none [encS l, x] (encS (namesOf l p)) [] [(0, 1)] := by
  refine FunR.ofV vc_impl_named_ok ty_impl_named_ok rt_impl_named_ok rfl ?_ (fun hfit => ?_)
  · exact ⟨ty_EntryS l, hx, trivial⟩
  unfold vc_impl_named
  refine den_for l.length (fun k => [encS (namesTo l p k), .int .i64 k]) (fun _ => True) rfl trivial ?_
  intro k hk _ _
  simp only [List.cons_append, List.nil_append]
  have hlen := namesTo_len l p k
  refine den_ite (fun h2 => ?_) (fun h2 => ?_)
  · simp only [E.den, dEq, iEq, sEq] at h2
    have h2 : k < l.length := by simp at h2; exact h2
    (refine den_cond (fun hg => ?_) ?_; (focus (simp only [gsH, List.mem_cons, List.not_mem_nil, or_false, forall_eq_or_imp, forall_eq, E.den, dEq, iEq, sEq] at hg ⊢; (try simp only [D.bool.injEq] at hg); (try simp only [D.bool.injEq]); grind)))
    refine den_callV rfl rfl (hp k h2) trivial ?_
    simp only [List.cons_append, List.nil_append]
    refine den_ite (fun h3 => ?_) (fun h3 => ?_)
    · simp only [E.den, dEq, iEq, sEq, row_Entry, cells_Entry] at h3
      refine den_cond (fun _ => ?_) ?_
      · simp [E.den]; omega
      refine den_next h2 ?_ trivial
      simp only [E.den, dEq, iEq, sEq, row_Entry, cells_Entry]
      rw [ar_add (by omega) (by omega), namesTo_succ, if_pos h3, nm_snoc]; rfl
    · simp only [E.den, dEq, iEq, sEq, row_Entry, cells_Entry] at h3
      refine den_next h2 ?_ trivial
      simp only [E.den, dEq, iEq, sEq]
      rw [ar_add (by omega) (by omega), namesTo_succ, if_neg (by simpa using h3)]; rfl
  · simp only [E.den, dEq, iEq, sEq] at h2
    obtain rfl : k = l.length := by simp at h2; omega
    exact den_ret (by simp [E.den, namesOf])
/-! What the wiring holds, typed -/
theorem tab_bool : tbl.tab 4 = [.bool] := by kernel_rfl
theorem tab_bools : tbl.tab 71 = [.sl 4] := by kernel_rfl
theorem ty_bRow (n : Nat) (f : Nat → Bool) : HasTy tbl.tab (.sl 4) (bRow n f) := by
  show RowsTy _ (tbl.tab _) _
  rw [tab_bool]
  refine RowsTy.of fun r hr => ?_
  unfold rowsOf at hr
  obtain ⟨a, _, rfl⟩ := List.mem_map.1 hr
  exact ⟨trivial, trivial⟩
theorem ty_bMat (n : Nat) (S : Nat → Nat → Bool) : HasTy tbl.tab (.sl 71) (bMat n S) := by
  show RowsTy _ (tbl.tab _) _
  rw [tab_bools]
  refine RowsTy.of fun r hr => ?_
  unfold rowsOf at hr
  obtain ⟨a, _, rfl⟩ := List.mem_map.1 hr
  exact ⟨ty_bRow _ _, trivial⟩
def wireC (l : List Entry) : List D := [bRow l.length (missS l), bMat l.length (needS l), bMat l.length (reachS l)]
theorem ty_wireC (l : List Entry) : RowTy tbl.tab [.sl 4, .sl 71, .sl 71] (wireC l) := ⟨ty_bRow _ _, ty_bMat _ _, ty_bMat _ _, trivial⟩
theorem ty_wireD (l : List Entry) : HasVT tbl.tab (.one (.agg [.sl 4, .sl 71, .sl 71])) (wireD l) := ty_wireC l
/-! The functions that are handed to it -/
theorem c_impl_MissingOf_1 (l : List Entry) (i : Nat) (hi : i < l.length) : FunC Try.prog 63 [.int .i64 i] [wireC l] (.bool (missS l i)) := by
  refine FunC.ofV vc_impl_MissingOf_1_ok ty_impl_MissingOf_1_ok rfl rfl ?_ (fun hfit hcap => ?_)
  · exact ⟨rfl, ty_wireC l, trivial⟩
  unfold vc_impl_MissingOf_1
  simp only [List.cons_append, List.nil_append, List.map_cons, List.map_nil]
  refine den_cond (fun _ => ?_) (den_ret ?_)
  · simp only [E.den, dEq, iEq, sEq, wireC, bRow_len]; simp; omega
  · simp only [E.den, dEq, iEq, sEq, wireC, bRow_get hi]
theorem c_impl_ReachOf_1 (l : List Entry) (k i : Nat) (hk : k < l.length) (hi : i < l.length) : FunC Try.prog 73 [.int .i64 i] [wireC l, [.int .i64 k]] (.bool (reachS l k i)) := by
  refine FunC.ofV vc_impl_ReachOf_1_ok ty_impl_ReachOf_1_ok rfl rfl ?_ (fun hfit hcap => ?_)
  · exact ⟨rfl, ty_wireC l, ⟨rfl, trivial⟩, trivial⟩
  unfold vc_impl_ReachOf_1
  simp only [List.cons_append, List.nil_append, List.map_cons, List.map_nil]
  refine den_cond (fun _ => ?_) (den_cond (fun _ => ?_) (den_ret ?_))
  · simp only [E.den, dEq, iEq, sEq, wireC, bMat_len]; simp; omega
  · simp only [E.den, dEq, iEq, sEq, wireC, bMat_get hk, bRow_len]; simp; omega
  · simp only [E.den, dEq, iEq, sEq, wireC, bMat_get hk, bRow_get hi]
theorem c_impl_NeedersOf_1 (l : List Entry) (k i : Nat) (hk : k < l.length) (hi : i < l.length) : FunC Try.prog 74 [.int .i64 i] [wireC l, [.int .i64 k]] (.bool (reachS l i k)) := by
  refine FunC.ofV vc_impl_NeedersOf_1_ok ty_impl_NeedersOf_1_ok rfl rfl ?_ (fun hfit hcap => ?_)
  · exact ⟨rfl, ty_wireC l, ⟨rfl, trivial⟩, trivial⟩
  unfold vc_impl_NeedersOf_1
  simp only [List.cons_append, List.nil_append, List.map_cons, List.map_nil]
  refine den_cond (fun _ => ?_) (den_cond (fun _ => ?_) (den_ret ?_))
  · simp only [E.den, dEq, iEq, sEq, wireC, bMat_len]; simp; omega
  · simp only [E.den, dEq, iEq, sEq, wireC, bMat_get hi, bRow_len]; simp; omega
  · simp only [E.den, dEq, iEq, sEq, wireC, bMat_get hi, bRow_get hk]
theorem c_impl_StuckOf_1 (n : Nat) (p : Nat → Bool) (i : Nat) (hi : i < n) : FunC Try.prog 76 [.int .i64 i] [[bRow n p]] (.bool (p i)) := by
  refine FunC.ofV vc_impl_StuckOf_1_ok ty_impl_StuckOf_1_ok rfl rfl ?_ (fun hfit hcap => ?_)
  · exact ⟨rfl, ⟨ty_bRow _ _, trivial⟩, trivial⟩
  unfold vc_impl_StuckOf_1
  simp only [List.cons_append, List.nil_append, List.map_cons, List.map_nil]
  refine den_cond (fun _ => ?_) (den_ret ?_)
  · simp only [E.den, dEq, iEq, sEq, bRow_len]; simp; omega
  · simp only [E.den, dEq, iEq, sEq, bRow_get hi]
theorem c_impl_MissingOf (l : List Entry) (hl : l.length ≤ 1048576) : FunR Try.prog 19 none [encS l] (encS (missN l)) [] [(0, 1)] := by
  refine FunR.ofV vc_impl_MissingOf_ok ty_impl_MissingOf_ok rt_impl_MissingOf_ok rfl ?_ (fun hfit => ?_)
  · exact ⟨ty_EntryS l, trivial⟩
  unfold vc_impl_MissingOf
  ((first | refine den_call ?_ (c_impl_IsRegistry l) (trivial) ?_ | refine den_callR ?_ (c_impl_IsRegistry l) (trivial) ?_ | refine den_call ?_ (.ofR (c_impl_IsRegistry l)) (trivial) ?_); (focus (simp only [VC.den, E.den, dEq, gsH_nil, and_true]; try exact rfl)); (simp only [List.cons_append, List.nil_append]))
  refine den_ite (fun h => ?_) (fun h => ?_)
  · simp only [E.den, dEq, iEq, sEq] at h
    have : regB l = false := by simpa using h
    exact den_ret (by simp [E.den, missN, this, encS])
  simp only [E.den, dEq, iEq, sEq] at h
  have hr : regB l = true := by simpa using h
  ((first | refine den_call ?_ (c_impl_wire l hl) (ty_wireD l) ?_ | refine den_callR ?_ (c_impl_wire l hl) (ty_wireD l) ?_ | refine den_call ?_ (.ofR (c_impl_wire l hl)) (ty_wireD l) ?_); (focus (simp only [VC.den, E.den, dEq, gsH_nil, and_true]; try exact rfl)); (simp only [List.cons_append, List.nil_append]))
  ((first | refine den_call ?_ (c_impl_named l (.fn 63 [wireC l]) (missS l) hl trivial (fun i hi => ⟨_, _, rfl, c_impl_MissingOf_1 l i hi⟩)) (ty_strS _) ?_ | refine den_callR ?_ (c_impl_named l (.fn 63 [wireC l]) (missS l) hl trivial (fun i hi => ⟨_, _, rfl, c_impl_MissingOf_1 l i hi⟩)) (ty_strS _) ?_ | refine den_call ?_ (.ofR (c_impl_named l (.fn 63 [wireC l]) (missS l) hl trivial (fun i hi => ⟨_, _, rfl, c_impl_MissingOf_1 l i hi⟩))) (ty_strS _) ?_); (focus (simp only [VC.den, E.den, dEq, gsH_nil, and_true]; try exact rfl)); (simp only [List.cons_append, List.nil_append]))
  exact den_ret (by simp [E.den, missN, hr])
theorem findI_lt {l : List Entry} {s : ByteArray} : findI l s < 0 ↔ findO l s = none := by
  unfold findI
  split <;> rename_i h <;> simp [h] <;> omega
abbrev rOut (l : List Entry) (k : Nat) : Nat → Bool := reachS l k
abbrev rIn (l : List Entry) (k : Nat) : Nat → Bool := fun i => reachS l i k
theorem c_impl_ReachOf (l : List Entry) (s : ByteArray) (hl : l.length ≤ 1048576) : FunR Try.prog 29 none [encS l, .str s] (encS (reachN l s)) [] [(0, 1)] := by
  refine FunR.ofV vc_impl_ReachOf_ok ty_impl_ReachOf_ok rt_impl_ReachOf_ok rfl ?_ (fun hfit => ?_)
  · exact ⟨ty_EntryS l, trivial, trivial⟩
  unfold vc_impl_ReachOf
  ((first | refine den_call ?_ (c_impl_FindEntry l s) (rfl) ?_ | refine den_callR ?_ (c_impl_FindEntry l s) (rfl) ?_ | refine den_call ?_ (.ofR (c_impl_FindEntry l s)) (rfl) ?_); (focus (simp only [VC.den, E.den, dEq, gsH_nil, and_true]; try exact rfl)); (simp only [List.cons_append, List.nil_append]))
  ((first | refine den_call ?_ (c_impl_IsRegistry l) (trivial) ?_ | refine den_callR ?_ (c_impl_IsRegistry l) (trivial) ?_ | refine den_call ?_ (.ofR (c_impl_IsRegistry l)) (trivial) ?_); (focus (simp only [VC.den, E.den, dEq, gsH_nil, and_true]; try exact rfl)); (simp only [List.cons_append, List.nil_append]))
  refine den_ite (fun h => ?_) (fun h => ?_)
  · simp only [E.den, dEq, iEq, sEq] at h
    refine den_ret ?_
    have h : regB l = false ∨ findI l s < 0 := by simpa using h
    rcases h with h | h
    · simp [E.den, reachN, h, encS]
    · rw [findI_lt] at h
      simp [E.den, reachN, h, encS]
  simp only [E.den, dEq, iEq, sEq] at h
  have h : regB l = true ∧ 0 ≤ findI l s := by simpa using h
  obtain ⟨hr, hf⟩ := h
  cases hfo : findO l s with
  | none =>
    have := findI_lt.2 hfo
    omega
  | some k =>
    have hk := (find_is hfo).1
    have hi : findI l s = (k : Int) := by unfold findI; rw [hfo]
    rw [hi]
    ((first | refine den_call ?_ (c_impl_wire l hl) (ty_wireD l) ?_ | refine den_callR ?_ (c_impl_wire l hl) (ty_wireD l) ?_ | refine den_call ?_ (.ofR (c_impl_wire l hl)) (ty_wireD l) ?_); (focus (simp only [VC.den, E.den, dEq, gsH_nil, and_true]; try exact rfl)); (simp only [List.cons_append, List.nil_append]))
    ((first | refine den_call ?_ (c_impl_named l (.fn 73 [wireC l, [.int .i64 k]]) (rOut l k) hl trivial (fun i hi => ⟨_, _, rfl, c_impl_ReachOf_1 l k i hk hi⟩)) (ty_strS _) ?_ | refine den_callR ?_ (c_impl_named l (.fn 73 [wireC l, [.int .i64 k]]) (rOut l k) hl trivial (fun i hi => ⟨_, _, rfl, c_impl_ReachOf_1 l k i hk hi⟩)) (ty_strS _) ?_ | refine den_call ?_ (.ofR (c_impl_named l (.fn 73 [wireC l, [.int .i64 k]]) (rOut l k) hl trivial (fun i hi => ⟨_, _, rfl, c_impl_ReachOf_1 l k i hk hi⟩))) (ty_strS _) ?_); (focus (simp only [VC.den, E.den, dEq, gsH_nil, and_true]; try exact rfl)); (simp only [List.cons_append, List.nil_append]))
    exact den_ret (by simp [E.den, reachN, hr, hfo])

theorem c_impl_NeedersOf (l : List Entry) (s : ByteArray) (hl : l.length ≤ 1048576) : FunR Try.prog 30 none [encS l, .str s] (encS (needersN l s)) [] [(0, 1)] := by
  refine FunR.ofV vc_impl_NeedersOf_ok ty_impl_NeedersOf_ok rt_impl_NeedersOf_ok rfl ?_ (fun hfit => ?_)
  · exact ⟨ty_EntryS l, trivial, trivial⟩
  unfold vc_impl_NeedersOf
  ((first | refine den_call ?_ (c_impl_FindEntry l s) (rfl) ?_ | refine den_callR ?_ (c_impl_FindEntry l s) (rfl) ?_ | refine den_call ?_ (.ofR (c_impl_FindEntry l s)) (rfl) ?_); (focus (simp only [VC.den, E.den, dEq, gsH_nil, and_true]; try exact rfl)); (simp only [List.cons_append, List.nil_append]))
  ((first | refine den_call ?_ (c_impl_IsRegistry l) (trivial) ?_ | refine den_callR ?_ (c_impl_IsRegistry l) (trivial) ?_ | refine den_call ?_ (.ofR (c_impl_IsRegistry l)) (trivial) ?_); (focus (simp only [VC.den, E.den, dEq, gsH_nil, and_true]; try exact rfl)); (simp only [List.cons_append, List.nil_append]))
  refine den_ite (fun h => ?_) (fun h => ?_)
  · simp only [E.den, dEq, iEq, sEq] at h
    refine den_ret ?_
    have h : regB l = false ∨ findI l s < 0 := by simpa using h
    rcases h with h | h
    · simp [E.den, needersN, h, encS]
    · rw [findI_lt] at h
      simp [E.den, needersN, h, encS]
  simp only [E.den, dEq, iEq, sEq] at h
  have h : regB l = true ∧ 0 ≤ findI l s := by simpa using h
  obtain ⟨hr, hf⟩ := h
  cases hfo : findO l s with
  | none =>
    have := findI_lt.2 hfo
    omega
  | some k =>
    have hk := (find_is hfo).1
    have hi : findI l s = (k : Int) := by unfold findI; rw [hfo]
    rw [hi]
    ((first | refine den_call ?_ (c_impl_wire l hl) (ty_wireD l) ?_ | refine den_callR ?_ (c_impl_wire l hl) (ty_wireD l) ?_ | refine den_call ?_ (.ofR (c_impl_wire l hl)) (ty_wireD l) ?_); (focus (simp only [VC.den, E.den, dEq, gsH_nil, and_true]; try exact rfl)); (simp only [List.cons_append, List.nil_append]))
    ((first | refine den_call ?_ (c_impl_named l (.fn 74 [wireC l, [.int .i64 k]]) (rIn l k) hl trivial (fun i hi => ⟨_, _, rfl, c_impl_NeedersOf_1 l k i hk hi⟩)) (ty_strS _) ?_ | refine den_callR ?_ (c_impl_named l (.fn 74 [wireC l, [.int .i64 k]]) (rIn l k) hl trivial (fun i hi => ⟨_, _, rfl, c_impl_NeedersOf_1 l k i hk hi⟩)) (ty_strS _) ?_ | refine den_call ?_ (.ofR (c_impl_named l (.fn 74 [wireC l, [.int .i64 k]]) (rIn l k) hl trivial (fun i hi => ⟨_, _, rfl, c_impl_NeedersOf_1 l k i hk hi⟩))) (ty_strS _) ?_); (focus (simp only [VC.den, E.den, dEq, gsH_nil, and_true]; try exact rfl)); (simp only [List.cons_append, List.nil_append]))
    exact den_ret (by simp [E.den, needersN, hr, hfo])

end Go.Proofs.Ythoafgehfgblaaa
/- Contracts: links, who is stuck, the order of the start: the program's side. -/
namespace Go.Proofs.Ythoafgehfgblaaa
open Go.RowKit Go
set_option linter.unusedVariables false
set_option linter.unusedSimpArgs false
set_option maxRecDepth 100000
set_option linter.unusedSectionVars false
variable [GC]
theorem prov_some {l : List Entry} {i j c : Nat} (h : prv l i j = some c) : provI l (nth l i).name (nth (nth l i).needs j) = c := by
  unfold provI
  rw [show provO l (nth l i).name (nth (nth l i).needs j) = some c from h]
theorem prov_none {l : List Entry} {i j : Nat} (h : prv l i j = none) : provI l (nth l i).name (nth (nth l i).needs j) = -1 := by
  unfold provI
  rw [show provO l (nth l i).name (nth (nth l i).needs j) = none from h]
theorem provN_some {l : List Entry} {i j c : Nat} (h : prv l i j = some c) : provN l (nth l i).name (nth (nth l i).needs j) = (nth l c).name := by
  unfold provN
  rw [show provO l (nth l i).name (nth (nth l i).needs j) = some c from h]
theorem provN_none {l : List Entry} {i j : Nat} (h : prv l i j = none) : provN l (nth l i).name (nth (nth l i).needs j) = noText := by
  unfold provN
  rw [show provO l (nth l i).name (nth (nth l i).needs j) = none from h]
theorem links_some {l : List Entry} {i j c : Nat} (h : prv l i j = some c) : linksOne l i (j + 1) = linksOne l i j ++ [⟨(nth l i).name, (nth l c).name, (nth (nth l i).needs j).face⟩] := by
  rw [linksOne_succ]
  unfold linkAt
  rw [h]
  rfl
theorem links_none {l : List Entry} {i j : Nat} (h : prv l i j = none) : linksOne l i (j + 1) = linksOne l i j := by
  rw [linksOne_succ]
  unfold linkAt
  rw [h]
  simp
theorem links_few {l : List Entry} (hr : regB l = true) {i : Nat} (hi : i < l.length) (j : Nat) (hj : j ≤ (nth l i).needs.length) : (linksTo l i ++ linksOne l i j).length ≤ 100 := by
  have h1 := linksTo_len hr i (by omega)
  have h2 := linksOne_len l i j
  have h3 := reg_needs hr hi
  have h4 := (reg_parts hr).1
  rw [List.length_append]; omega
theorem link_snoc (a : List Link) (x : Link) (q : List Link) : D.sl (a.map Enc.cells ++ [[.str x.frm, .str x.to, .int .i64 x.face]]) = encS (a ++ [x]) := by simp [encS, cells_Link]
theorem c_impl_LinksOf (l : List Entry) : FunR Try.prog 22 none [encS l] (encS (linksL l)) [] [(0, 3)] := by
  refine FunR.ofV vc_impl_LinksOf_ok ty_impl_LinksOf_ok rt_impl_LinksOf_ok rfl ?_ (fun hfit => ?_)
  · exact ⟨ty_EntryS l, trivial⟩
  unfold vc_impl_LinksOf
  ((first | refine den_call ?_ (c_impl_IsRegistry l) (trivial) ?_ | refine den_callR ?_ (c_impl_IsRegistry l) (trivial) ?_ | refine den_call ?_ (.ofR (c_impl_IsRegistry l)) (trivial) ?_); (focus (simp only [VC.den, E.den, dEq, gsH_nil, and_true]; try exact rfl)); (simp only [List.cons_append, List.nil_append]))
  refine den_ite (fun h => ?_) (fun h => ?_)
  · simp only [E.den, dEq, iEq, sEq] at h
    have : regB l = false := by simpa using h
    exact den_ret (by simp [E.den, linksL, this, encS])
  simp only [E.den, dEq, iEq, sEq] at h
  have hr : regB l = true := by simpa using h
  have h6 := (reg_parts hr).1
  refine den_for l.length (fun i => [encS (linksTo l i), .int .i64 i]) (fun _ => True) rfl trivial ?_
  intro i hi _ _
  simp only [List.cons_append, List.nil_append]
  refine den_ite (fun h2 => ?_) (fun h2 => ?_)
  · simp only [E.den, dEq, iEq, sEq] at h2
    have h2 : i < l.length := by simp at h2; exact h2
    have h3n := reg_needs hr h2
    (refine den_cond (fun hg => ?_) ?_; (focus (simp only [gsH, List.mem_cons, List.not_mem_nil, or_false, forall_eq_or_imp, forall_eq, E.den, dEq, iEq, sEq] at hg ⊢; (try simp only [D.bool.injEq] at hg); (try simp only [D.bool.injEq]); grind)))
    refine den_for (nth l i).needs.length (fun j => [encS (linksTo l i ++ linksOne l i j), .int .i64 j]) (fun _ => True) ?_ trivial ?_
    · simp only [E.den, dEq, iEq, sEq]; simp [linksOne]
    intro j hj _ _
    simp only [List.cons_append, List.nil_append]
    have hfew := links_few hr h2 j hj
    refine den_ite (fun h3 => ?_) (fun h3 => ?_)
    · simp only [E.den, dEq, iEq, sEq, row_Entry, cells_Entry] at h3
      have h3 : j < (nth l i).needs.length := by simp at h3; exact h3
      (refine den_cond (fun hg => ?_) ?_; (focus (simp only [gsH, List.mem_cons, List.not_mem_nil, or_false, forall_eq_or_imp, forall_eq, E.den, dEq, iEq, sEq, row_Entry, cells_Entry] at hg ⊢; (try simp only [D.bool.injEq] at hg); (try simp only [D.bool.injEq]); grind)))
      ((first | refine den_call ?_ (c_impl_provider l (nth l i).name (nth (nth l i).needs j)) (rfl) ?_ | refine den_callR ?_ (c_impl_provider l (nth l i).name (nth (nth l i).needs j)) (rfl) ?_ | refine den_call ?_ (.ofR (c_impl_provider l (nth l i).name (nth (nth l i).needs j))) (rfl) ?_); (focus (simp only [VC.den, E.den, dEq, gsH_nil, and_true, row_Entry, cells_Entry, row_Need, Int.toNat_natCast]; try exact rfl)); (simp only [List.cons_append, List.nil_append]))
      cases hc : prv l i j with
      | none =>
        rw [prov_none hc]
        refine den_ite (fun h4 => ?_) (fun h4 => ?_)
        · simp only [E.den, dEq, iEq, sEq] at h4
          simp at h4
        refine den_next h3 ?_ trivial
        simp only [E.den, dEq, iEq, sEq]
        rw [ar_add (by omega) (by omega), links_none hc]; rfl
      | some c =>
        rw [prov_some hc]
        have hcl := prv_lt hc
        refine den_ite (fun h4 => ?_) (fun h4 => ?_)
        · refine den_cond (fun _ => ?_) ?_
          · simp only [E.den, dEq, iEq, sEq]; simp; (try omega)
          refine den_cond (fun _ => ?_) ?_
          · simp [E.den]; simp at hfew; omega
          refine den_next h3 ?_ trivial
          simp only [E.den, dEq, iEq, sEq, row_Entry, cells_Entry, row_Need, cells_Need]
          rw [ar_add (by omega) (by omega), links_some hc, ← List.append_assoc, ← link_snoc _ _ []]; rfl
        · simp only [E.den, dEq, iEq, sEq] at h4
          simp at h4 <;> omega
    · simp only [E.den, dEq, iEq, sEq, row_Entry, cells_Entry] at h3
      obtain rfl : j = (nth l i).needs.length := by simp at h3; omega
      refine den_next1 h2 ?_ trivial
      simp only [E.den, dEq, iEq, sEq]
      rw [ar_add (by omega) (by omega), linksTo_succ]; rfl
  · simp only [E.den, dEq, iEq, sEq] at h2
    obtain rfl : i = l.length := by simp at h2; omega
    exact den_ret (by simp [E.den, linksL, hr])
theorem den_next1' {P : Program} {tab : Nat → List CT} {env : List D} {Q : D → List D → Prop} {L : List (List D → Prop)} {r : List D → Prop} {es : List E} {xs : List D} {p q : Prop}
    (hp : p) (h : es.map (·.den env) = xs) (hq : q) : (VC.again 1 es).den P tab env Q (r :: (fun ys => p ∧ ys = xs ∧ q) :: L) := ⟨hp, h, hq⟩
def stuckTo (l : List Entry) (i j : Nat) : Bool := badS l i || anyT (fun j => reachS l i j && badS l j) j
def sF (l : List Entry) (i a : Nat) : Bool := decide (a < i) && stuckS l a
def sG (l : List Entry) (i j a : Nat) : Bool := if a < i then stuckS l a else if a = i then stuckTo l i j else false
theorem c_impl_stuck (l : List Entry) (hl : l.length ≤ 1048576) : FunR Try.prog 75 none [wireD l] (bRow l.length (stuckS l)) [] [(0, 1)] := by
  refine FunR.ofV vc__impl_wiring__stuck_ok ty__impl_wiring__stuck_ok rt__impl_wiring__stuck_ok rfl ?_ (fun hfit => ?_)
  · exact ⟨ty_wireD l, trivial⟩
  unfold vc__impl_wiring__stuck
  refine den_cond (fun _ => ?_) ?_
  · simp only [E.den, dEq, iEq, sEq, wireD, bRow_len]; simp; omega
  refine den_for l.length (fun i => [.int .i64 i, bRow l.length (sF l i)]) (fun _ => True) ?_ trivial ?_
  · simp only [E.den, dEq, iEq, sEq, wireD, bRow_len, zeroD]
    simp only [Int.toNat_natCast, List.map_cons, List.map_nil, zeroD, rowsOf_rep]
    rw [show bRow l.length (sF l 0) = bRow l.length (fun _ => false) from bRow_congr fun a _ => by simp [sF]]
    rfl
  intro i hi _ _
  simp only [List.cons_append, List.nil_append]
  refine den_ite (fun h2 => ?_) (fun h2 => ?_)
  · simp only [E.den, dEq, iEq, sEq, wireD, bRow_len, lenD_mem] at h2
    have h2 : i < l.length := by simp at h2; exact h2
    refine den_cond (fun _ => ?_) (den_cond (fun _ => ?_) (den_cond (fun _ => ?_) (den_cond (fun _ => ?_) ?_)))
    · simp only [E.den, dEq, iEq, sEq, wireD, bRow_len]; simp; omega
    · simp only [E.den, dEq, iEq, sEq, wireD, bMat_len]; simp; omega
    · simp only [E.den, dEq, iEq, sEq, wireD, bMat_get h2, bRow_len]; simp; omega
    · simp only [E.den, dEq, iEq, sEq, wireD, bRow_len, lenD_mem]; simp; omega
    refine den_for l.length (fun j => [.int .i64 j, bRow l.length (sG l i j)]) (fun _ => True) ?_ trivial ?_
    · simp only [E.den, dEq, iEq, sEq, wireD, bRow_get h2, bMat_get h2, bRow_upd]
      rw [show bRow l.length (sG l i 0) = bRow l.length (fun a => if a = i then missS l i || reachS l i i else sF l i a) from bRow_congr fun a _ => by
        unfold sG sF
        by_cases e : a = i
        · subst e; simp [stuckTo, badS, anyT]
        · by_cases e2 : a < i <;> simp [e, e2]]
      rfl
    intro j hj _ _
    simp only [List.cons_append, List.nil_append]
    refine den_ite (fun h3 => ?_) (fun h3 => ?_)
    · simp only [E.den, dEq, iEq, sEq, wireD, bRow_len, lenD_mem] at h3
      have h3 : j < l.length := by simp at h3; exact h3
      refine den_cond (fun _ => ?_) (den_cond (fun _ => ?_) (den_cond (fun _ => ?_) (den_cond (fun _ => ?_) (den_cond (fun _ => ?_) (den_cond (fun _ => ?_) (den_cond (fun _ => ?_) ?_))))))
      · simp only [E.den, dEq, iEq, sEq, wireD, bRow_len, lenD_mem]; simp; omega
      · simp only [E.den, dEq, iEq, sEq, wireD, bMat_len]; simp; omega
      · simp only [E.den, dEq, iEq, sEq, wireD, bMat_get h2, bRow_len]; simp; omega
      · simp only [E.den, dEq, iEq, sEq, wireD, bRow_len]; simp; omega
      · simp only [E.den, dEq, iEq, sEq, wireD, bMat_len]; simp; omega
      · simp only [E.den, dEq, iEq, sEq, wireD, bMat_get h3, bRow_len]; simp; omega
      · simp only [E.den, dEq, iEq, sEq, wireD, bRow_len, lenD_mem]; simp; omega
      refine den_next h3 ?_ trivial
      simp only [E.den, dEq, iEq, sEq, wireD, bRow_get h2, bRow_get h3, bMat_get h2, bMat_get h3, bRow_upd]
      rw [ar_add (by omega) (by omega), show bRow l.length (sG l i (j + 1)) = bRow l.length (fun a => if a = i then sG l i j i || (reachS l i j && (missS l j || reachS l j j)) else sG l i j a) from bRow_congr fun a _ => by
        unfold sG
        by_cases e : a = i
        · subst e; simp [stuckTo, badS, anyT, Bool.or_assoc]
        · simp [e]]
      rfl
    · simp only [E.den, dEq, iEq, sEq, wireD, bRow_len, lenD_mem] at h3
      obtain rfl : j = l.length := by simp at h3; omega
      refine den_next1 h2 ?_ trivial
      simp only [E.den, dEq, iEq, sEq]
      rw [ar_add (by omega) (by omega), show bRow l.length (sG l i l.length) = bRow l.length (sF l (i + 1)) from bRow_congr fun a _ => by
        unfold sG sF
        by_cases e : a = i
        · subst e; simp [stuckTo, stuckS]
        · have : a < i + 1 ↔ a < i := by omega
          by_cases e2 : a < i <;> simp [e, e2, this]]
      rfl
  · simp only [E.den, dEq, iEq, sEq, wireD, bRow_len, lenD_mem] at h2
    obtain rfl : i = l.length := by simp at h2; omega
    exact den_ret (by simp only [E.den, dEq, iEq, sEq]; exact bRow_congr fun a ha => by simp [sF, ha])
theorem c_impl_StuckOf (l : List Entry) (hl : l.length ≤ 1048576) : FunR Try.prog 32 none [encS l] (encS (stuckN l)) [] [(0, 1)] := by
  refine FunR.ofV vc_impl_StuckOf_ok ty_impl_StuckOf_ok rt_impl_StuckOf_ok rfl ?_ (fun hfit => ?_)
  · exact ⟨ty_EntryS l, trivial⟩
  unfold vc_impl_StuckOf
  ((first | refine den_call ?_ (c_impl_IsRegistry l) (trivial) ?_ | refine den_callR ?_ (c_impl_IsRegistry l) (trivial) ?_ | refine den_call ?_ (.ofR (c_impl_IsRegistry l)) (trivial) ?_); (focus (simp only [VC.den, E.den, dEq, gsH_nil, and_true]; try exact rfl)); (simp only [List.cons_append, List.nil_append]))
  refine den_ite (fun h => ?_) (fun h => ?_)
  · simp only [E.den, dEq, iEq, sEq] at h
    have : regB l = false := by simpa using h
    exact den_ret (by simp [E.den, stuckN, this, encS])
  simp only [E.den, dEq, iEq, sEq] at h
  have hr : regB l = true := by simpa using h
  ((first | refine den_call ?_ (c_impl_wire l hl) (ty_wireD l) ?_ | refine den_callR ?_ (c_impl_wire l hl) (ty_wireD l) ?_ | refine den_call ?_ (.ofR (c_impl_wire l hl)) (ty_wireD l) ?_); (focus (simp only [VC.den, E.den, dEq, gsH_nil, and_true]; try exact rfl)); (simp only [List.cons_append, List.nil_append]))
  ((first | refine den_call ?_ (c_impl_stuck l hl) (ty_bRow _ _) ?_ | refine den_callR ?_ (c_impl_stuck l hl) (ty_bRow _ _) ?_ | refine den_call ?_ (.ofR (c_impl_stuck l hl)) (ty_bRow _ _) ?_); (focus (simp only [VC.den, E.den, dEq, gsH_nil, and_true]; try exact rfl)); (simp only [List.cons_append, List.nil_append]))
  ((first | refine den_call ?_ (c_impl_named l (.fn 76 [[bRow l.length (stuckS l)]]) (stuckS l) hl trivial (fun i hi => ⟨_, _, rfl, c_impl_StuckOf_1 _ _ i hi⟩)) (ty_strS _) ?_ | refine den_callR ?_ (c_impl_named l (.fn 76 [[bRow l.length (stuckS l)]]) (stuckS l) hl trivial (fun i hi => ⟨_, _, rfl, c_impl_StuckOf_1 _ _ i hi⟩)) (ty_strS _) ?_ | refine den_call ?_ (.ofR (c_impl_named l (.fn 76 [[bRow l.length (stuckS l)]]) (stuckS l) hl trivial (fun i hi => ⟨_, _, rfl, c_impl_StuckOf_1 _ _ i hi⟩))) (ty_strS _) ?_); (focus (simp only [VC.den, E.den, dEq, gsH_nil, and_true]; try exact rfl)); (simp only [List.cons_append, List.nil_append]))
  exact den_ret (by simp [E.den, stuckN, hr])
/-! The order of the start -/
def nx (l : List Entry) (o : List Nat) (i : Nat) : Int := match firstTo (readyB l o) i with | some j => j | none => -1
theorem nmL_snoc (l : List Entry) (o : List Nat) (j : Nat) : nmL l (o ++ [j]) = nmL l o ++ [(nth l j).name] := by simp [nmL]
theorem nmL_len (l : List Entry) (o : List Nat) : (nmL l o).length = o.length := by simp [nmL]
theorem nx_succ (l : List Entry) (o : List Nat) (i : Nat) : nx l o (i + 1) = if nx l o i < 0 ∧ readyB l o i = true then (i : Int) else nx l o i := by
  unfold nx
  rw [firstTo]
  cases h : firstTo (readyB l o) i with
  | some j => simp; omega
  | none => cases hb : readyB l o i <;> simp
theorem c_impl_StartOrder (l : List Entry) (hl : l.length ≤ 1048576) : FunR Try.prog 31 none [encS l] (encS (ordN l)) [] [(0, 1)] := by
  refine FunR.ofV vc_impl_StartOrder_ok ty_impl_StartOrder_ok rt_impl_StartOrder_ok rfl ?_ (fun hfit => ?_)
  · exact ⟨ty_EntryS l, trivial⟩
  unfold vc_impl_StartOrder
  ((first | refine den_call ?_ (c_impl_IsRegistry l) (trivial) ?_ | refine den_callR ?_ (c_impl_IsRegistry l) (trivial) ?_ | refine den_call ?_ (.ofR (c_impl_IsRegistry l)) (trivial) ?_); (focus (simp only [VC.den, E.den, dEq, gsH_nil, and_true]; try exact rfl)); (simp only [List.cons_append, List.nil_append]))
  refine den_ite (fun h => ?_) (fun h => ?_)
  · simp only [E.den, dEq, iEq, sEq] at h
    have : regB l = false := by simpa using h
    exact den_ret (by simp [E.den, ordN, this, encS])
  simp only [E.den, dEq, iEq, sEq] at h
  have hr : regB l = true := by simpa using h
  ((first | refine den_call ?_ (c_impl_wire l hl) (ty_wireD l) ?_ | refine den_callR ?_ (c_impl_wire l hl) (ty_wireD l) ?_ | refine den_call ?_ (.ofR (c_impl_wire l hl)) (ty_wireD l) ?_); (focus (simp only [VC.den, E.den, dEq, gsH_nil, and_true]; try exact rfl)); (simp only [List.cons_append, List.nil_append]))
  refine den_cond (fun _ => ?_) ?_
  · simp only [E.den, dEq, iEq, sEq]; simp; omega
  refine den_loop (List Nat) (fun o => [encS (nmL l o), bRow l.length (fun a => o.contains a)]) (fun o => o = ordTo l o.length) (fun o => l.length + 1 - o.length) [] (fun s s' h => ?_) ?_ rfl ?_
  · simp only [List.cons.injEq] at h
    have := congrArg lenD h.1
    rw [encS_len, encS_len, nmL_len, nmL_len] at this
    omega
  · simp only [E.den, dEq, iEq, sEq, zeroD]
    simp only [Int.toNat_natCast, List.map_cons, List.map_nil, zeroD, rowsOf_rep]
    rfl
  intro o hI _
  simp only [List.cons_append, List.nil_append]
  have hol := ord_len_le l o.length
  rw [← hI] at hol
  refine den_for l.length (fun i => [.int .i64 (nx l o i), .int .i64 i]) (fun _ => True) rfl trivial ?_
  intro i hi _ _
  simp only [List.cons_append, List.nil_append]
  refine den_ite (fun h2 => ?_) (fun h2 => ?_)
  · simp only [E.den, dEq, iEq, sEq] at h2
    have h2 : i < l.length := by simp at h2; exact h2
    refine den_cond (fun _ => ?_) (den_cond (fun _ => ?_) ?_)
    · simp only [E.den, dEq, iEq, sEq, lenD_mem]; simp; omega
    · simp only [E.den, dEq, iEq, sEq, wireD, bRow_len]; simp; omega
    refine den_for l.length (fun k => [.bool ((decide (nx l o i < 0) && !o.contains i && !missS l i) && allTo (fun k => !needS l i k || o.contains k) k), .int .i64 k]) (fun _ => True) ?_ trivial ?_
    · simp only [E.den, dEq, iEq, sEq, wireD, bRow_get h2]
      simp [allTo]
    intro k hk _ _
    simp only [List.cons_append, List.nil_append]
    refine den_ite (fun h3 => ?_) (fun h3 => ?_)
    · simp only [E.den, dEq, iEq, sEq] at h3
      have h3 : k < l.length := by simp at h3; exact h3
      refine den_cond (fun _ => ?_) (den_cond (fun _ => ?_) (den_cond (fun _ => ?_) ?_))
      · simp only [E.den, dEq, iEq, sEq, wireD, bMat_len]; simp; omega
      · simp only [E.den, dEq, iEq, sEq, wireD, bMat_get h2, bRow_len]; simp; omega
      · simp only [E.den, dEq, iEq, sEq, lenD_mem]; simp; omega
      refine den_next h3 ?_ trivial
      simp only [E.den, dEq, iEq, sEq, wireD, bMat_get h2, bRow_get h3]
      rw [ar_add (by omega) (by omega)]
      simp [allTo, Bool.and_assoc]
    · simp only [E.den, dEq, iEq, sEq] at h3
      obtain rfl : k = l.length := by simp at h3; omega
      have hrd : ((decide (nx l o i < 0) && !o.contains i && !missS l i) && allTo (fun k => !needS l i k || o.contains k) l.length) = (decide (nx l o i < 0) && readyB l o i) := by
        unfold readyB
        simp [Bool.and_assoc]
      refine den_ite (fun h4 => ?_) (fun h4 => ?_)
      · simp only [E.den, dEq, iEq, sEq, hrd] at h4
        refine den_next1 h2 ?_ trivial
        simp only [E.den, dEq, iEq, sEq]
        have : nx l o i < 0 ∧ readyB l o i = true := by simpa using h4
        rw [ar_add (by omega) (by omega), nx_succ, if_pos this]; rfl
      · simp only [E.den, dEq, iEq, sEq, hrd] at h4
        refine den_next1 h2 ?_ trivial
        simp only [E.den, dEq, iEq, sEq]
        have : ¬ (nx l o i < 0 ∧ readyB l o i = true) := by
          rintro ⟨q1, q2⟩
          simp [q1, q2] at h4
        rw [ar_add (by omega) (by omega), nx_succ, if_neg this]; rfl
  · simp only [E.den, dEq, iEq, sEq] at h2
    obtain rfl : i = l.length := by simp at h2; omega
    cases hf : firstTo (readyB l o) l.length with
    | none =>
      have hn : nx l o l.length = -1 := by unfold nx; rw [hf]
      rw [hn]
      refine den_ite (fun h3 => ?_) (fun h3 => ?_)
      · refine den_ret ?_
        have := ord_done (l := l) (k := o.length) (by rw [← hI]; exact hf)
        simp only [E.den, dEq, iEq, sEq]
        unfold ordN
        rw [if_pos hr, ← this, ← hI]
      · simp only [E.den, dEq, iEq, sEq] at h3
        simp at h3
    | some j =>
      have hn : nx l o l.length = j := by unfold nx; rw [hf]
      have hj := (firstTo_lt hf).1
      rw [hn]
      have hlen : o.length < l.length := by
        have h1 := ord_len_le l (o.length + 1)
        simp only [ordTo] at h1
        rw [← hI, hf] at h1
        simp at h1; omega
      refine den_ite (fun h3 => ?_) (fun h3 => ?_)
      · simp only [E.den, dEq, iEq, sEq] at h3
        simp at h3; omega
      refine den_cond (fun _ => ?_) (den_cond (fun _ => ?_) (den_cond (fun _ => ?_) ?_))
      · simp only [E.den, dEq, iEq, sEq, lenD_mem]; simp; (try omega)
      · simp only [E.den, dEq, iEq, sEq]; simp; (try omega)
      · simp [E.den, nmL_len]; omega
      refine ⟨o ++ [j], ?_, ?_, ?_⟩
      · simp only [E.den, dEq, iEq, sEq, row_Entry, cells_Entry, bRow_upd]
        rw [nmL_snoc, ← nm_snoc]
        rw [show bRow l.length (fun a => (o ++ [j]).contains a) = bRow l.length (fun a => if a = j then true else o.contains a) from bRow_congr fun a _ => by
          by_cases e : a = j <;> simp [e]]
      · rw [List.length_append]
        show o ++ [j] = ordTo l (o.length + 1)
        simp only [ordTo]
        rw [← hI, hf]
      · simp only [List.length_append, List.length_cons, List.length_nil]; omega
end Go.Proofs.Ythoafgehfgblaaa
