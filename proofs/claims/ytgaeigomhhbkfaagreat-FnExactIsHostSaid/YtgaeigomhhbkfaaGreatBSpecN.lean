/- Contracts: a text put into ascending ones, links, who misses, what is reached by links: the reference's side. -/
import Derived.Test.YtgaeigomhhbkfaaGreatBNamed
namespace Go.Proofs.YtgaeigomhhbkfaaGreat
open Go.RowKit Go
set_option linter.unusedVariables false
set_option linter.unusedSimpArgs false
set_option maxRecDepth 100000
set_option linter.unusedSectionVars false
variable [GC]
abbrev putB (l : List ByteArray) (s : ByteArray) : List ByteArray := putG ltB l s
theorem nm_snoc2 (l : List ByteArray) (s t : ByteArray) : D.sl ((l.map Enc.cells ++ [[.str s]]) ++ [[.str t]]) = encS (l ++ [s] ++ [t]) := by simp [encS, cells_str]
theorem c_spec_l1Put (l : List ByteArray) (s : ByteArray) (hl : l.length ≤ 1048576) : FunR Tryz.prog 48 none [encS l, .str s] (encS (putB l s)) [] [(0, 1)] := by
  refine FunR.ofV vc_spec_l1Put_ok ty_spec_l1Put_ok rt_spec_l1Put_ok rfl ?_ (fun hfit => ?_)
  · exact ⟨ty_strS l, trivial, trivial⟩
  unfold vc_spec_l1Put
  refine den_for l.length (fun k => [.bool (putK ltB l s k).2, encS (putK ltB l s k).1, .int .i64 k]) (fun _ => True) rfl trivial ?_
  intro k hk _ _
  simp only [List.cons_append, List.nil_append]
  have hlen := putK_len (lt := ltB) l s k
  have hlen2 : (putK ltB l s k).1.length ≤ 1048577 := by split at hlen <;> omega
  refine den_ite (fun h2 => ?_) (fun h2 => ?_)
  · simp only [E.den, dEq, iEq, sEq] at h2
    have h2 : k < l.length := by simp at h2; exact h2
    have hnth : l.getD k default = nth l k := rfl
    (refine den_cond (fun hg => ?_) ?_; (focus (simp only [gsH, List.mem_cons, List.not_mem_nil, or_false, forall_eq_or_imp, forall_eq, E.den, dEq, iEq, sEq] at hg ⊢; (try simp only [D.bool.injEq] at hg); (try simp only [D.bool.injEq]); grind)))
    refine den_ite (fun h3 => ?_) (fun h3 => ?_)
    · simp only [E.den, dEq, iEq, sEq, row_str, cells_str] at h3
      have h3 : (putK ltB l s k).2 = false ∧ ltB (nth l k) s = false := by simpa using h3
      refine den_ite (fun h4 => ?_) (fun h4 => ?_)
      · simp only [E.den, dEq, iEq, sEq, row_str, cells_str] at h4
        have h4 : ¬ nth l k = s := by simpa using h4
        refine den_cond (fun _ => ?_) (den_cond (fun _ => ?_) ?_)
        · simp [E.den]; omega
        · simp [E.den]; omega
        refine den_next h2 ?_ trivial
        simp only [E.den, dEq, iEq, sEq, row_str, cells_str]
        rw [ar_add (by omega) (by omega), nm_snoc2]
        simp only [putK, h3.1, hnth, h3.2, h4, Bool.false_eq_true, if_false]
        rfl
      · simp only [E.den, dEq, iEq, sEq, row_str, cells_str] at h4
        have h4 : nth l k = s := by simpa using h4
        refine den_cond (fun _ => ?_) ?_
        · simp [E.den]; omega
        refine den_next h2 ?_ trivial
        simp only [E.den, dEq, iEq, sEq, row_str, cells_str]
        rw [ar_add (by omega) (by omega), nm_snoc]
        have h5 := h3.2
        rw [h4] at h5
        simp only [putK, h3.1, hnth, h4, h5, Bool.false_eq_true, if_false, if_true]
        rfl
    · simp only [E.den, dEq, iEq, sEq, row_str, cells_str] at h3
      refine den_cond (fun _ => ?_) ?_
      · simp [E.den]; omega
      refine den_next h2 ?_ trivial
      simp only [E.den, dEq, iEq, sEq, row_str, cells_str]
      rw [ar_add (by omega) (by omega), nm_snoc]
      cases hd : (putK ltB l s k).2 with
      | true =>
        simp only [putK, hd, hnth, if_true]
        rfl
      | false =>
        have h5 : ltB (nth l k) s = true := by
          rw [hd] at h3; simpa using h3
        simp only [putK, hd, hnth, h5, Bool.false_eq_true, if_false, if_true]
        rfl
  · simp only [E.den, dEq, iEq, sEq] at h2
    obtain rfl : k = l.length := by simp at h2; omega
    refine den_ite (fun h3 => ?_) (fun h3 => ?_)
    · simp only [E.den, dEq, iEq, sEq] at h3
      have h3 : (putK ltB l s l.length).2 = false := by simpa using h3
      refine den_cond (fun _ => ?_) (den_ret ?_)
      · simp [E.den]; omega
      · simp only [E.den, dEq, iEq, sEq]
        rw [nm_snoc]
        unfold putB putG
        rw [h3]
        rfl
    · simp only [E.den, dEq, iEq, sEq] at h3
      have h3 : (putK ltB l s l.length).2 = true := by simpa using h3
      refine den_ret ?_
      simp only [E.den, dEq, iEq, sEq]
      unfold putB putG
      rw [h3]
      rfl
theorem c_spec_LinksOf (l : List Entry) : FunR Tryz.prog 45 none [encS l] (encS (linksL l)) [] [(0, 3)] := by
  refine FunR.ofV vc_spec_LinksOf_ok ty_spec_LinksOf_ok rt_spec_LinksOf_ok rfl ?_ (fun hfit => ?_)
  · exact ⟨ty_EntryS l, trivial⟩
  unfold vc_spec_LinksOf
  ((first | refine den_call ?_ (c_spec_IsRegistry l) (trivial) ?_ | refine den_callR ?_ (c_spec_IsRegistry l) (trivial) ?_ | refine den_call ?_ (.ofR (c_spec_IsRegistry l)) (trivial) ?_); (focus (simp only [VC.den, E.den, dEq, gsH_nil, and_true]; try exact rfl)); (simp only [List.cons_append, List.nil_append]))
  refine den_ite (fun h => ?_) (fun h => ?_)
  · simp only [E.den, dEq, iEq, sEq] at h
    have : regB l = false := by simpa using h
    exact den_ret (by simp [E.den, linksL, this, encS])
  simp only [E.den, dEq, iEq, sEq] at h
  have hr : regB l = true := by simpa using h
  have h6 := (reg_parts hr).1
  refine den_for l.length (fun i => [encS (linksTo l i), .int .i64 i]) (fun _ => True) rfl trivial ?_
  intro i hi _ _
  simp only [List.cons_append, List.nil_append]
  refine den_ite (fun h2 => ?_) (fun h2 => ?_)
  · simp only [E.den, dEq, iEq, sEq] at h2
    have h2 : i < l.length := by simp at h2; exact h2
    have h3n := reg_needs hr h2
    (refine den_cond (fun hg => ?_) ?_; (focus (simp only [gsH, List.mem_cons, List.not_mem_nil, or_false, forall_eq_or_imp, forall_eq, E.den, dEq, iEq, sEq] at hg ⊢; (try simp only [D.bool.injEq] at hg); (try simp only [D.bool.injEq]); grind)))
    refine den_for (nth l i).needs.length (fun j => [encS (linksTo l i ++ linksOne l i j), .int .i64 j]) (fun _ => True) ?_ trivial ?_
    · simp only [E.den, dEq, iEq, sEq]; simp [linksOne]
    intro j hj _ _
    simp only [List.cons_append, List.nil_append]
    have hfew := links_few hr h2 j hj
    refine den_ite (fun h3 => ?_) (fun h3 => ?_)
    · simp only [E.den, dEq, iEq, sEq, row_Entry, cells_Entry] at h3
      have h3 : j < (nth l i).needs.length := by simp at h3; exact h3
      (refine den_cond (fun hg => ?_) ?_; (focus (simp only [gsH, List.mem_cons, List.not_mem_nil, or_false, forall_eq_or_imp, forall_eq, E.den, dEq, iEq, sEq, row_Entry, cells_Entry] at hg ⊢; (try simp only [D.bool.injEq] at hg); (try simp only [D.bool.injEq]); grind)))
      ((first | refine den_call ?_ (c_spec_ProviderOf l (nth l i).name (nth (nth l i).needs j)) (trivial) ?_ | refine den_callR ?_ (c_spec_ProviderOf l (nth l i).name (nth (nth l i).needs j)) (trivial) ?_ | refine den_call ?_ (.ofR (c_spec_ProviderOf l (nth l i).name (nth (nth l i).needs j))) (trivial) ?_); (focus (simp only [VC.den, E.den, dEq, gsH_nil, and_true, row_Entry, cells_Entry, row_Need, Int.toNat_natCast]; try exact rfl)); (simp only [List.cons_append, List.nil_append]))
      cases hc : prv l i j with
      | none =>
        rw [provN_none hc]
        refine den_ite (fun h4 => ?_) (fun h4 => ?_)
        · simp only [E.den, dEq, iEq, sEq] at h4
          simp [noText] at h4
        refine den_next h3 ?_ trivial
        simp only [E.den, dEq, iEq, sEq]
        rw [ar_add (by omega) (by omega), links_none hc]; rfl
      | some c =>
        rw [provN_some hc]
        have hcl := prv_lt hc
        refine den_ite (fun h4 => ?_) (fun h4 => ?_)
        · refine den_cond (fun _ => ?_) ?_
          · simp [E.den]; simp at hfew; omega
          refine den_next h3 ?_ trivial
          simp only [E.den, dEq, iEq, sEq, row_Entry, cells_Entry, row_Need, cells_Need]
          rw [ar_add (by omega) (by omega), links_some hc, ← List.append_assoc, ← link_snoc _ _ []]; rfl
        · simp only [E.den, dEq, iEq, sEq] at h4
          have := reg_name hr hcl
          unfold noText at this
          simp [this] at h4
    · simp only [E.den, dEq, iEq, sEq, row_Entry, cells_Entry] at h3
      obtain rfl : j = (nth l i).needs.length := by simp at h3; omega
      refine den_next1 h2 ?_ trivial
      simp only [E.den, dEq, iEq, sEq]
      rw [ar_add (by omega) (by omega), linksTo_succ]; rfl
  · simp only [E.den, dEq, iEq, sEq] at h2
    obtain rfl : i = l.length := by simp at h2; omega
    exact den_ret (by simp [E.den, linksL, hr])
theorem names_len (l : List Entry) (p : Nat → Bool) : (namesOf l p).length ≤ l.length := namesTo_len l p l.length
theorem c_spec_MissingOf (l : List Entry) : FunR Tryz.prog 46 none [encS l] (encS (missN l)) [] [(0, 1)] := by
  refine FunR.ofV vc_spec_MissingOf_ok ty_spec_MissingOf_ok rt_spec_MissingOf_ok rfl ?_ (fun hfit => ?_)
  · exact ⟨ty_EntryS l, trivial⟩
  unfold vc_spec_MissingOf
  ((first | refine den_call ?_ (c_spec_IsRegistry l) (trivial) ?_ | refine den_callR ?_ (c_spec_IsRegistry l) (trivial) ?_ | refine den_call ?_ (.ofR (c_spec_IsRegistry l)) (trivial) ?_); (focus (simp only [VC.den, E.den, dEq, gsH_nil, and_true]; try exact rfl)); (simp only [List.cons_append, List.nil_append]))
  refine den_ite (fun h => ?_) (fun h => ?_)
  · simp only [E.den, dEq, iEq, sEq] at h
    have : regB l = false := by simpa using h
    exact den_ret (by simp [E.den, missN, this, encS])
  simp only [E.den, dEq, iEq, sEq] at h
  have hr : regB l = true := by simpa using h
  have h6 := (reg_parts hr).1
  refine den_for l.length (fun i => [encS (namesOf l (mF l i)), .int .i64 i]) (fun _ => True) ?_ trivial ?_
  · simp only [E.den, dEq, iEq, sEq]
    rw [show namesOf l (mF l 0) = [] by rw [← names_none l]; exact names_congr fun a _ => by simp [mF]]
    rfl
  intro i hi _ _
  simp only [List.cons_append, List.nil_append]
  refine den_ite (fun h2 => ?_) (fun h2 => ?_)
  · simp only [E.den, dEq, iEq, sEq] at h2
    have h2 : i < l.length := by simp at h2; exact h2
    have h3n := reg_needs hr h2
    (refine den_cond (fun hg => ?_) ?_; (focus (simp only [gsH, List.mem_cons, List.not_mem_nil, or_false, forall_eq_or_imp, forall_eq, E.den, dEq, iEq, sEq] at hg ⊢; (try simp only [D.bool.injEq] at hg); (try simp only [D.bool.injEq]); grind)))
    refine den_for (nth l i).needs.length (fun j => [encS (namesOf l (mG l i j)), .int .i64 j]) (fun _ => True) ?_ trivial ?_
    · simp only [E.den, dEq, iEq, sEq]
      rw [show namesOf l (mG l i 0) = namesOf l (mF l i) from names_congr fun a _ => by
        unfold mF mG
        by_cases e : a = i
        · subst e; simp [missTo, anyT]
        · by_cases e2 : a < i <;> simp [e, e2]]
      rfl
    intro j hj _ _
    simp only [List.cons_append, List.nil_append]
    refine den_ite (fun h3 => ?_) (fun h3 => ?_)
    · simp only [E.den, dEq, iEq, sEq, row_Entry, cells_Entry] at h3
      have h3 : j < (nth l i).needs.length := by simp at h3; exact h3
      (refine den_cond (fun hg => ?_) ?_; (focus (simp only [gsH, List.mem_cons, List.not_mem_nil, or_false, forall_eq_or_imp, forall_eq, E.den, dEq, iEq, sEq, row_Entry, cells_Entry] at hg ⊢; (try simp only [D.bool.injEq] at hg); (try simp only [D.bool.injEq]); grind)))
      ((first | refine den_call ?_ (c_spec_ProviderOf l (nth l i).name (nth (nth l i).needs j)) (trivial) ?_ | refine den_callR ?_ (c_spec_ProviderOf l (nth l i).name (nth (nth l i).needs j)) (trivial) ?_ | refine den_call ?_ (.ofR (c_spec_ProviderOf l (nth l i).name (nth (nth l i).needs j))) (trivial) ?_); (focus (simp only [VC.den, E.den, dEq, gsH_nil, and_true, row_Entry, cells_Entry, row_Need, Int.toNat_natCast]; try exact rfl)); (simp only [List.cons_append, List.nil_append]))
      have hnl := names_len l (mG l i j)
      cases hc : prv l i j with
      | none =>
        rw [provN_none hc]
        refine den_ite (fun h4 => ?_) (fun h4 => ?_)
        · ((first | refine den_call ?_ (c_spec_l1Put (namesOf l (mG l i j)) (nth l i).name (by omega)) (ty_strS _) ?_ | refine den_callR ?_ (c_spec_l1Put (namesOf l (mG l i j)) (nth l i).name (by omega)) (ty_strS _) ?_ | refine den_call ?_ (.ofR (c_spec_l1Put (namesOf l (mG l i j)) (nth l i).name (by omega))) (ty_strS _) ?_); (focus (simp only [VC.den, E.den, dEq, gsH_nil, and_true, row_Entry, cells_Entry]; try exact rfl)); (simp only [List.cons_append, List.nil_append]))
          refine den_next h3 ?_ trivial
          simp only [E.den, dEq, iEq, sEq]
          rw [ar_add (by omega) (by omega)]
          show [encS (putG ltB (namesOf l (mG l i j)) (nth l i).name), _] = _
          rw [names_put hr h2, show namesOf l (mG l i (j + 1)) = namesOf l (fun a => mG l i j a || decide (a = i)) from names_congr fun a _ => by
            unfold mG
            by_cases e : a = i
            · subst e; simp [missTo, anyT, hc]
            · by_cases e2 : a < i <;> simp [e, e2]]
          rfl
        · simp only [E.den, dEq, iEq, sEq] at h4
          simp [noText] at h4
      | some c =>
        rw [provN_some hc]
        have hcl := prv_lt hc
        refine den_ite (fun h4 => ?_) (fun h4 => ?_)
        · simp only [E.den, dEq, iEq, sEq] at h4
          have := reg_name hr hcl
          unfold noText at this
          simp [this] at h4
        · refine den_next h3 ?_ trivial
          simp only [E.den, dEq, iEq, sEq]
          rw [ar_add (by omega) (by omega), show namesOf l (mG l i (j + 1)) = namesOf l (mG l i j) from names_congr fun a _ => by
            unfold mG
            by_cases e : a = i
            · subst e; simp [missTo, anyT, hc]
            · simp [e]]
          rfl
    · simp only [E.den, dEq, iEq, sEq, row_Entry, cells_Entry] at h3
      obtain rfl : j = (nth l i).needs.length := by simp at h3; omega
      refine den_next1 h2 ?_ trivial
      simp only [E.den, dEq, iEq, sEq]
      rw [ar_add (by omega) (by omega), show namesOf l (mG l i (nth l i).needs.length) = namesOf l (mF l (i + 1)) from names_congr fun a _ => by
        unfold mF mG
        by_cases e : a = i
        · subst e; simp [missS]
        · have : a < i + 1 ↔ a < i := by omega
          by_cases e2 : a < i <;> simp [e, e2, this]]
      rfl
  · simp only [E.den, dEq, iEq, sEq] at h2
    obtain rfl : i = l.length := by simp at h2; omega
    refine den_ret ?_
    simp only [E.den, dEq, iEq, sEq]
    unfold missN
    rw [if_pos hr, names_congr fun a ha => show mF l l.length a = missS l a by simp [mF, ha]]
/-! What is reached by links -/
theorem nodup_len {α : Type} [DecidableEq α] : ∀ {a b : List α}, a.Nodup → (∀ x ∈ a, x ∈ b) → a.length ≤ b.length
  | [], b, _, _ => by simp
  | x :: a, b, hn, hs => by
    have hx : x ∈ b := hs x (by simp)
    rw [List.nodup_cons] at hn
    have := nodup_len (a := a) (b := b.erase x) hn.2 fun y hy => by
      have hne : y ≠ x := fun e => hn.1 (e ▸ hy)
      exact (List.mem_erase_of_ne hne).2 (hs y (by simp [hy]))
    rw [List.length_erase_of_mem hx] at this
    have hp : 0 < b.length := List.length_pos_of_mem hx
    simp only [List.length_cons]; omega
theorem way_to {ls : List Link} {back : Bool} {a b : ByteArray} (h : WayT (Edge ls back) a b) : b ∈ ls.map fun x => lTo x back := by
  have key : ∀ {a b}, Edge ls back a b → b ∈ ls.map fun x => lTo x back := by
    rintro a b ⟨x, hx, _, rfl⟩
    exact List.mem_map.2 ⟨x, hx, rfl⟩
  cases h with
  | edge e => exact key e
  | snoc _ e => exact key e
structure WI (ls : List Link) (back : Bool) (nm : ByteArray) (seen next : List ByteArray) : Prop where
  asc : Asc ltB seen
  way : ∀ x ∈ seen, WayT (Edge ls back) nm x
  nxt : ∀ x ∈ next, x = nm ∨ x ∈ seen
  cls : ∀ z, (z = nm ∨ z ∈ seen) → z ∈ next ∨ ∀ y, Edge ls back z y → y ∈ seen
  few : next.length ≤ seen.length + 1
theorem WI.len {ls : List Link} {back : Bool} {nm : ByteArray} {seen next : List ByteArray} (h : WI ls back nm seen next) : seen.length ≤ ls.length := by
  have := nodup_len (asc_nodup ordB h.asc) (b := ls.map fun x => lTo x back) fun x hx => way_to (h.way x hx)
  simpa using this
theorem WI.done {ls : List Link} {back : Bool} {nm : ByteArray} {seen : List ByteArray} (h : WI ls back nm seen []) (x : ByteArray) : x ∈ seen ↔ WayT (Edge ls back) nm x := by
  refine ⟨h.way x, fun hw => ?_⟩
  induction hw with
  | edge e =>
    rcases h.cls _ (.inl rfl) with h1 | h1
    · simp at h1
    · exact h1 _ e
  | snoc _ e ih =>
    rcases h.cls _ (.inr ih) with h1 | h1
    · simp at h1
    · exact h1 _ e
/-- In the midst of looking through the links that go out from 'at'. -/
structure WJ (ls : List Link) (back : Bool) (nm t : ByteArray) (d : Nat) (seen next : List ByteArray) (j : Nat) : Prop where
  asc : Asc ltB seen
  way : ∀ x ∈ seen, WayT (Edge ls back) nm x
  nxt : ∀ x ∈ next, x = nm ∨ x ∈ seen
  cls : ∀ z, (z = nm ∨ z ∈ seen) → z ∈ next ∨ (z = t ∧ ∀ i, i < j → lFrom (nth ls i) back = t → lTo (nth ls i) back ∈ seen) ∨ ∀ y, Edge ls back z y → y ∈ seen
  few : next.length ≤ seen.length
  src : t = nm ∨ WayT (Edge ls back) nm t
  cnt : (ls.length - seen.length) + next.length ≤ d
  le : j ≤ ls.length
theorem WJ.len {ls : List Link} {back : Bool} {nm t : ByteArray} {d j : Nat} {seen next : List ByteArray} (h : WJ ls back nm t d seen next j) : seen.length ≤ ls.length := by
  have := nodup_len (asc_nodup ordB h.asc) (b := ls.map fun x => lTo x back) fun x hx => way_to (h.way x hx)
  simpa using this
theorem WI.start {ls : List Link} {back : Bool} {nm t : ByteArray} {seen next : List ByteArray} (h : WI ls back nm seen (t :: next)) : WJ ls back nm t (ls.length - seen.length + next.length) seen next 0 where
  asc := h.asc
  way := h.way
  nxt := fun x hx => h.nxt x (by simp [hx])
  cls := fun z hz => by
    rcases h.cls z hz with h1 | h1
    · rcases List.mem_cons.1 h1 with rfl | h1
      · exact .inr (.inl ⟨rfl, fun i hi => absurd hi (by omega)⟩)
      · exact .inl h1
    · exact .inr (.inr h1)
  few := by have := h.few; simp only [List.length_cons] at this; omega
  src := (h.nxt t (by simp)).imp id (h.way t)
  cnt := Nat.le_refl _
  le := Nat.zero_le _
theorem WJ.skip {ls : List Link} {back : Bool} {nm t : ByteArray} {d j : Nat} {seen next : List ByteArray} (h : WJ ls back nm t d seen next j) (hj : j < ls.length) (hs : lFrom (nth ls j) back = t → lTo (nth ls j) back ∈ seen) : WJ ls back nm t d seen next (j + 1) :=
  { h with
    le := hj
    cls := fun z hz => by
      rcases h.cls z hz with h1 | ⟨rfl, h1⟩ | h1
      · exact .inl h1
      · refine .inr (.inl ⟨rfl, fun i hi => ?_⟩)
        rcases Nat.lt_or_ge i j with h2 | h2
        · exact h1 i h2
        · obtain rfl : i = j := by omega
          exact hs
      · exact .inr (.inr h1) }
theorem WJ.add {ls : List Link} {back : Bool} {nm t : ByteArray} {d j : Nat} {seen next : List ByteArray} (h : WJ ls back nm t d seen next j) (hj : j < ls.length) (hf : lFrom (nth ls j) back = t) (hn : lTo (nth ls j) back ∉ seen) :
    WJ ls back nm t d (putB seen (lTo (nth ls j) back)) (next ++ [lTo (nth ls j) back]) (j + 1) := by
  have he : Edge ls back t (lTo (nth ls j) back) := ⟨nth ls j, nth_mem hj, hf, rfl⟩
  have hw : WayT (Edge ls back) nm (lTo (nth ls j) back) := by
    rcases h.src with e | hw
    · rw [e] at he; exact .edge he
    · exact .snoc hw he
  generalize hs : lTo (nth ls j) back = s at *
  have hl : (putB seen s).length = seen.length + 1 := by
    have h1 := putG_len (lt := ltB) seen s
    have h2 := nodup_len (a := s :: seen) (b := putB seen s) (List.nodup_cons.2 ⟨hn, asc_nodup ordB h.asc⟩) fun x hx => by
      rw [putG_mem]
      rcases List.mem_cons.1 hx with rfl | hx
      · exact .inr rfl
      · exact .inl hx
    simp only [List.length_cons] at h2
    have h1 : (putB seen s).length ≤ seen.length + 1 := h1
    omega
  have hasc : Asc ltB (putB seen s) := putG_asc ordB h.asc s
  have hway : ∀ x ∈ putB seen s, WayT (Edge ls back) nm x := fun x hx => by
    rcases (putG_mem _ _ _).1 hx with hx | rfl
    · exact h.way x hx
    · exact hw
  have hle : (putB seen s).length ≤ ls.length := by
    have := nodup_len (asc_nodup ordB hasc) (b := ls.map fun x => lTo x back) fun x hx => way_to (hway x hx)
    simpa using this
  refine ⟨hasc, hway, fun x hx => ?_, fun z hz => ?_, ?_, h.src, ?_, hj⟩
  · rw [putG_mem]
    rcases List.mem_append.1 hx with hx | hx
    · exact (h.nxt x hx).imp id .inl
    · simp at hx; exact .inr (.inr hx)
  · have hz' : (z = nm ∨ z ∈ seen) ∨ z = s := by
      rcases hz with hz | hz
      · exact .inl (.inl hz)
      · rcases (putG_mem _ _ _).1 hz with hz | hz
        · exact .inl (.inr hz)
        · exact .inr hz
    rcases hz' with hz' | rfl
    · rcases h.cls z hz' with h1 | ⟨rfl, h1⟩ | h1
      · exact .inl (by simp [h1])
      · refine .inr (.inl ⟨rfl, fun i hi hfi => ?_⟩)
        rw [putG_mem]
        rcases Nat.lt_or_ge i j with h2 | h2
        · exact .inl (h1 i h2 hfi)
        · obtain rfl : i = j := by omega
          exact .inr hs
      · exact .inr (.inr fun y hy => (putG_mem _ _ _).2 (.inl (h1 y hy)))
    · exact .inl (by simp)
  · have := h.few
    rw [List.length_append, hl]; simp; omega
  · have := h.cnt
    rw [List.length_append, hl]
    rw [hl] at hle
    simp only [List.length_cons, List.length_nil]
    omega
theorem WJ.done {ls : List Link} {back : Bool} {nm t : ByteArray} {d : Nat} {seen next : List ByteArray} (h : WJ ls back nm t d seen next ls.length) : WI ls back nm seen next where
  asc := h.asc
  way := h.way
  nxt := h.nxt
  cls := fun z hz => by
    rcases h.cls z hz with h1 | ⟨rfl, h1⟩ | h1
    · exact .inl h1
    · refine .inr ?_
      rintro y ⟨x, hx, h2, rfl⟩
      obtain ⟨i, hi, rfl⟩ := List.getElem_of_mem hx
      have e : nth ls i = ls[i] := by simp [nth, List.getD_eq_getElem?_getD, hi]
      have := h1 i hi (by rw [e]; exact h2)
      rwa [e] at this
    · exact .inr h1
  few := by have := h.few; omega
structure WSt where
  seen : List ByteArray
  next : List ByteArray
structure WSu where
  seen : List ByteArray
  next : List ByteArray
  j : Nat
theorem cut_one (s : ByteArray) (l : List ByteArray) : cutD (encS (s :: l)) 1 (((s :: l).length : Nat) : Int) = encS l := by
  simp [cutD, encS]
  exact List.take_of_length_le (by simp)
theorem den_iteT {P : Program} {tab : Nat → List CT} {env : List D} {Q : D → List D → Prop} {L : List (List D → Prop)} {c : E} {a b : VC}
    (h : (c.den env).toB = true) (ha : a.den P tab env Q L) : (VC.ite c a b).den P tab env Q L := ⟨fun _ => ha, fun q => by rw [h] at q; cases q⟩
theorem den_iteF {P : Program} {tab : Nat → List CT} {env : List D} {Q : D → List D → Prop} {L : List (List D → Prop)} {c : E} {a b : VC}
    (h : (c.den env).toB = false) (hb : b.den P tab env Q L) : (VC.ite c a b).den P tab env Q L := ⟨fun q => by rw [h] at q; exact Bool.noConfusion q, fun _ => hb⟩
theorem c_spec_l6Walk_false (ls : List Link) (nm : ByteArray) (S : List ByteArray) (hA : Asc ltB S) (hS : ∀ x, x ∈ S ↔ WayT (Edge ls false) nm x) (hl : ls.length ≤ 1000) : FunR Tryz.prog 47 none [encS ls, .str nm, .bool false] (encS S) [] [(0, 1)] := by
  refine FunR.ofV vc_spec_l6Walk_ok ty_spec_l6Walk_ok rt_spec_l6Walk_ok rfl ?_ (fun hfit => ?_)
  · exact ⟨ty_LinkS ls, trivial, trivial, trivial⟩
  unfold vc_spec_l6Walk
  refine den_loop WSt (fun s => [encS s.seen, encS s.next]) (fun s => WI ls false nm s.seen s.next) (fun s => (ls.length - s.seen.length) + s.next.length) ⟨[], [nm]⟩ (fun s s' h => ?_) ?_ ?_ ?_
  · simp only [List.cons.injEq] at h
    have h1 := congrArg lenD h.1
    have h2 := congrArg lenD h.2.1
    rw [encS_len, encS_len] at h1 h2
    omega
  · simp only [E.den, dEq, iEq, sEq]
    simp [encS, cells_str]
  · exact ⟨asc_nil, by simp, by simp, by simp, by simp⟩
  rintro ⟨seen, next⟩ hI _
  simp only at hI
  simp only [List.cons_append, List.nil_append]
  have hsl := hI.len
  have hfw := hI.few
  refine den_ite (fun h2 => ?_) (fun h2 => ?_)
  · simp only [E.den, dEq, iEq, sEq] at h2
    have h2 : 0 < next.length := by simp at h2; exact h2
    obtain ⟨t, next, rfl⟩ : ∃ t r, next = t :: r := by
      cases next with
      | nil => simp at h2
      | cons t r => exact ⟨t, r, rfl⟩
    simp only [List.length_cons] at hfw
    refine den_cond (fun _ => ?_) (den_cond (fun _ => ?_) ?_)
    · simp only [E.den, dEq, iEq, sEq]; simp; (try omega)
    · simp only [E.den, dEq, iEq, sEq]; simp; (try omega)
    have ht : nth (t :: next) 0 = t := rfl
    refine den_loop WSu (fun s => [encS s.seen, encS s.next, .int .i64 s.j]) (fun s => WJ ls false nm t (ls.length - seen.length + next.length) s.seen s.next s.j) (fun s => ls.length - s.j) ⟨seen, next, 0⟩ (fun s s' h => ?_) ?_ hI.start ?_
    · simp at h; omega
    · simp only [E.den, dEq, iEq, sEq]
      rw [cut_one]
      rfl
    rintro ⟨sn, nx, j⟩ hJ _
    simp only at hJ
    simp only [List.cons_append, List.nil_append]
    have hsn := hJ.len
    have hfn := hJ.few
    have hjl := hJ.le
    refine den_ite (fun h3 => ?_) (fun h3 => ?_)
    · simp only [E.den, dEq, iEq, sEq] at h3
      have h3 : j < ls.length := by simp at h3; exact h3
      (refine den_cond (fun hg => ?_) ?_; (focus (simp only [gsH, List.mem_cons, List.not_mem_nil, or_false, forall_eq_or_imp, forall_eq, E.den, dEq, iEq, sEq] at hg ⊢; (try simp only [D.bool.injEq] at hg); (try simp only [D.bool.injEq]); grind)))
      refine den_iteF rfl ?_
      ((first | refine den_call ?_ (c_spec_l1HasText sn (lTo (nth ls j) false)) (trivial) ?_ | refine den_callR ?_ (c_spec_l1HasText sn (lTo (nth ls j) false)) (trivial) ?_ | refine den_call ?_ (.ofR (c_spec_l1HasText sn (lTo (nth ls j) false))) (trivial) ?_); (focus (simp only [VC.den, E.den, dEq, gsH_nil, and_true, row_Link, cells_Link, lTo]; try exact rfl)); (simp only [List.cons_append, List.nil_append]))
      refine den_ite (fun h4 => ?_) (fun h4 => ?_)
      · simp only [E.den, dEq, iEq, sEq, row_Link, cells_Link, row_str, cells_str, Int.toNat_zero, ht] at h4
        have h4 : lFrom (nth ls j) false = t ∧ hasB sn (lTo (nth ls j) false) = false := by simpa [lFrom] using h4
        have hns : lTo (nth ls j) false ∉ sn := fun hm => by
          have : hasB sn (lTo (nth ls j) false) = true := by unfold hasB; rw [List.any_eq_true]; exact ⟨_, hm, by simp⟩
          rw [this] at h4; simp at h4
        ((first | refine den_call ?_ (c_spec_l1Put sn (lTo (nth ls j) false) (by omega)) (ty_strS _) ?_ | refine den_callR ?_ (c_spec_l1Put sn (lTo (nth ls j) false) (by omega)) (ty_strS _) ?_ | refine den_call ?_ (.ofR (c_spec_l1Put sn (lTo (nth ls j) false) (by omega))) (ty_strS _) ?_); (focus (simp only [VC.den, E.den, dEq, gsH_nil, and_true, row_Link, cells_Link, lTo]; try exact rfl)); (simp only [List.cons_append, List.nil_append]))
        refine den_cond (fun _ => ?_) ?_
        · simp [E.den]; omega
        refine den_again ⟨putB sn (lTo (nth ls j) false), nx ++ [lTo (nth ls j) false], j + 1⟩ ?_ (hJ.add h3 h4.1 hns) (by simp only; omega)
        simp only [E.den, dEq, iEq, sEq, row_Link, cells_Link]
        rw [ar_add (by omega) (by omega), nm_snoc]; rfl
      · simp only [E.den, dEq, iEq, sEq, row_Link, cells_Link, row_str, cells_str, Int.toNat_zero, ht] at h4
        refine den_again ⟨sn, nx, j + 1⟩ ?_ (hJ.skip h3 fun hf => ?_) (by simp only; omega)
        · simp only [E.den, dEq, iEq, sEq]
          rw [ar_add (by omega) (by omega)]; rfl
        · have h5 : hasB sn (lTo (nth ls j) false) = true := by
            have hf' := hf
            simp only [lFrom, Bool.false_eq_true, if_false, if_true] at hf'
            simpa [hf'] using h4
          unfold hasB at h5
          rw [List.any_eq_true] at h5
          obtain ⟨x, hx, e⟩ := h5
          rw [decide_eq_true_eq] at e
          rw [← e]; exact hx
    · simp only [E.den, dEq, iEq, sEq] at h3
      obtain rfl : j = ls.length := by simp at h3; omega
      refine ⟨⟨sn, nx⟩, rfl, hJ.done, ?_⟩
      have := hJ.cnt
      simp only [List.length_cons]; omega
  · simp only [E.den, dEq, iEq, sEq] at h2
    obtain rfl : next = [] := by cases next <;> simp at h2 ⊢
    refine den_ret ?_
    simp only [E.den, dEq, iEq, sEq]
    rw [asc_ext ordB hI.asc hA fun x => (hI.done x).trans (hS x).symm]

theorem c_spec_l6Walk_true (ls : List Link) (nm : ByteArray) (S : List ByteArray) (hA : Asc ltB S) (hS : ∀ x, x ∈ S ↔ WayT (Edge ls true) nm x) (hl : ls.length ≤ 1000) : FunR Tryz.prog 47 none [encS ls, .str nm, .bool true] (encS S) [] [(0, 1)] := by
  refine FunR.ofV vc_spec_l6Walk_ok ty_spec_l6Walk_ok rt_spec_l6Walk_ok rfl ?_ (fun hfit => ?_)
  · exact ⟨ty_LinkS ls, trivial, trivial, trivial⟩
  unfold vc_spec_l6Walk
  refine den_loop WSt (fun s => [encS s.seen, encS s.next]) (fun s => WI ls true nm s.seen s.next) (fun s => (ls.length - s.seen.length) + s.next.length) ⟨[], [nm]⟩ (fun s s' h => ?_) ?_ ?_ ?_
  · simp only [List.cons.injEq] at h
    have h1 := congrArg lenD h.1
    have h2 := congrArg lenD h.2.1
    rw [encS_len, encS_len] at h1 h2
    omega
  · simp only [E.den, dEq, iEq, sEq]
    simp [encS, cells_str]
  · exact ⟨asc_nil, by simp, by simp, by simp, by simp⟩
  rintro ⟨seen, next⟩ hI _
  simp only at hI
  simp only [List.cons_append, List.nil_append]
  have hsl := hI.len
  have hfw := hI.few
  refine den_ite (fun h2 => ?_) (fun h2 => ?_)
  · simp only [E.den, dEq, iEq, sEq] at h2
    have h2 : 0 < next.length := by simp at h2; exact h2
    obtain ⟨t, next, rfl⟩ : ∃ t r, next = t :: r := by
      cases next with
      | nil => simp at h2
      | cons t r => exact ⟨t, r, rfl⟩
    simp only [List.length_cons] at hfw
    refine den_cond (fun _ => ?_) (den_cond (fun _ => ?_) ?_)
    · simp only [E.den, dEq, iEq, sEq]; simp; (try omega)
    · simp only [E.den, dEq, iEq, sEq]; simp; (try omega)
    have ht : nth (t :: next) 0 = t := rfl
    refine den_loop WSu (fun s => [encS s.seen, encS s.next, .int .i64 s.j]) (fun s => WJ ls true nm t (ls.length - seen.length + next.length) s.seen s.next s.j) (fun s => ls.length - s.j) ⟨seen, next, 0⟩ (fun s s' h => ?_) ?_ hI.start ?_
    · simp at h; omega
    · simp only [E.den, dEq, iEq, sEq]
      rw [cut_one]
      rfl
    rintro ⟨sn, nx, j⟩ hJ _
    simp only at hJ
    simp only [List.cons_append, List.nil_append]
    have hsn := hJ.len
    have hfn := hJ.few
    have hjl := hJ.le
    refine den_ite (fun h3 => ?_) (fun h3 => ?_)
    · simp only [E.den, dEq, iEq, sEq] at h3
      have h3 : j < ls.length := by simp at h3; exact h3
      (refine den_cond (fun hg => ?_) ?_; (focus (simp only [gsH, List.mem_cons, List.not_mem_nil, or_false, forall_eq_or_imp, forall_eq, E.den, dEq, iEq, sEq] at hg ⊢; (try simp only [D.bool.injEq] at hg); (try simp only [D.bool.injEq]); grind)))
      refine den_iteT rfl ?_
      ((first | refine den_call ?_ (c_spec_l1HasText sn (lTo (nth ls j) true)) (trivial) ?_ | refine den_callR ?_ (c_spec_l1HasText sn (lTo (nth ls j) true)) (trivial) ?_ | refine den_call ?_ (.ofR (c_spec_l1HasText sn (lTo (nth ls j) true))) (trivial) ?_); (focus (simp only [VC.den, E.den, dEq, gsH_nil, and_true, row_Link, cells_Link, lTo]; try exact rfl)); (simp only [List.cons_append, List.nil_append]))
      refine den_ite (fun h4 => ?_) (fun h4 => ?_)
      · simp only [E.den, dEq, iEq, sEq, row_Link, cells_Link, row_str, cells_str, Int.toNat_zero, ht] at h4
        have h4 : lFrom (nth ls j) true = t ∧ hasB sn (lTo (nth ls j) true) = false := by simpa [lFrom] using h4
        have hns : lTo (nth ls j) true ∉ sn := fun hm => by
          have : hasB sn (lTo (nth ls j) true) = true := by unfold hasB; rw [List.any_eq_true]; exact ⟨_, hm, by simp⟩
          rw [this] at h4; simp at h4
        ((first | refine den_call ?_ (c_spec_l1Put sn (lTo (nth ls j) true) (by omega)) (ty_strS _) ?_ | refine den_callR ?_ (c_spec_l1Put sn (lTo (nth ls j) true) (by omega)) (ty_strS _) ?_ | refine den_call ?_ (.ofR (c_spec_l1Put sn (lTo (nth ls j) true) (by omega))) (ty_strS _) ?_); (focus (simp only [VC.den, E.den, dEq, gsH_nil, and_true, row_Link, cells_Link, lTo]; try exact rfl)); (simp only [List.cons_append, List.nil_append]))
        refine den_cond (fun _ => ?_) ?_
        · simp [E.den]; omega
        refine den_again ⟨putB sn (lTo (nth ls j) true), nx ++ [lTo (nth ls j) true], j + 1⟩ ?_ (hJ.add h3 h4.1 hns) (by simp only; omega)
        simp only [E.den, dEq, iEq, sEq, row_Link, cells_Link]
        rw [ar_add (by omega) (by omega), nm_snoc]; rfl
      · simp only [E.den, dEq, iEq, sEq, row_Link, cells_Link, row_str, cells_str, Int.toNat_zero, ht] at h4
        refine den_again ⟨sn, nx, j + 1⟩ ?_ (hJ.skip h3 fun hf => ?_) (by simp only; omega)
        · simp only [E.den, dEq, iEq, sEq]
          rw [ar_add (by omega) (by omega)]; rfl
        · have h5 : hasB sn (lTo (nth ls j) true) = true := by
            have hf' := hf
            simp only [lFrom, Bool.false_eq_true, if_false, if_true] at hf'
            simpa [hf'] using h4
          unfold hasB at h5
          rw [List.any_eq_true] at h5
          obtain ⟨x, hx, e⟩ := h5
          rw [decide_eq_true_eq] at e
          rw [← e]; exact hx
    · simp only [E.den, dEq, iEq, sEq] at h3
      obtain rfl : j = ls.length := by simp at h3; omega
      refine ⟨⟨sn, nx⟩, rfl, hJ.done, ?_⟩
      have := hJ.cnt
      simp only [List.length_cons]; omega
  · simp only [E.den, dEq, iEq, sEq] at h2
    obtain rfl : next = [] := by cases next <;> simp at h2 ⊢
    refine den_ret ?_
    simp only [E.den, dEq, iEq, sEq]
    rw [asc_ext ordB hI.asc hA fun x => (hI.done x).trans (hS x).symm]

end Go.Proofs.YtgaeigomhhbkfaaGreat
/- Contracts: who is stuck, the order of the start: the reference's side. -/
namespace Go.Proofs.YtgaeigomhhbkfaaGreat
open Go.RowKit Go
set_option linter.unusedVariables false
set_option linter.unusedSimpArgs false
set_option maxRecDepth 100000
set_option linter.unusedSectionVars false
variable [GC]
theorem hasB_iff {l : List ByteArray} {s : ByteArray} : hasB l s = true ↔ s ∈ l := by
  unfold hasB
  rw [List.any_eq_true]
  constructor
  · rintro ⟨x, hx, e⟩
    rw [decide_eq_true_eq] at e
    rw [← e]; exact hx
  · intro h
    exact ⟨s, h, by simp⟩
theorem reachN_at {l : List Entry} (hr : regB l = true) {i : Nat} (hi : i < l.length) : reachN l (nth l i).name = namesOf l (reachS l i) := by
  unfold reachN
  rw [if_pos hr, find_some hr hi]
theorem needersN_at {l : List Entry} (hr : regB l = true) {i : Nat} (hi : i < l.length) : needersN l (nth l i).name = namesOf l (fun a => reachS l a i) := by
  unfold needersN
  rw [if_pos hr, find_some hr hi]
def bdF (l : List Entry) (i a : Nat) : Bool := missS l a || (decide (a < i) && reachS l a a)
theorem any_names {l : List Entry} (hr : regB l = true) {p q : Nat → Bool} : (namesOf l p).any (hasB (namesOf l q)) = anyT (fun j => p j && q j) l.length := by
  rw [Bool.eq_iff_iff, List.any_eq_true, anyT_iff]
  constructor
  · rintro ⟨x, h1, h2⟩
    obtain ⟨j, h3, h4, rfl⟩ := names_mem.1 h1
    rw [names_has hr h3] at h2
    exact ⟨j, h3, by rw [h4, h2]; rfl⟩
  · rintro ⟨j, h3, h4⟩
    rw [Bool.and_eq_true] at h4
    exact ⟨_, names_mem.2 ⟨j, h3, h4.1, rfl⟩, by rw [names_has hr h3]; exact h4.2⟩
theorem any_take {l : List ByteArray} {p : ByteArray → Bool} {k : Nat} (hk : k < l.length) : (l.take (k + 1)).any p = ((l.take k).any p || p (nth l k)) := by
  rw [take_snoc l hk, List.any_append]
  simp
theorem c_spec_StuckOf (l : List Entry) : FunR Tryz.prog 14 none [encS l] (encS (stuckN l)) [] [(0, 1)] := by
  refine FunR.ofV vc_spec_StuckOf_ok ty_spec_StuckOf_ok rt_spec_StuckOf_ok rfl ?_ (fun hfit => ?_)
  · exact ⟨ty_EntryS l, trivial⟩
  unfold vc_spec_StuckOf
  ((first | refine den_call ?_ (c_spec_IsRegistry l) (trivial) ?_ | refine den_callR ?_ (c_spec_IsRegistry l) (trivial) ?_ | refine den_call ?_ (.ofR (c_spec_IsRegistry l)) (trivial) ?_); (focus (simp only [VC.den, E.den, dEq, gsH_nil, and_true]; try exact rfl)); (simp only [List.cons_append, List.nil_append]))
  refine den_ite (fun h => ?_) (fun h => ?_)
  · simp only [E.den, dEq, iEq, sEq] at h
    have : regB l = false := by simpa using h
    exact den_ret (by simp [E.den, stuckN, this, encS])
  simp only [E.den, dEq, iEq, sEq] at h
  have hr : regB l = true := by simpa using h
  have h6 := (reg_parts hr).1
  have hlk := linksL_len l
  ((first | refine den_call ?_ (c_spec_LinksOf l) (ty_LinkS _) ?_ | refine den_callR ?_ (c_spec_LinksOf l) (ty_LinkS _) ?_ | refine den_call ?_ (.ofR (c_spec_LinksOf l)) (ty_LinkS _) ?_); (focus (simp only [VC.den, E.den, dEq, gsH_nil, and_true]; try exact rfl)); (simp only [List.cons_append, List.nil_append]))
  ((first | refine den_call ?_ (c_spec_MissingOf l) (ty_strS _) ?_ | refine den_callR ?_ (c_spec_MissingOf l) (ty_strS _) ?_ | refine den_call ?_ (.ofR (c_spec_MissingOf l)) (ty_strS _) ?_); (focus (simp only [VC.den, E.den, dEq, gsH_nil, and_true]; try exact rfl)); (simp only [List.cons_append, List.nil_append]))
  refine den_for l.length (fun i => [encS (namesOf l (bdF l i)), .int .i64 i]) (fun _ => True) ?_ trivial ?_
  · simp only [E.den, dEq, iEq, sEq]
    unfold missN
    rw [if_pos hr, names_congr fun a _ => show bdF l 0 a = missS l a by simp [bdF]]
    rfl
  intro i hi _ _
  simp only [List.cons_append, List.nil_append]
  refine den_ite (fun h2 => ?_) (fun h2 => ?_)
  · simp only [E.den, dEq, iEq, sEq] at h2
    have h2 : i < l.length := by simp at h2; exact h2
    have hnl := names_len l (bdF l i)
    (refine den_cond (fun hg => ?_) ?_; (focus (simp only [gsH, List.mem_cons, List.not_mem_nil, or_false, forall_eq_or_imp, forall_eq, E.den, dEq, iEq, sEq] at hg ⊢; (try simp only [D.bool.injEq] at hg); (try simp only [D.bool.injEq]); grind)))
    ((first | refine den_call ?_ (c_spec_l6Walk_false (linksL l) (nth l i).name _ (reach_walk l _).1 (reach_walk l _).2 (by omega)) (ty_strS _) ?_ | refine den_callR ?_ (c_spec_l6Walk_false (linksL l) (nth l i).name _ (reach_walk l _).1 (reach_walk l _).2 (by omega)) (ty_strS _) ?_ | refine den_call ?_ (.ofR (c_spec_l6Walk_false (linksL l) (nth l i).name _ (reach_walk l _).1 (reach_walk l _).2 (by omega))) (ty_strS _) ?_); (focus (simp only [VC.den, E.den, dEq, gsH_nil, and_true, row_Entry, cells_Entry]; try exact rfl)); (simp only [List.cons_append, List.nil_append]))
    ((first | refine den_call ?_ (c_spec_l1HasText (reachN l (nth l i).name) (nth l i).name) (trivial) ?_ | refine den_callR ?_ (c_spec_l1HasText (reachN l (nth l i).name) (nth l i).name) (trivial) ?_ | refine den_call ?_ (.ofR (c_spec_l1HasText (reachN l (nth l i).name) (nth l i).name)) (trivial) ?_); (focus (simp only [VC.den, E.den, dEq, gsH_nil, and_true, row_Entry, cells_Entry]; try exact rfl)); (simp only [List.cons_append, List.nil_append]))
    rw [reachN_at hr h2, names_has hr h2]
    refine den_ite (fun h3 => ?_) (fun h3 => ?_)
    · simp only [E.den, dEq, iEq, sEq] at h3
      ((first | refine den_call ?_ (c_spec_l1Put (namesOf l (bdF l i)) (nth l i).name (by omega)) (ty_strS _) ?_ | refine den_callR ?_ (c_spec_l1Put (namesOf l (bdF l i)) (nth l i).name (by omega)) (ty_strS _) ?_ | refine den_call ?_ (.ofR (c_spec_l1Put (namesOf l (bdF l i)) (nth l i).name (by omega))) (ty_strS _) ?_); (focus (simp only [VC.den, E.den, dEq, gsH_nil, and_true, row_Entry, cells_Entry]; try exact rfl)); (simp only [List.cons_append, List.nil_append]))
      refine den_next h2 ?_ trivial
      simp only [E.den, dEq, iEq, sEq]
      rw [ar_add (by omega) (by omega)]
      show [encS (putG ltB (namesOf l (bdF l i)) (nth l i).name), _] = _
      rw [names_put hr h2, names_congr fun a _ => show (bdF l i a || decide (a = i)) = bdF l (i + 1) a by
        unfold bdF
        by_cases e : a = i
        · subst e; simp [h3]
        · have : a < i + 1 ↔ a < i := by omega
          simp [e, this]]
      rfl
    · simp only [E.den, dEq, iEq, sEq] at h3
      refine den_next h2 ?_ trivial
      simp only [E.den, dEq, iEq, sEq]
      rw [ar_add (by omega) (by omega), names_congr fun a _ => show bdF l i a = bdF l (i + 1) a by
        unfold bdF
        by_cases e : a = i
        · subst e; simp [h3]
        · have : a < i + 1 ↔ a < i := by omega
          simp [this]]
      rfl
  · simp only [E.den, dEq, iEq, sEq] at h2
    obtain rfl : i = l.length := by simp at h2; omega
    have hbd : namesOf l (bdF l l.length) = namesOf l (badS l) := names_congr fun a ha => by simp [bdF, badS, ha]
    rw [hbd]
    refine den_for l.length (fun i => [encS (namesTo l (stuckS l) i), .int .i64 i]) (fun _ => True) rfl trivial ?_
    intro i hi _ _
    simp only [List.cons_append, List.nil_append]
    have hnl := namesTo_len l (stuckS l) i
    refine den_ite (fun h3 => ?_) (fun h3 => ?_)
    · simp only [E.den, dEq, iEq, sEq] at h3
      have h3 : i < l.length := by simp at h3; exact h3
      (refine den_cond (fun hg => ?_) ?_; (focus (simp only [gsH, List.mem_cons, List.not_mem_nil, or_false, forall_eq_or_imp, forall_eq, E.den, dEq, iEq, sEq] at hg ⊢; (try simp only [D.bool.injEq] at hg); (try simp only [D.bool.injEq]); grind)))
      ((first | refine den_call ?_ (c_spec_l1HasText (namesOf l (badS l)) (nth l i).name) (trivial) ?_ | refine den_callR ?_ (c_spec_l1HasText (namesOf l (badS l)) (nth l i).name) (trivial) ?_ | refine den_call ?_ (.ofR (c_spec_l1HasText (namesOf l (badS l)) (nth l i).name)) (trivial) ?_); (focus (simp only [VC.den, E.den, dEq, gsH_nil, and_true, row_Entry, cells_Entry]; try exact rfl)); (simp only [List.cons_append, List.nil_append]))
      ((first | refine den_call ?_ (c_spec_l6Walk_false (linksL l) (nth l i).name _ (reach_walk l _).1 (reach_walk l _).2 (by omega)) (ty_strS _) ?_ | refine den_callR ?_ (c_spec_l6Walk_false (linksL l) (nth l i).name _ (reach_walk l _).1 (reach_walk l _).2 (by omega)) (ty_strS _) ?_ | refine den_call ?_ (.ofR (c_spec_l6Walk_false (linksL l) (nth l i).name _ (reach_walk l _).1 (reach_walk l _).2 (by omega))) (ty_strS _) ?_); (focus (simp only [VC.den, E.den, dEq, gsH_nil, and_true, row_Entry, cells_Entry]; try exact rfl)); (simp only [List.cons_append, List.nil_append]))
      rw [reachN_at hr h3, names_has hr h3]
      have hrl := names_len l (reachS l i)
      have hany := any_names hr (p := reachS l i) (q := badS l)
      generalize hR : namesOf l (reachS l i) = R at hany hrl
      refine den_for R.length (fun j => [.bool (badS l i || (R.take j).any (hasB (namesOf l (badS l)))), .int .i64 j]) (fun _ => True) ?_ trivial ?_
      · simp only [E.den, dEq, iEq, sEq]; simp
      intro j hj _ _
      simp only [List.cons_append, List.nil_append]
      refine den_ite (fun h4 => ?_) (fun h4 => ?_)
      · simp only [E.den, dEq, iEq, sEq] at h4
        have h4 : j < R.length := by simp at h4; exact h4
        (refine den_cond (fun hg => ?_) ?_; (focus (simp only [gsH, List.mem_cons, List.not_mem_nil, or_false, forall_eq_or_imp, forall_eq, E.den, dEq, iEq, sEq] at hg ⊢; (try simp only [D.bool.injEq] at hg); (try simp only [D.bool.injEq]); grind)))
        ((first | refine den_call ?_ (c_spec_l1HasText (namesOf l (badS l)) (nth R j)) (trivial) ?_ | refine den_callR ?_ (c_spec_l1HasText (namesOf l (badS l)) (nth R j)) (trivial) ?_ | refine den_call ?_ (.ofR (c_spec_l1HasText (namesOf l (badS l)) (nth R j))) (trivial) ?_); (focus (simp only [VC.den, E.den, dEq, gsH_nil, and_true, row_str, cells_str]; try exact rfl)); (simp only [List.cons_append, List.nil_append]))
        refine den_next h4 ?_ trivial
        simp only [E.den, dEq, iEq, sEq]
        rw [ar_add (by omega) (by omega), any_take h4, ← Bool.or_assoc]; rfl
      · simp only [E.den, dEq, iEq, sEq] at h4
        obtain rfl : j = R.length := by simp at h4; omega
        rw [List.take_length, hany]
        have hst : (badS l i || anyT (fun j => reachS l i j && badS l j) l.length) = stuckS l i := rfl
        rw [hst]
        refine den_ite (fun h5 => ?_) (fun h5 => ?_)
        · simp only [E.den, dEq, iEq, sEq] at h5
          refine den_cond (fun _ => ?_) ?_
          · simp [E.den]; omega
          refine den_next1 h3 ?_ trivial
          simp only [E.den, dEq, iEq, sEq, row_Entry, cells_Entry]
          rw [ar_add (by omega) (by omega), namesTo_succ, if_pos h5, nm_snoc]; rfl
        · simp only [E.den, dEq, iEq, sEq] at h5
          refine den_next1 h3 ?_ trivial
          simp only [E.den, dEq, iEq, sEq]
          rw [ar_add (by omega) (by omega), namesTo_succ, if_neg (by simp [h5])]; rfl
    · simp only [E.den, dEq, iEq, sEq] at h3
      obtain rfl : i = l.length := by simp at h3; omega
      refine den_ret ?_
      simp only [E.den, dEq, iEq, sEq]
      unfold stuckN
      rw [if_pos hr]; rfl
def readyL (ls : List Link) (nm : ByteArray) (done : List ByteArray) : Bool := allTo (fun k => !decide ((nth ls k).frm = nm) || hasB done (nth ls k).to) ls.length
theorem c_spec_l6Ready (ls : List Link) (nm : ByteArray) (done : List ByteArray) : Fun Tryz.prog 49 none [encS ls, .str nm, encS done] (.bool (readyL ls nm done)) [] := by
  refine Fun.ofV vc_spec_l6Ready_ok ty_spec_l6Ready_ok rfl ?_ (fun hfit => ?_)
  · exact ⟨ty_LinkS ls, trivial, ty_strS done, trivial⟩
  have hl : ls.length ≤ 9223372036854775807 := fits_encS hfit.1
  unfold vc_spec_l6Ready
  refine den_for ls.length (fun k => [.int .i64 k]) (fun k => allTo (fun k => !decide ((nth ls k).frm = nm) || hasB done (nth ls k).to) k = true) rfl rfl ?_
  intro k hk hI _
  simp only [List.cons_append, List.nil_append]
  refine den_ite (fun h2 => ?_) (fun h2 => ?_)
  · simp only [E.den, dEq, iEq, sEq] at h2
    have h2 : k < ls.length := by simp at h2; exact h2
    (refine den_cond (fun hg => ?_) ?_; (focus (simp only [gsH, List.mem_cons, List.not_mem_nil, or_false, forall_eq_or_imp, forall_eq, E.den, dEq, iEq, sEq] at hg ⊢; (try simp only [D.bool.injEq] at hg); (try simp only [D.bool.injEq]); grind)))
    ((first | refine den_call ?_ (c_spec_l1HasText done (nth ls k).to) (trivial) ?_ | refine den_callR ?_ (c_spec_l1HasText done (nth ls k).to) (trivial) ?_ | refine den_call ?_ (.ofR (c_spec_l1HasText done (nth ls k).to)) (trivial) ?_); (focus (simp only [VC.den, E.den, dEq, gsH_nil, and_true, row_Link, cells_Link]; try exact rfl)); (simp only [List.cons_append, List.nil_append]))
    refine den_ite (fun h3 => ?_) (fun h3 => ?_)
    · simp only [E.den, dEq, iEq, sEq, row_Link, cells_Link] at h3
      have hb : (!decide ((nth ls k).frm = nm) || hasB done (nth ls k).to) = false := by grind
      refine den_ret ?_
      simp only [E.den, dEq, iEq, sEq]
      unfold readyL
      rw [allTo_bad h2 hb]
    · simp only [E.den, dEq, iEq, sEq, row_Link, cells_Link] at h3
      have hb : (!decide ((nth ls k).frm = nm) || hasB done (nth ls k).to) = true := by grind
      refine den_next h2 ?_ ?_
      · simp only [E.den, dEq, iEq, sEq]
        rw [ar_add (by omega) (by omega)]; rfl
      · show (allTo _ k && _) = true
        rw [hI]; exact hb
  · simp only [E.den, dEq, iEq, sEq] at h2
    obtain rfl : k = ls.length := by simp at h2; omega
    refine den_ret ?_
    simp only [E.den, dEq, iEq, sEq]
    unfold readyL
    rw [hI]
theorem nm_has {l : List Entry} (hr : regB l = true) {o : List Nat} (ho : ∀ x ∈ o, x < l.length) {i : Nat} (hi : i < l.length) : hasB (nmL l o) (nth l i).name = o.contains i := by
  rw [Bool.eq_iff_iff, hasB_iff, List.contains_eq_mem, decide_eq_true_eq]
  unfold nmL
  rw [List.mem_map]
  constructor
  · rintro ⟨j, h1, h2⟩
    rwa [← reg_inj hr (ho j h1) hi h2]
  · intro h
    exact ⟨i, h, rfl⟩
theorem ready_links {l : List Entry} (hr : regB l = true) {o : List Nat} (ho : ∀ x ∈ o, x < l.length) {i : Nat} (hi : i < l.length) : readyL (linksL l) (nth l i).name (nmL l o) = allTo (fun k => !needS l i k || o.contains k) l.length := by
  rw [Bool.eq_iff_iff]
  unfold readyL
  rw [allTo_iff, allTo_iff]
  have hE : ∀ c, c < l.length → (needS l i c = true ↔ Edge (linksL l) false (nth l i).name (nth l c).name) := fun c hc => by
    rw [link_edge hr]
    constructor
    · intro h; exact ⟨i, c, hi, hc, h, rfl, rfl⟩
    · rintro ⟨a, b, h1, h2, h3, h4, h5⟩
      rw [← reg_inj hr h1 hi h4, ← reg_inj hr h2 hc h5]; exact h3
  constructor
  · intro h c hc
    cases hn : needS l i c with
    | false => rfl
    | true =>
      obtain ⟨x, hx, h1, h2⟩ := (hE c hc).1 hn
      obtain ⟨k, hk, rfl⟩ := List.getElem_of_mem hx
      have e : nth (linksL l) k = (linksL l)[k] := by simp [nth, List.getD_eq_getElem?_getD, hk]
      have := h k hk
      rw [e] at this
      have h1' : (linksL l)[k].frm = (nth l i).name := h1
      have h2' : (linksL l)[k].to = (nth l c).name := h2
      rw [h1', h2', nm_has hr ho hc] at this
      simpa using this
  · intro h k hk
    cases hd : decide ((nth (linksL l) k).frm = (nth l i).name) with
    | false => rfl
    | true =>
      rw [decide_eq_true_eq] at hd
      obtain ⟨a, c, h1, h2, h3, h4, h5⟩ := (link_edge hr).1 ⟨_, nth_mem hk, hd, rfl⟩
      have ha : a = i := reg_inj hr h1 hi h4
      subst ha
      have h5' : (nth l c).name = (nth (linksL l) k).to := h5
      have := h c h2
      rw [h3] at this
      rw [← h5', nm_has hr ho h2]
      simpa using this
structure SoSt where
  o : List Nat
  m : Bool
end Go.Proofs.YtgaeigomhhbkfaaGreat
