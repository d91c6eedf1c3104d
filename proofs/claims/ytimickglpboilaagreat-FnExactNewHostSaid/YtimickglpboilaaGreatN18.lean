/- Contracts: a text put into ascending ones, links, who misses, what is reached by links: the reference's side. -/
import Derived.Test.YtimickglpboilaaGreatN17
import Derived.Test.YtimickglpboilaaGreatN16
set_option linter.unusedVariables false
set_option linter.unusedSimpArgs false
set_option maxRecDepth 100000
set_option linter.unusedSectionVars false
namespace Go.Proofs.YtimickglpboilaaGreat
open Go.RowKit Go
variable [GC]
abbrev putB (l : List ByteArray) (s : ByteArray) : List ByteArray := putG ltB l s
theorem nm_snoc2 (l : List ByteArray) (s t : ByteArray) : D.sl ((l.map Enc.cells ++ [[.str s]]) ++ [[.str t]]) = encS (l ++ [s] ++ [t]) := by simp [encS, cells_str]
theorem c_spec_l1Put (l : List ByteArray) (s : ByteArray) (hl : l.length ≤ 1048576) : FunR Tryz.prog 43 none [encS l, .str s] (encS (putB l s)) [] [(0, 1)] := by
 refine FunR.ofV vc_spec_l1Put_ok ty_spec_l1Put_ok rt_spec_l1Put_ok rfl ?_ (fun hfit => ?_)
 ·exact ⟨ty_strS l, trivial, trivial⟩
 unfold vc_spec_l1Put
 refine den_for l.length (fun k => [.bool (putK ltB l s k).2, encS (putK ltB l s k).1, .int .i64 k]) (fun _ => True) rfl trivial ?_
 intro k hk _ _
 simp only [cA]
 have hlen := putK_len (lt := ltB) l s k
 have hlen2 : (putK ltB l s k).1.length ≤ 1048577 := by split at hlen <;> omega
 refine den_ite (fun h2 => ?_) (fun h2 => ?_)
 ·simp only [E.den, dEq, iEq, sEq] at h2
  have h2 : k < l.length := by simp at h2; exact h2
  have hnth : l.getD k default = nth l k := rfl
  (refine den_cond (fun hg => ?_) ?_; (focus (simp only [gsH, gE, E.den, dEq, iEq, sEq] at hg ⊢; (try simp only [D.bool.injEq] at hg); (try simp only [D.bool.injEq]); grind)))
  refine den_ite (fun h3 => ?_) (fun h3 => ?_)
  ·simp only [E.den, dEq, iEq, sEq, row_str, cells_str] at h3
   have h3 : (putK ltB l s k).2 = false ∧ ltB (nth l k) s = false := by simpa using h3
   refine den_ite (fun h4 => ?_) (fun h4 => ?_)
   ·simp only [E.den, dEq, iEq, sEq, row_str, cells_str] at h4
    have h4 : ¬ nth l k = s := by simpa using h4
    refine den_cond (fun _ => ?_) (den_cond (fun _ => ?_) ?_)
    ·simp [E.den]; omega
    ·simp [E.den]; omega
    refine den_next h2 ?_ trivial
    simp only [E.den, dEq, iEq, sEq, row_str, cells_str]
    rw [ar_add (by omega) (by omega), nm_snoc2]
    simp only [putK, h3.1, hnth, h3.2, h4, Bool.false_eq_true, if_false]
    rfl
   ·simp only [E.den, dEq, iEq, sEq, row_str, cells_str] at h4
    have h4 : nth l k = s := by simpa using h4
    refine den_cond (fun _ => ?_) ?_
    ·simp [E.den]; omega
    refine den_next h2 ?_ trivial
    simp only [E.den, dEq, iEq, sEq, row_str, cells_str]
    rw [ar_add (by omega) (by omega), nm_snoc]
    have h5 := h3.2
    rw [h4] at h5
    simp only [putK, h3.1, hnth, h4, h5, Bool.false_eq_true, if_false, if_true]
    rfl
  ·simp only [E.den, dEq, iEq, sEq, row_str, cells_str] at h3
   refine den_cond (fun _ => ?_) ?_
   ·simp [E.den]; omega
   refine den_next h2 ?_ trivial
   simp only [E.den, dEq, iEq, sEq, row_str, cells_str]
   rw [ar_add (by omega) (by omega), nm_snoc]
   cases hd : (putK ltB l s k).2 with
   | true =>
    simp only [putK, hd, hnth, if_true]
    rfl
   | false =>
    have h5 : ltB (nth l k) s = true := by
     rw [hd] at h3; simpa using h3
    simp only [putK, hd, hnth, h5, Bool.false_eq_true, if_false, if_true]
    rfl
 ·simp only [E.den, dEq, iEq, sEq] at h2
  obtain rfl : k = l.length := by simp at h2; omega
  refine den_ite (fun h3 => ?_) (fun h3 => ?_)
  ·simp only [E.den, dEq, iEq, sEq] at h3
   have h3 : (putK ltB l s l.length).2 = false := by simpa using h3
   refine den_cond (fun _ => ?_) (den_ret ?_)
   ·simp [E.den]; omega
   ·simp only [E.den, dEq, iEq, sEq]
    rw [nm_snoc]
    unfold putB putG
    rw [h3]
    rfl
  ·simp only [E.den, dEq, iEq, sEq] at h3
   have h3 : (putK ltB l s l.length).2 = true := by simpa using h3
   refine den_ret ?_
   simp only [E.den, dEq, iEq, sEq]
   unfold putB putG
   rw [h3]
   rfl
theorem c_spec_LinksOf (l : List Entry) : FunR Tryz.prog 39 none [encS l] (encS (linksL l)) [] [(0, 3)] := by
 refine FunR.ofV vc_spec_LinksOf_ok ty_spec_LinksOf_ok rt_spec_LinksOf_ok rfl ?_ (fun hfit => ?_)
 ·exact ⟨ty_EntryS l, trivial⟩
 unfold vc_spec_LinksOf
 ((first | refine den_call ?_ (c_spec_IsRegistry l) (trivial) ?_ | refine den_callR ?_ (c_spec_IsRegistry l) (trivial) ?_ | refine den_call ?_ (.ofR (c_spec_IsRegistry l)) (trivial) ?_); (focus (simp only [VC.den, E.den, dEq, gsH_nil, and_true]; try exact rfl)); (simp only [cA]))
 refine den_ite (fun h => ?_) (fun h => ?_)
 ·simp only [E.den, dEq, iEq, sEq] at h
  have : regB l = false := by simpa using h
  exact den_ret (by simp [E.den, linksL, this, encS])
 simp only [E.den, dEq, iEq, sEq] at h
 have hr : regB l = true := by simpa using h
 have h6 := (reg_parts hr).1
 refine den_for l.length (fun i => [encS (linksTo l i), .int .i64 i]) (fun _ => True) rfl trivial ?_
 intro i hi _ _
 simp only [cA]
 refine den_ite (fun h2 => ?_) (fun h2 => ?_)
 ·simp only [E.den, dEq, iEq, sEq] at h2
  have h2 : i < l.length := by simp at h2; exact h2
  have h3n := reg_needs hr h2
  (refine den_cond (fun hg => ?_) ?_; (focus (simp only [gsH, gE, E.den, dEq, iEq, sEq] at hg ⊢; (try simp only [D.bool.injEq] at hg); (try simp only [D.bool.injEq]); grind)))
  refine den_for (nth l i).needs.length (fun j => [encS (linksTo l i ++ linksOne l i j), .int .i64 j]) (fun _ => True) ?_ trivial ?_
  ·simp only [E.den, dEq, iEq, sEq]; simp [linksOne]
  intro j hj _ _
  simp only [cA]
  have hfew := links_few hr h2 j hj
  refine den_ite (fun h3 => ?_) (fun h3 => ?_)
  ·simp only [E.den, dEq, iEq, sEq, row_Entry, cells_Entry] at h3
   have h3 : j < (nth l i).needs.length := by simp at h3; exact h3
   (refine den_cond (fun hg => ?_) ?_; (focus (simp only [gsH, gE, E.den, dEq, iEq, sEq, row_Entry, cells_Entry] at hg ⊢; (try simp only [D.bool.injEq] at hg); (try simp only [D.bool.injEq]); grind)))
   ((first | refine den_call ?_ (c_spec_ProviderOf l (nth l i).name (nth (nth l i).needs j)) (trivial) ?_ | refine den_callR ?_ (c_spec_ProviderOf l (nth l i).name (nth (nth l i).needs j)) (trivial) ?_ | refine den_call ?_ (.ofR (c_spec_ProviderOf l (nth l i).name (nth (nth l i).needs j))) (trivial) ?_); (focus (simp only [VC.den, E.den, dEq, gsH_nil, and_true, row_Entry, cells_Entry, row_Need, Int.toNat_natCast]; try exact rfl)); (simp only [cA]))
   cases hc : prv l i j with
   | none =>
    rw [provN_none hc]
    refine den_ite (fun h4 => ?_) (fun h4 => ?_)
    ·simp only [E.den, dEq, iEq, sEq] at h4
     simp [noText] at h4
    refine den_next h3 ?_ trivial
    simp only [E.den, dEq, iEq, sEq]
    rw [ar_add (by omega) (by omega), links_none hc]; rfl
   | some c =>
    rw [provN_some hc]
    have hcl := prv_lt hc
    refine den_ite (fun h4 => ?_) (fun h4 => ?_)
    ·refine den_cond (fun _ => ?_) ?_
     ·simp [E.den]; simp at hfew; omega
     refine den_next h3 ?_ trivial
     simp only [E.den, dEq, iEq, sEq, row_Entry, cells_Entry, row_Need, cells_Need]
     rw [ar_add (by omega) (by omega), links_some hc, ← List.append_assoc, ← link_snoc _ _ []]; rfl
    ·simp only [E.den, dEq, iEq, sEq] at h4
     have := reg_name hr hcl
     unfold noText at this
     simp [this] at h4
  ·simp only [E.den, dEq, iEq, sEq, row_Entry, cells_Entry] at h3
   obtain rfl : j = (nth l i).needs.length := by simp at h3; omega
   refine den_next1 h2 ?_ trivial
   simp only [E.den, dEq, iEq, sEq]
   rw [ar_add (by omega) (by omega), linksTo_succ]; rfl
 ·simp only [E.den, dEq, iEq, sEq] at h2
  obtain rfl : i = l.length := by simp at h2; omega
  exact den_ret (by simp [E.den, linksL, hr])
theorem names_len (l : List Entry) (p : Nat → Bool) : (namesOf l p).length ≤ l.length := namesTo_len l p l.length
theorem c_spec_MissingOf (l : List Entry) : FunR Tryz.prog 40 none [encS l] (encS (missN l)) [] [(0, 1)] := by
 refine FunR.ofV vc_spec_MissingOf_ok ty_spec_MissingOf_ok rt_spec_MissingOf_ok rfl ?_ (fun hfit => ?_)
 ·exact ⟨ty_EntryS l, trivial⟩
 unfold vc_spec_MissingOf
 ((first | refine den_call ?_ (c_spec_IsRegistry l) (trivial) ?_ | refine den_callR ?_ (c_spec_IsRegistry l) (trivial) ?_ | refine den_call ?_ (.ofR (c_spec_IsRegistry l)) (trivial) ?_); (focus (simp only [VC.den, E.den, dEq, gsH_nil, and_true]; try exact rfl)); (simp only [cA]))
 refine den_ite (fun h => ?_) (fun h => ?_)
 ·simp only [E.den, dEq, iEq, sEq] at h
  have : regB l = false := by simpa using h
  exact den_ret (by simp [E.den, missN, this, encS])
 simp only [E.den, dEq, iEq, sEq] at h
 have hr : regB l = true := by simpa using h
 have h6 := (reg_parts hr).1
 refine den_for l.length (fun i => [encS (namesOf l (mF l i)), .int .i64 i]) (fun _ => True) ?_ trivial ?_
 ·simp only [E.den, dEq, iEq, sEq]
  rw [show namesOf l (mF l 0) = [] by rw [← names_none l]; exact names_congr fun a _ => by simp [mF]]
  rfl
 intro i hi _ _
 simp only [cA]
 refine den_ite (fun h2 => ?_) (fun h2 => ?_)
 ·simp only [E.den, dEq, iEq, sEq] at h2
  have h2 : i < l.length := by simp at h2; exact h2
  have h3n := reg_needs hr h2
  (refine den_cond (fun hg => ?_) ?_; (focus (simp only [gsH, gE, E.den, dEq, iEq, sEq] at hg ⊢; (try simp only [D.bool.injEq] at hg); (try simp only [D.bool.injEq]); grind)))
  refine den_for (nth l i).needs.length (fun j => [encS (namesOf l (mG l i j)), .int .i64 j]) (fun _ => True) ?_ trivial ?_
  ·simp only [E.den, dEq, iEq, sEq]
   rw [show namesOf l (mG l i 0) = namesOf l (mF l i) from names_congr fun a _ => by
    unfold mF mG
    by_cases e : a = i
    ·subst e; simp [missTo, anyT]
    ·by_cases e2 : a < i <;> simp [e, e2]]
   rfl
  intro j hj _ _
  simp only [cA]
  refine den_ite (fun h3 => ?_) (fun h3 => ?_)
  ·simp only [E.den, dEq, iEq, sEq, row_Entry, cells_Entry] at h3
   have h3 : j < (nth l i).needs.length := by simp at h3; exact h3
   (refine den_cond (fun hg => ?_) ?_; (focus (simp only [gsH, gE, E.den, dEq, iEq, sEq, row_Entry, cells_Entry] at hg ⊢; (try simp only [D.bool.injEq] at hg); (try simp only [D.bool.injEq]); grind)))
   ((first | refine den_call ?_ (c_spec_ProviderOf l (nth l i).name (nth (nth l i).needs j)) (trivial) ?_ | refine den_callR ?_ (c_spec_ProviderOf l (nth l i).name (nth (nth l i).needs j)) (trivial) ?_ | refine den_call ?_ (.ofR (c_spec_ProviderOf l (nth l i).name (nth (nth l i).needs j))) (trivial) ?_); (focus (simp only [VC.den, E.den, dEq, gsH_nil, and_true, row_Entry, cells_Entry, row_Need, Int.toNat_natCast]; try exact rfl)); (simp only [cA]))
   have hnl := names_len l (mG l i j)
   cases hc : prv l i j with
   | none =>
    rw [provN_none hc]
    refine den_ite (fun h4 => ?_) (fun h4 => ?_)
    ·((first | refine den_call ?_ (c_spec_l1Put (namesOf l (mG l i j)) (nth l i).name (by omega)) (ty_strS _) ?_ | refine den_callR ?_ (c_spec_l1Put (namesOf l (mG l i j)) (nth l i).name (by omega)) (ty_strS _) ?_ | refine den_call ?_ (.ofR (c_spec_l1Put (namesOf l (mG l i j)) (nth l i).name (by omega))) (ty_strS _) ?_); (focus (simp only [VC.den, E.den, dEq, gsH_nil, and_true, row_Entry, cells_Entry]; try exact rfl)); (simp only [cA]))
     refine den_next h3 ?_ trivial
     simp only [E.den, dEq, iEq, sEq]
     rw [ar_add (by omega) (by omega)]
     show [encS (putG ltB (namesOf l (mG l i j)) (nth l i).name), _] = _
     rw [names_put hr h2, show namesOf l (mG l i (j + 1)) = namesOf l (fun a => mG l i j a || decide (a = i)) from names_congr fun a _ => by
      unfold mG
      by_cases e : a = i
      ·subst e; simp [missTo, anyT, hc]
      ·by_cases e2 : a < i <;> simp [e, e2]]
     rfl
    ·simp only [E.den, dEq, iEq, sEq] at h4
     simp [noText] at h4
   | some c =>
    rw [provN_some hc]
    have hcl := prv_lt hc
    refine den_ite (fun h4 => ?_) (fun h4 => ?_)
    ·simp only [E.den, dEq, iEq, sEq] at h4
     have := reg_name hr hcl
     unfold noText at this
     simp [this] at h4
    ·refine den_next h3 ?_ trivial
     simp only [E.den, dEq, iEq, sEq]
     rw [ar_add (by omega) (by omega), show namesOf l (mG l i (j + 1)) = namesOf l (mG l i j) from names_congr fun a _ => by
      unfold mG
      by_cases e : a = i
      ·subst e; simp [missTo, anyT, hc]
      ·simp [e]]
     rfl
  ·simp only [E.den, dEq, iEq, sEq, row_Entry, cells_Entry] at h3
   obtain rfl : j = (nth l i).needs.length := by simp at h3; omega
   refine den_next1 h2 ?_ trivial
   simp only [E.den, dEq, iEq, sEq]
   rw [ar_add (by omega) (by omega), show namesOf l (mG l i (nth l i).needs.length) = namesOf l (mF l (i + 1)) from names_congr fun a _ => by
    unfold mF mG
    by_cases e : a = i
    ·subst e; simp [missS]
    ·have : a < i + 1 ↔ a < i := by omega
     by_cases e2 : a < i <;> simp [e, e2, this]]
   rfl
 ·simp only [E.den, dEq, iEq, sEq] at h2
  obtain rfl : i = l.length := by simp at h2; omega
  refine den_ret ?_
  simp only [E.den, dEq, iEq, sEq]
  unfold missN
  rw [if_pos hr, names_congr fun a ha => show mF l l.length a = missS l a by simp [mF, ha]]
/-! What is reached by links -/
theorem nodup_len {α : Type} [DecidableEq α] : ∀ {a b : List α}, a.Nodup → (∀ x ∈ a, x ∈ b) → a.length ≤ b.length
 | [], b, _, _ => by simp
 | x :: a, b, hn, hs => by
  have hx : x ∈ b := hs x (by simp)
  rw [List.nodup_cons] at hn
  have := nodup_len (a := a) (b := b.erase x) hn.2 fun y hy => by
   have hne : y ≠ x := fun e => hn.1 (e ▸ hy)
   exact (List.mem_erase_of_ne hne).2 (hs y (by simp [hy]))
  rw [List.length_erase_of_mem hx] at this
  have hp : 0 < b.length := List.length_pos_of_mem hx
  simp only [List.length_cons]; omega
theorem way_to {ls : List Link} {back : Bool} {a b : ByteArray} (h : WayT (Edge ls back) a b) : b ∈ ls.map fun x => lTo x back := by
 have key : ∀ {a b}, Edge ls back a b → b ∈ ls.map fun x => lTo x back := by
  rintro a b ⟨x, hx, _, rfl⟩
  exact List.mem_map.2 ⟨x, hx, rfl⟩
 cases h with
 | edge e => exact key e
 | snoc _ e => exact key e
structure WI (ls : List Link) (back : Bool) (nm : ByteArray) (seen next : List ByteArray) : Prop where
 asc : Asc ltB seen
 way : ∀ x ∈ seen, WayT (Edge ls back) nm x
 nxt : ∀ x ∈ next, x = nm ∨ x ∈ seen
 cls : ∀ z, (z = nm ∨ z ∈ seen) → z ∈ next ∨ ∀ y, Edge ls back z y → y ∈ seen
 few : next.length ≤ seen.length + 1
theorem WI.len {ls : List Link} {back : Bool} {nm : ByteArray} {seen next : List ByteArray} (h : WI ls back nm seen next) : seen.length ≤ ls.length := by
 have := nodup_len (asc_nodup ordB h.asc) (b := ls.map fun x => lTo x back) fun x hx => way_to (h.way x hx)
 simpa using this
theorem WI.done {ls : List Link} {back : Bool} {nm : ByteArray} {seen : List ByteArray} (h : WI ls back nm seen []) (x : ByteArray) : x ∈ seen ↔ WayT (Edge ls back) nm x := by
 refine ⟨h.way x, fun hw => ?_⟩
 induction hw with
 | edge e =>
  rcases h.cls _ (.inl rfl) with h1 | h1
  ·simp at h1
  ·exact h1 _ e
 | snoc _ e ih =>
  rcases h.cls _ (.inr ih) with h1 | h1
  ·simp at h1
  ·exact h1 _ e
structure WJ (ls : List Link) (back : Bool) (nm t : ByteArray) (d : Nat) (seen next : List ByteArray) (j : Nat) : Prop where
 asc : Asc ltB seen
 way : ∀ x ∈ seen, WayT (Edge ls back) nm x
 nxt : ∀ x ∈ next, x = nm ∨ x ∈ seen
 cls : ∀ z, (z = nm ∨ z ∈ seen) → z ∈ next ∨ (z = t ∧ ∀ i, i < j → lFrom (nth ls i) back = t → lTo (nth ls i) back ∈ seen) ∨ ∀ y, Edge ls back z y → y ∈ seen
 few : next.length ≤ seen.length
 src : t = nm ∨ WayT (Edge ls back) nm t
 cnt : (ls.length - seen.length) + next.length ≤ d
 le : j ≤ ls.length
theorem WJ.len {ls : List Link} {back : Bool} {nm t : ByteArray} {d j : Nat} {seen next : List ByteArray} (h : WJ ls back nm t d seen next j) : seen.length ≤ ls.length := by
 have := nodup_len (asc_nodup ordB h.asc) (b := ls.map fun x => lTo x back) fun x hx => way_to (h.way x hx)
 simpa using this
theorem WI.start {ls : List Link} {back : Bool} {nm t : ByteArray} {seen next : List ByteArray} (h : WI ls back nm seen (t :: next)) : WJ ls back nm t (ls.length - seen.length + next.length) seen next 0 where
 asc := h.asc
 way := h.way
 nxt := fun x hx => h.nxt x (by simp [hx])
 cls := fun z hz => by
  rcases h.cls z hz with h1 | h1
  ·rcases List.mem_cons.1 h1 with rfl | h1
   ·exact .inr (.inl ⟨rfl, fun i hi => absurd hi (by omega)⟩)
   ·exact .inl h1
  ·exact .inr (.inr h1)
 few := by have := h.few; simp only [List.length_cons] at this; omega
 src := (h.nxt t (by simp)).imp id (h.way t)
 cnt := Nat.le_refl _
 le := Nat.zero_le _
theorem WJ.skip {ls : List Link} {back : Bool} {nm t : ByteArray} {d j : Nat} {seen next : List ByteArray} (h : WJ ls back nm t d seen next j) (hj : j < ls.length) (hs : lFrom (nth ls j) back = t → lTo (nth ls j) back ∈ seen) : WJ ls back nm t d seen next (j + 1) :=
 { h with
  le := hj
  cls := fun z hz => by
   rcases h.cls z hz with h1 | ⟨rfl, h1⟩ | h1
   ·exact .inl h1
   ·refine .inr (.inl ⟨rfl, fun i hi => ?_⟩)
    rcases Nat.lt_or_ge i j with h2 | h2
    ·exact h1 i h2
    ·obtain rfl : i = j := by omega
     exact hs
   ·exact .inr (.inr h1) }
theorem WJ.add {ls : List Link} {back : Bool} {nm t : ByteArray} {d j : Nat} {seen next : List ByteArray} (h : WJ ls back nm t d seen next j) (hj : j < ls.length) (hf : lFrom (nth ls j) back = t) (hn : lTo (nth ls j) back ∉ seen) :
  WJ ls back nm t d (putB seen (lTo (nth ls j) back)) (next ++ [lTo (nth ls j) back]) (j + 1) := by
 have he : Edge ls back t (lTo (nth ls j) back) := ⟨nth ls j, nth_mem hj, hf, rfl⟩
 have hw : WayT (Edge ls back) nm (lTo (nth ls j) back) := by
  rcases h.src with e | hw
  ·rw [e] at he; exact .edge he
  ·exact .snoc hw he
 generalize hs : lTo (nth ls j) back = s at *
 have hl : (putB seen s).length = seen.length + 1 := by
  have h1 := putG_len (lt := ltB) seen s
  have h2 := nodup_len (a := s :: seen) (b := putB seen s) (List.nodup_cons.2 ⟨hn, asc_nodup ordB h.asc⟩) fun x hx => by
   rw [putG_mem]
   rcases List.mem_cons.1 hx with rfl | hx
   ·exact .inr rfl
   ·exact .inl hx
  simp only [List.length_cons] at h2
  have h1 : (putB seen s).length ≤ seen.length + 1 := h1
  omega
 have hasc : Asc ltB (putB seen s) := putG_asc ordB h.asc s
 have hway : ∀ x ∈ putB seen s, WayT (Edge ls back) nm x := fun x hx => by
  rcases (putG_mem _ _ _).1 hx with hx | rfl
  ·exact h.way x hx
  ·exact hw
 have hle : (putB seen s).length ≤ ls.length := by
  have := nodup_len (asc_nodup ordB hasc) (b := ls.map fun x => lTo x back) fun x hx => way_to (hway x hx)
  simpa using this
 refine ⟨hasc, hway, fun x hx => ?_, fun z hz => ?_, ?_, h.src, ?_, hj⟩
 ·rw [putG_mem]
  rcases List.mem_append.1 hx with hx | hx
  ·exact (h.nxt x hx).imp id .inl
  ·simp at hx; exact .inr (.inr hx)
 ·have hz' : (z = nm ∨ z ∈ seen) ∨ z = s := by
   rcases hz with hz | hz
   ·exact .inl (.inl hz)
   ·rcases (putG_mem _ _ _).1 hz with hz | hz
    ·exact .inl (.inr hz)
    ·exact .inr hz
  rcases hz' with hz' | rfl
  ·rcases h.cls z hz' with h1 | ⟨rfl, h1⟩ | h1
   ·exact .inl (by simp [h1])
   ·refine .inr (.inl ⟨rfl, fun i hi hfi => ?_⟩)
    rw [putG_mem]
    rcases Nat.lt_or_ge i j with h2 | h2
    ·exact .inl (h1 i h2 hfi)
    ·obtain rfl : i = j := by omega
     exact .inr hs
   ·exact .inr (.inr fun y hy => (putG_mem _ _ _).2 (.inl (h1 y hy)))
  ·exact .inl (by simp)
 ·have := h.few
  rw [List.length_append, hl]; simp; omega
 ·have := h.cnt
  rw [List.length_append, hl]
  rw [hl] at hle
  simp only [List.length_cons, List.length_nil]
  omega
theorem WJ.done {ls : List Link} {back : Bool} {nm t : ByteArray} {d : Nat} {seen next : List ByteArray} (h : WJ ls back nm t d seen next ls.length) : WI ls back nm seen next where
 asc := h.asc
 way := h.way
 nxt := h.nxt
 cls := fun z hz => by
  rcases h.cls z hz with h1 | ⟨rfl, h1⟩ | h1
  ·exact .inl h1
  ·refine .inr ?_
   rintro y ⟨x, hx, h2, rfl⟩
   obtain ⟨i, hi, rfl⟩ := List.getElem_of_mem hx
   have e : nth ls i = ls[i] := by simp [nth, List.getD_eq_getElem?_getD, hi]
   have := h1 i hi (by rw [e]; exact h2)
   rwa [e] at this
  ·exact .inr h1
 few := by have := h.few; omega
structure WSt where
 seen : List ByteArray
 next : List ByteArray
structure WSu where
 seen : List ByteArray
 next : List ByteArray
 j : Nat
theorem cut_one (s : ByteArray) (l : List ByteArray) : cutD (encS (s :: l)) 1 (((s :: l).length : Nat) : Int) = encS l := by
 simp [cutD, encS]
 exact List.take_of_length_le (by simp)
theorem den_iteF {P : Program} {tab : Nat → List CT} {env : List D} {Q : D → List D → Prop} {L : List (List D → Prop)} {c : E} {a b : VC}
  (h : (c.den env).toB = false) (hb : b.den P tab env Q L) : (VC.ite c a b).den P tab env Q L := ⟨fun q => by rw [h] at q; exact Bool.noConfusion q, fun _ => hb⟩
theorem c_spec_l6Walk_false (ls : List Link) (nm : ByteArray) (S : List ByteArray) (hA : Asc ltB S) (hS : ∀ x, x ∈ S ↔ WayT (Edge ls false) nm x) (hl : ls.length ≤ 1000) : FunR Tryz.prog 42 none [encS ls, .str nm, .bool false] (encS S) [] [(0, 1)] := by
 refine FunR.ofV vc_spec_l6Walk_ok ty_spec_l6Walk_ok rt_spec_l6Walk_ok rfl ?_ (fun hfit => ?_)
 ·exact ⟨ty_LinkS ls, trivial, trivial, trivial⟩
 unfold vc_spec_l6Walk
 refine den_loop WSt (fun s => [encS s.seen, encS s.next]) (fun s => WI ls false nm s.seen s.next) (fun s => (ls.length - s.seen.length) + s.next.length) ⟨[], [nm]⟩ (fun s s' h => ?_) ?_ ?_ ?_
 ·simp only [List.cons.injEq] at h
  have h1 := congrArg lenD h.1
  have h2 := congrArg lenD h.2.1
  rw [encS_len, encS_len] at h1 h2
  omega
 ·simp only [E.den, dEq, iEq, sEq]
  simp [encS, cells_str]
 ·exact ⟨asc_nil, by simp, by simp, by simp, by simp⟩
 rintro ⟨seen, next⟩ hI _
 simp only at hI
 simp only [cA]
 have hsl := hI.len
 have hfw := hI.few
 refine den_ite (fun h2 => ?_) (fun h2 => ?_)
 ·simp only [E.den, dEq, iEq, sEq] at h2
  have h2 : 0 < next.length := by simp at h2; exact h2
  obtain ⟨t, next, rfl⟩ : ∃ t r, next = t :: r := by
   cases next with
   | nil => simp at h2
   | cons t r => exact ⟨t, r, rfl⟩
  simp only [List.length_cons] at hfw
  refine den_cond (fun _ => ?_) (den_cond (fun _ => ?_) ?_)
  ·simp only [E.den, dEq, iEq, sEq]; simp; (try omega)
  ·simp only [E.den, dEq, iEq, sEq]; simp; (try omega)
  have ht : nth (t :: next) 0 = t := rfl
  refine den_loop WSu (fun s => [encS s.seen, encS s.next, .int .i64 s.j]) (fun s => WJ ls false nm t (ls.length - seen.length + next.length) s.seen s.next s.j) (fun s => ls.length - s.j) ⟨seen, next, 0⟩ (fun s s' h => ?_) ?_ hI.start ?_
  ·simp at h; omega
  ·simp only [E.den, dEq, iEq, sEq]
   rw [cut_one]
   rfl
  rintro ⟨sn, nx, j⟩ hJ _
  simp only at hJ
  simp only [cA]
  have hsn := hJ.len
  have hfn := hJ.few
  have hjl := hJ.le
  refine den_ite (fun h3 => ?_) (fun h3 => ?_)
  ·simp only [E.den, dEq, iEq, sEq] at h3
   have h3 : j < ls.length := by simp at h3; exact h3
   (refine den_cond (fun hg => ?_) ?_; (focus (simp only [gsH, gE, E.den, dEq, iEq, sEq] at hg ⊢; (try simp only [D.bool.injEq] at hg); (try simp only [D.bool.injEq]); grind)))
   refine den_iteF rfl ?_
   ((first | refine den_call ?_ (c_spec_l1HasText sn (lTo (nth ls j) false)) (trivial) ?_ | refine den_callR ?_ (c_spec_l1HasText sn (lTo (nth ls j) false)) (trivial) ?_ | refine den_call ?_ (.ofR (c_spec_l1HasText sn (lTo (nth ls j) false))) (trivial) ?_); (focus (simp only [VC.den, E.den, dEq, gsH_nil, and_true, row_Link, cells_Link, lTo]; try exact rfl)); (simp only [cA]))
   refine den_ite (fun h4 => ?_) (fun h4 => ?_)
   ·simp only [E.den, dEq, iEq, sEq, row_Link, cells_Link, row_str, cells_str, Int.toNat_zero, ht] at h4
    have h4 : lFrom (nth ls j) false = t ∧ hasB sn (lTo (nth ls j) false) = false := by simpa [lFrom] using h4
    have hns : lTo (nth ls j) false ∉ sn := fun hm => by
     have : hasB sn (lTo (nth ls j) false) = true := by unfold hasB; rw [List.any_eq_true]; exact ⟨_, hm, by simp⟩
     rw [this] at h4; simp at h4
    ((first | refine den_call ?_ (c_spec_l1Put sn (lTo (nth ls j) false) (by omega)) (ty_strS _) ?_ | refine den_callR ?_ (c_spec_l1Put sn (lTo (nth ls j) false) (by omega)) (ty_strS _) ?_ | refine den_call ?_ (.ofR (c_spec_l1Put sn (lTo (nth ls j) false) (by omega))) (ty_strS _) ?_); (focus (simp only [VC.den, E.den, dEq, gsH_nil, and_true, row_Link, cells_Link, lTo]; try exact rfl)); (simp only [cA]))
    refine den_cond (fun _ => ?_) ?_
    ·simp [E.den]; omega
    refine den_again ⟨putB sn (lTo (nth ls j) false), nx ++ [lTo (nth ls j) false], j + 1⟩ ?_ (hJ.add h3 h4.1 hns) (by simp only; omega)
    simp only [E.den, dEq, iEq, sEq, row_Link, cells_Link]
    rw [ar_add (by omega) (by omega), nm_snoc]; rfl
   ·simp only [E.den, dEq, iEq, sEq, row_Link, cells_Link, row_str, cells_str, Int.toNat_zero, ht] at h4
    refine den_again ⟨sn, nx, j + 1⟩ ?_ (hJ.skip h3 fun hf => ?_) (by simp only; omega)
    ·simp only [E.den, dEq, iEq, sEq]
     rw [ar_add (by omega) (by omega)]; rfl
    ·have h5 : hasB sn (lTo (nth ls j) false) = true := by
      have hf' := hf
      simp only [lFrom, Bool.false_eq_true, if_false, if_true] at hf'
      simpa [hf'] using h4
     unfold hasB at h5
     rw [List.any_eq_true] at h5
     obtain ⟨x, hx, e⟩ := h5
     rw [decide_eq_true_eq] at e
     rw [← e]; exact hx
  ·simp only [E.den, dEq, iEq, sEq] at h3
   obtain rfl : j = ls.length := by simp at h3; omega
   refine ⟨⟨sn, nx⟩, rfl, hJ.done, ?_⟩
   have := hJ.cnt
   simp only [List.length_cons]; omega
 ·simp only [E.den, dEq, iEq, sEq] at h2
  obtain rfl : next = [] := by cases next <;> simp at h2 ⊢
  refine den_ret ?_
  simp only [E.den, dEq, iEq, sEq]
  rw [asc_ext ordB hI.asc hA fun x => (hI.done x).trans (hS x).symm]
end Go.Proofs.YtimickglpboilaaGreat
/- Contracts: who is stuck, the order of the start: the reference's side. -/
namespace Go.Proofs.YtimickglpboilaaGreat
open Go.RowKit Go
variable [GC]
theorem reachN_at {l : List Entry} (hr : regB l = true) {i : Nat} (hi : i < l.length) : reachN l (nth l i).name = namesOf l (reachS l i) := by
 unfold reachN
 rw [if_pos hr, find_some hr hi]
def bdF (l : List Entry) (i a : Nat) : Bool := missS l a || (decide (a < i) && reachS l a a)
theorem any_names {l : List Entry} (hr : regB l = true) {p q : Nat → Bool} : (namesOf l p).any (hasB (namesOf l q)) = anyT (fun j => p j && q j) l.length := by
 rw [Bool.eq_iff_iff, List.any_eq_true, anyT_iff]
 constructor
 ·rintro ⟨x, h1, h2⟩
  obtain ⟨j, h3, h4, rfl⟩ := names_mem.1 h1
  rw [names_has hr h3] at h2
  exact ⟨j, h3, by rw [h4, h2]; rfl⟩
 ·rintro ⟨j, h3, h4⟩
  rw [Bool.and_eq_true] at h4
  exact ⟨_, names_mem.2 ⟨j, h3, h4.1, rfl⟩, by rw [names_has hr h3]; exact h4.2⟩
theorem any_take {l : List ByteArray} {p : ByteArray → Bool} {k : Nat} (hk : k < l.length) : (l.take (k + 1)).any p = ((l.take k).any p || p (nth l k)) := by
 rw [take_snoc l hk, List.any_append]
 simp
theorem c_spec_StuckOf (l : List Entry) : FunR Tryz.prog 15 none [encS l] (encS (stuckN l)) [] [(0, 1)] := by
 refine FunR.ofV vc_spec_StuckOf_ok ty_spec_StuckOf_ok rt_spec_StuckOf_ok rfl ?_ (fun hfit => ?_)
 ·exact ⟨ty_EntryS l, trivial⟩
 unfold vc_spec_StuckOf
 ((first | refine den_call ?_ (c_spec_IsRegistry l) (trivial) ?_ | refine den_callR ?_ (c_spec_IsRegistry l) (trivial) ?_ | refine den_call ?_ (.ofR (c_spec_IsRegistry l)) (trivial) ?_); (focus (simp only [VC.den, E.den, dEq, gsH_nil, and_true]; try exact rfl)); (simp only [cA]))
 refine den_ite (fun h => ?_) (fun h => ?_)
 ·simp only [E.den, dEq, iEq, sEq] at h
  have : regB l = false := by simpa using h
  exact den_ret (by simp [E.den, stuckN, this, encS])
 simp only [E.den, dEq, iEq, sEq] at h
 have hr : regB l = true := by simpa using h
 have h6 := (reg_parts hr).1
 have hlk := linksL_len l
 ((first | refine den_call ?_ (c_spec_LinksOf l) (ty_LinkS _) ?_ | refine den_callR ?_ (c_spec_LinksOf l) (ty_LinkS _) ?_ | refine den_call ?_ (.ofR (c_spec_LinksOf l)) (ty_LinkS _) ?_); (focus (simp only [VC.den, E.den, dEq, gsH_nil, and_true]; try exact rfl)); (simp only [cA]))
 ((first | refine den_call ?_ (c_spec_MissingOf l) (ty_strS _) ?_ | refine den_callR ?_ (c_spec_MissingOf l) (ty_strS _) ?_ | refine den_call ?_ (.ofR (c_spec_MissingOf l)) (ty_strS _) ?_); (focus (simp only [VC.den, E.den, dEq, gsH_nil, and_true]; try exact rfl)); (simp only [cA]))
 refine den_for l.length (fun i => [encS (namesOf l (bdF l i)), .int .i64 i]) (fun _ => True) ?_ trivial ?_
 ·simp only [E.den, dEq, iEq, sEq]
  unfold missN
  rw [if_pos hr, names_congr fun a _ => show bdF l 0 a = missS l a by simp [bdF]]
  rfl
 intro i hi _ _
 simp only [cA]
 refine den_ite (fun h2 => ?_) (fun h2 => ?_)
 ·simp only [E.den, dEq, iEq, sEq] at h2
  have h2 : i < l.length := by simp at h2; exact h2
  have hnl := names_len l (bdF l i)
  (refine den_cond (fun hg => ?_) ?_; (focus (simp only [gsH, gE, E.den, dEq, iEq, sEq] at hg ⊢; (try simp only [D.bool.injEq] at hg); (try simp only [D.bool.injEq]); grind)))
  ((first | refine den_call ?_ (c_spec_l6Walk_false (linksL l) (nth l i).name _ (reach_walk l _).1 (reach_walk l _).2 (by omega)) (ty_strS _) ?_ | refine den_callR ?_ (c_spec_l6Walk_false (linksL l) (nth l i).name _ (reach_walk l _).1 (reach_walk l _).2 (by omega)) (ty_strS _) ?_ | refine den_call ?_ (.ofR (c_spec_l6Walk_false (linksL l) (nth l i).name _ (reach_walk l _).1 (reach_walk l _).2 (by omega))) (ty_strS _) ?_); (focus (simp only [VC.den, E.den, dEq, gsH_nil, and_true, row_Entry, cells_Entry]; try exact rfl)); (simp only [cA]))
  ((first | refine den_call ?_ (c_spec_l1HasText (reachN l (nth l i).name) (nth l i).name) (trivial) ?_ | refine den_callR ?_ (c_spec_l1HasText (reachN l (nth l i).name) (nth l i).name) (trivial) ?_ | refine den_call ?_ (.ofR (c_spec_l1HasText (reachN l (nth l i).name) (nth l i).name)) (trivial) ?_); (focus (simp only [VC.den, E.den, dEq, gsH_nil, and_true, row_Entry, cells_Entry]; try exact rfl)); (simp only [cA]))
  rw [reachN_at hr h2, names_has hr h2]
  refine den_ite (fun h3 => ?_) (fun h3 => ?_)
  ·simp only [E.den, dEq, iEq, sEq] at h3
   ((first | refine den_call ?_ (c_spec_l1Put (namesOf l (bdF l i)) (nth l i).name (by omega)) (ty_strS _) ?_ | refine den_callR ?_ (c_spec_l1Put (namesOf l (bdF l i)) (nth l i).name (by omega)) (ty_strS _) ?_ | refine den_call ?_ (.ofR (c_spec_l1Put (namesOf l (bdF l i)) (nth l i).name (by omega))) (ty_strS _) ?_); (focus (simp only [VC.den, E.den, dEq, gsH_nil, and_true, row_Entry, cells_Entry]; try exact rfl)); (simp only [cA]))
   refine den_next h2 ?_ trivial
   simp only [E.den, dEq, iEq, sEq]
   rw [ar_add (by omega) (by omega)]
   show [encS (putG ltB (namesOf l (bdF l i)) (nth l i).name), _] = _
   rw [names_put hr h2, names_congr fun a _ => show (bdF l i a || decide (a = i)) = bdF l (i + 1) a by
    unfold bdF
    by_cases e : a = i
    ·subst e; simp [h3]
    ·have : a < i + 1 ↔ a < i := by omega
     simp [e, this]]
   rfl
  ·simp only [E.den, dEq, iEq, sEq] at h3
   refine den_next h2 ?_ trivial
   simp only [E.den, dEq, iEq, sEq]
   rw [ar_add (by omega) (by omega), names_congr fun a _ => show bdF l i a = bdF l (i + 1) a by
    unfold bdF
    by_cases e : a = i
    ·subst e; simp [h3]
    ·have : a < i + 1 ↔ a < i := by omega
     simp [this]]
   rfl
 ·simp only [E.den, dEq, iEq, sEq] at h2
  obtain rfl : i = l.length := by simp at h2; omega
  have hbd : namesOf l (bdF l l.length) = namesOf l (badS l) := names_congr fun a ha => by simp [bdF, badS, ha]
  rw [hbd]
  refine den_for l.length (fun i => [encS (namesTo l (stuckS l) i), .int .i64 i]) (fun _ => True) rfl trivial ?_
  intro i hi _ _
  simp only [cA]
  have hnl := namesTo_len l (stuckS l) i
  refine den_ite (fun h3 => ?_) (fun h3 => ?_)
  ·simp only [E.den, dEq, iEq, sEq] at h3
   have h3 : i < l.length := by simp at h3; exact h3
   (refine den_cond (fun hg => ?_) ?_; (focus (simp only [gsH, gE, E.den, dEq, iEq, sEq] at hg ⊢; (try simp only [D.bool.injEq] at hg); (try simp only [D.bool.injEq]); grind)))
   ((first | refine den_call ?_ (c_spec_l1HasText (namesOf l (badS l)) (nth l i).name) (trivial) ?_ | refine den_callR ?_ (c_spec_l1HasText (namesOf l (badS l)) (nth l i).name) (trivial) ?_ | refine den_call ?_ (.ofR (c_spec_l1HasText (namesOf l (badS l)) (nth l i).name)) (trivial) ?_); (focus (simp only [VC.den, E.den, dEq, gsH_nil, and_true, row_Entry, cells_Entry]; try exact rfl)); (simp only [cA]))
   ((first | refine den_call ?_ (c_spec_l6Walk_false (linksL l) (nth l i).name _ (reach_walk l _).1 (reach_walk l _).2 (by omega)) (ty_strS _) ?_ | refine den_callR ?_ (c_spec_l6Walk_false (linksL l) (nth l i).name _ (reach_walk l _).1 (reach_walk l _).2 (by omega)) (ty_strS _) ?_ | refine den_call ?_ (.ofR (c_spec_l6Walk_false (linksL l) (nth l i).name _ (reach_walk l _).1 (reach_walk l _).2 (by omega))) (ty_strS _) ?_); (focus (simp only [VC.den, E.den, dEq, gsH_nil, and_true, row_Entry, cells_Entry]; try exact rfl)); (simp only [cA]))
   rw [reachN_at hr h3, names_has hr h3]
   have hrl := names_len l (reachS l i)
   have hany := any_names hr (p := reachS l i) (q := badS l)
   generalize hR : namesOf l (reachS l i) = R at hany hrl
   refine den_for R.length (fun j => [.bool (badS l i || (R.take j).any (hasB (namesOf l (badS l)))), .int .i64 j]) (fun _ => True) ?_ trivial ?_
   ·simp only [E.den, dEq, iEq, sEq]; simp
   intro j hj _ _
   simp only [cA]
   refine den_ite (fun h4 => ?_) (fun h4 => ?_)
   ·simp only [E.den, dEq, iEq, sEq] at h4
    have h4 : j < R.length := by simp at h4; exact h4
    (refine den_cond (fun hg => ?_) ?_; (focus (simp only [gsH, gE, E.den, dEq, iEq, sEq] at hg ⊢; (try simp only [D.bool.injEq] at hg); (try simp only [D.bool.injEq]); grind)))
    ((first | refine den_call ?_ (c_spec_l1HasText (namesOf l (badS l)) (nth R j)) (trivial) ?_ | refine den_callR ?_ (c_spec_l1HasText (namesOf l (badS l)) (nth R j)) (trivial) ?_ | refine den_call ?_ (.ofR (c_spec_l1HasText (namesOf l (badS l)) (nth R j))) (trivial) ?_); (focus (simp only [VC.den, E.den, dEq, gsH_nil, and_true, row_str, cells_str]; try exact rfl)); (simp only [cA]))
    refine den_next h4 ?_ trivial
    simp only [E.den, dEq, iEq, sEq]
    rw [ar_add (by omega) (by omega), any_take h4, ← Bool.or_assoc]; rfl
   ·simp only [E.den, dEq, iEq, sEq] at h4
    obtain rfl : j = R.length := by simp at h4; omega
    rw [List.take_length, hany]
    have hst : (badS l i || anyT (fun j => reachS l i j && badS l j) l.length) = stuckS l i := rfl
    rw [hst]
    refine den_ite (fun h5 => ?_) (fun h5 => ?_)
    ·simp only [E.den, dEq, iEq, sEq] at h5
     refine den_cond (fun _ => ?_) ?_
     ·simp [E.den]; omega
     refine den_next1 h3 ?_ trivial
     simp only [E.den, dEq, iEq, sEq, row_Entry, cells_Entry]
     rw [ar_add (by omega) (by omega), namesTo_succ, if_pos h5, nm_snoc]; rfl
    ·simp only [E.den, dEq, iEq, sEq] at h5
     refine den_next1 h3 ?_ trivial
     simp only [E.den, dEq, iEq, sEq]
     rw [ar_add (by omega) (by omega), namesTo_succ, if_neg (by simp [h5])]; rfl
  ·simp only [E.den, dEq, iEq, sEq] at h3
   obtain rfl : i = l.length := by simp at h3; omega
   refine den_ret ?_
   simp only [E.den, dEq, iEq, sEq]
   unfold stuckN
   rw [if_pos hr]; rfl
end Go.Proofs.YtimickglpboilaaGreat
/- A new host: what it is, as data; the reference's contract; the program's walked: its memory is new, and its rows lie apart. -/
namespace Go.Proofs.YtimickglpboilaaGreat
open Go.RowKit Go
def newOk (l : List Entry) : Bool := regB l && decide ((stuckN l).length = 0)
def partsOf (l : List Entry) : List Part := l.map fun e => (makeP e.recipe).1
def newE (l : List Entry) : List Entry := if newOk l then l else []
def newP (l : List Entry) : List Part := if newOk l then partsOf l else []
theorem partsOf_take {l : List Entry} {k : Nat} (h : k < l.length) : (partsOf l).take (k + 1) = (partsOf l).take k ++ [(makeP (nth l k).recipe).1] := by
 rw [List.take_add_one]
 congr 1
 simp [partsOf, nth, h]
theorem c_spec_NewHost (l : List Entry) (hl : l.length ≤ 1048576) (hf : ∀ e ∈ l, e.fit) : FunR Tryz.prog 5 none [encS l] (.tup [enc (hostE (newE l) (newP l)), .bool (newOk l)]) [] [(0, 5), (1, 6), (2, 1), (3, 1), (4, 7)] := by
 refine FunR.ofV vc_spec_NewHost_ok ty_spec_NewHost_ok rt_spec_NewHost_ok rfl ?_ (fun hfit => ?_)
 ·exact ⟨ty_EntryS l, trivial⟩
 unfold vc_spec_NewHost
 ((first | refine den_call ?_ (c_spec_IsRegistry l) (trivial) ?_ | refine den_callR ?_ (c_spec_IsRegistry l) (trivial) ?_ | refine den_call ?_ (.ofR (c_spec_IsRegistry l)) (trivial) ?_); (focus (simp only [VC.den, E.den, dEq, gsH_nil, and_true]; try exact rfl)); (simp only [cA]))
 ((first | refine den_call ?_ (Fun.ofR (c_spec_StuckOf l)) (ty_strS _) ?_ | refine den_callR ?_ (Fun.ofR (c_spec_StuckOf l)) (ty_strS _) ?_ | refine den_call ?_ (.ofR (Fun.ofR (c_spec_StuckOf l))) (ty_strS _) ?_); (focus (simp only [VC.den, E.den, dEq, gsH_nil, and_true]; try exact rfl)); (simp only [cA]))
 refine den_ite (fun h => ?_) (fun h => ?_)
 ·simp only [E.den, dEq, iEq, sEq] at h
  have ho : newOk l = false := by
   unfold newOk
   simp at h
   rcases h with h | h
   ·simp [h]
   ·simp; intro _ h2; rw [h2] at h; simp at h
  refine den_ret ?_
  simp only [E.den, dEq, iEq, sEq]
  simp [newE, newP, ho, hostE, enc, cells_Host, encS]
 simp only [E.den, dEq, iEq, sEq] at h
 have ho : newOk l = true := by
  unfold newOk
  simp at h
  rw [h.1]
  simpa using h.2
 ((first | refine den_call ?_ (c_spec_l6Copies l hl hf) (ty_EntryS _) ?_ | refine den_callR ?_ (c_spec_l6Copies l hl hf) (ty_EntryS _) ?_ | refine den_call ?_ (.ofR (c_spec_l6Copies l hl hf)) (ty_EntryS _) ?_); (focus (simp only [VC.den, E.den, dEq, gsH_nil, and_true]; try exact rfl)); (simp only [cA]))
 refine den_for l.length (fun k => [.int .i64 k, encS l, encS ((partsOf l).take k), encS ([] : List ByteArray), encS ([] : List ByteArray), encS ([] : List Event)]) (fun _ => True) (by simp only [E.den, dEq, iEq, sEq]; rfl) trivial ?_
 intro k hk _ _
 simp only [cA]
 refine den_ite (fun h2 => ?_) (fun h2 => ?_)
 ·simp only [E.den, dEq, iEq, sEq] at h2
  have h2 : k < l.length := by simpa using h2
  (refine den_cond (fun hg => ?_) ?_; (focus (simp only [gsH, gE, E.den, dEq, iEq, sEq] at hg ⊢; (try simp only [D.bool.injEq] at hg); (try simp only [D.bool.injEq]); grind)))
  ((first | refine den_call ?_ (c_spec_MakePart (nth l k).recipe) (⟨ty_Part _, ty_Reply _, trivial⟩) ?_ | refine den_callR ?_ (c_spec_MakePart (nth l k).recipe) (⟨ty_Part _, ty_Reply _, trivial⟩) ?_ | refine den_call ?_ (.ofR (c_spec_MakePart (nth l k).recipe)) (⟨ty_Part _, ty_Reply _, trivial⟩) ?_); (focus (simp only [VC.den, E.den, dEq, gsH_nil, and_true, row_Entry, cells_Entry]; try exact rfl)); (simp only [cA]))
  refine den_cond (fun _ => ?_) ?_
  ·simp only [E.den, dEq, iEq, sEq]
   simp [encS]; omega
  refine den_next h2 ?_ trivial
  rw [partsOf_take h2]
  simp only [E.den, dEq, iEq, sEq]
  rw [ar_add (by omega) (by omega)]
  simp [encS]
 ·simp only [E.den, dEq, iEq, sEq] at h2
  obtain rfl : k = l.length := by simp at h2; omega
  have ht : (partsOf l).take l.length = partsOf l := List.take_of_length_le (by simp [partsOf])
  rw [ht]
  refine den_ret ?_
  simp only [E.den, dEq, iEq, sEq]
  simp [newE, newP, ho, hostE, enc, cells_Host, encS]
theorem results_blkT {P : Program} {fn : Func} {p u : Tmp} {ty : TypeId} (h : fn.results = #[.cell p ty, .tmp u]) (tmps : Array Value) (w : World) {g : Nat} {t : TypeId} {cs : Array Value} (d : TypeDesc)
  (hp : tmps.getD p undef = .pointer (some ⟨g, 0, none⟩)) (hg : RBlk w g t cs) (hu : P.underlying ty = some d) (hd : (match d with | .struct _ | .array _ _ => true | _ => false) = true) (hi : (P.info? ty).map (·.size) = some cs.size) :
  (results fn tmps).run P w = .ok (.tuple #[.agg cs, tmps.getD u undef]) w := by
 have hp' : tmps[p]?.getD undef = .pointer (some ⟨g, 0, none⟩) := by simpa using hp
 simp [results, h, hp', asAddr, run_loadVar_row w g t ty cs (0, 0) d hg hu hd hi, Sem.run_bind, Result.andThen]
theorem NX.bodyCT {n : Nat} {P : Program} {E : List (Nat × Value)} {w : World} {fn : Func} {R : Ending → World → Prop} {p u : Tmp} {ty : TypeId} {g : Nat} {t : TypeId} {cs : Array Value} {d : TypeDesc} {v : Value} (h : fn.results = #[.cell p ty, .tmp u]) (hp : lk E p = some (.pointer (some ⟨g, 0, none⟩))) (hv : lk E u = some v)
  (hg : RBlk w g t cs) (hu : P.underlying ty = some d) (hd : (match d with | .struct _ | .array _ _ => true | _ => false) = true) (hi : (P.info? ty).map (·.size) = some cs.size) (hR : R (.returned (.tuple #[.agg cs, v])) w) : NX n (bodyPost P fn R .ret) E w :=
 fun a hE => ⟨hE.df, _, results_blkT h a.tmps w d (hE.at' p _ hp) hg hu hd hi, by rw [hE.at' u _ hv]; exact hR⟩
section
variable {n : Nat} {P : Program} {E : List (Nat × Value)} {w : World} {o : Oper}
theorem r_bslice6 {T e : TypeId} {i : TypeInfo} {x : Operand} {u0 u1 u2 u3 u4 u5 z0 z1 z2 z3 z4 z5 : Value} (ho : o.op = .buildSlice T 1 #[(0, x)]) (hx : ev E x = some (.agg #[u0, u1, u2, u3, u4, u5])) (hT : P.underlying T = some (.slice e)) (hi : P.info? e = some i) (hsz : i.size = 6) (hz : i.zero = some (.agg #[z0, z1, z2, z3, z4, z5])) :
  RunV n P E o w (.slice (some ⟨w.heap.size, 0, none⟩) 1 1) (w.alloc (.cells #[u0, u1, u2, u3, u4, u5] e)) := fun a hE => by
 have hr : Array.range 6 = #[0, 1, 2, 3, 4, 5] := by decide
 simp [execOp, ho, hE.ev hx, Instr.buildSlice, run_underlying hT, run_sizeOf hi, hsz, zeroValue, run_typeInfo hi, hz, Value.cells, Instr.fill, newRow, hr]
end
def partV (p : Part) (S1 S2 : Value) : List Value := [.string p.core.kind, .bool p.core.on, .bool p.core.broken, S1, .int .i64 p.core.count, S2]
theorem gr_part {B : Nat} {w : World} {ob : Option Nat} {p : Part} {S1 S2 : Value} {r1 r2 : Option Nat} (h0 : p.core.kind.size ≤ maxLen) (h4 : IntKind.i64.min ≤ p.core.count ∧ p.core.count ≤ IntKind.i64.max) (c1 : CellIn B w (encS p.core.cells) S1 r1) (c2 : CellIn B w (encS p.layers) S2 r2) (hap : ∀ x, r1 = some x → r2 ≠ some x) (hob : ∀ x, ob = some x → x < B) :
  GR B w ob (Enc.cells p) (partV p S1 S2) (fun i => if i = 3 then r1 else if i = 5 then r2 else none) := by
 refine ⟨rfl, fun i d u hd hu => ?_, fun i x hi e e2 => ?_, fun i j x hi hj hne e => ?_⟩
 ·match i, hd, hu with
  | 0, hd, hu => cases hd; cases hu; exact ⟨rfl, h0⟩
  | 1, hd, hu => cases hd; cases hu; exact rfl
  | 2, hd, hu => cases hd; cases hu; exact rfl
  | 3, hd, hu => cases hd; cases hu; exact c1
  | 4, hd, hu => cases hd; cases hu; exact ⟨rfl, h4⟩
  | 5, hd, hu => cases hd; cases hu; exact c2
  | i + 6, hd, hu => simp [partV] at hu
 ·have := hob x e2
  split at e
  ·have := (c1.le e).1; omega
  ·split at e
   ·have := (c2.le e).1; omega
   ·cases e
 ·split at e
  ·rename_i h3
   subst h3
   have h3 : j ≠ 3 := fun h => hne h.symm
   simp only [h3, if_false]
   split
   ·exact hap x e
   ·simp
  ·split at e
   ·rename_i h3 h5
    subst h5
    split
    ·exact fun e2 => hap x e2 e
    ·have h5 : j ≠ 5 := fun h => hne h.symm
     simp [h5]
   ·cases e
theorem w_MakePart {f : FuncId} {p : Part} {r : Reply} {l : List ByteArray} (hF : FunR Tryz.prog f none [encS l] (.tup [enc p, enc r]) [] [(3, 2), (5, 2)]) {w : World} {v : Value} (hr : R w (fun _ => False) (encS l) v) :
  Calls Tryz.prog f #[v] w fun e w' => ∃ (S1 S2 : Value) (r1 r2 : Option Nat) (V : Array Value), e = .returned (.tuple #[.agg (partV p S1 S2).toArray, .agg V]) ∧ V.size = 5 ∧ (∀ u ∈ V.toList, u.oneCell' = true) ∧ p.core.kind.size ≤ maxLen ∧ (IntKind.i64.min ≤ p.core.count ∧ p.core.count ≤ IntKind.i64.max) ∧
   CellIn w.heap.size w' (encS p.core.cells) S1 r1 ∧ CellIn w.heap.size w' (encS p.layers) S2 r2 ∧ (∀ z, r1 = some z → r2 ≠ some z) ∧ S1.oneCell' = true ∧ S2.oneCell' = true ∧ Below w.heap.size w w' := by
 refine (hF.2 w _ 0 [v] (rdy0 w) ⟨_, [], rfl, hr, rfl⟩ (fun cs h => by cases h)).mono ?_
 rintro e w' ⟨v', rfl, ⟨cs, rfl, v1, _, hc, hp, v2, _, rfl, hq, hx⟩, h3, h4, _⟩
 have hx : _ = [] := hx
 subst hx
 have hcs : cs = #[v1, v2] := by rw [← Array.toList_inj, hc]
 subst hcs
 obtain ⟨ar, rfl, y0, _, hc2, ⟨rfl, q0⟩, y1, _, rfl, rfl, y2, _, rfl, rfl, y3, _, rfl, p3, y4, _, rfl, ⟨rfl, q4⟩, y5, _, rfl, p5, hy⟩ := hp
 have hy : _ = [] := hy
 subst hy
 have har : ar = (partV p y3 y5).toArray := by rw [← Array.toList_inj, hc2]; rfl
 subst har
 obtain ⟨br, rfl, z0, _, hd2, ⟨rfl, _⟩, z1, _, rfl, ⟨rfl, _⟩, z2, _, rfl, ⟨rfl, _⟩, z3, _, rfl, ⟨rfl, _⟩, z4, _, rfl, ⟨rfl, _⟩, hz⟩ := hq
 have hz : _ = [] := hz
 subst hz
 obtain ⟨a1, n1, c1, hy3, e3⟩ := (show R w' _ (.sl (p.core.cells.map Enc.cells)) y3 from p3)
 obtain ⟨a2, n2, c2, hy5, e5⟩ := (show R w' _ (.sl (p.layers.map Enc.cells)) y5 from p5)
 have l1 := h4.1 (3, 2) (by simp)
 have l2 := h4.1 (5, 2) (by simp)
 have ap := h4.2 0 1 (3, 2) (5, 2) rfl rfl (by decide)
 have hb : br = #[.int .i64 r.code, .int .i64 r.val, .string r.text, .int .i64 r.want, .int .i64 r.had] := by rw [← Array.toList_inj, hd2]
 have f1 : rtV (.tuple #[.agg (partV p y3 y5).toArray, .agg br]) (3, 2) = y3 := by subst hy3 hy5 hb; rfl
 have f2 : rtV (.tuple #[.agg (partV p y3 y5).toArray, .agg br]) (5, 2) = y5 := by subst hy3 hy5 hb; rfl
 rw [f1] at l1 ap
 rw [f2] at l2 ap
 obtain ⟨o1, k1, b1⟩ := cellIn_of (rows := p.core.cells.map Enc.cells) p3 (fun r hr => by obtain ⟨x, _, rfl⟩ := List.mem_map.1 hr; rfl) (fun r hr d hd => by
  obtain ⟨x, _, rfl⟩ := List.mem_map.1 hr
  have hd : d ∈ [D.str x.key, .int .i64 x.val] := hd
  simp at hd; rcases hd with rfl | rfl <;> rfl) l1
 obtain ⟨o2, k2, b2⟩ := cellIn_of (rows := p.layers.map Enc.cells) p5 (fun r hr => by obtain ⟨x, _, rfl⟩ := List.mem_map.1 hr; rfl) (fun r hr d hd => by
  obtain ⟨x, _, rfl⟩ := List.mem_map.1 hr
  have hd : d ∈ [D.str x.name, .int .i64 x.count] := hd
  simp at hd; rcases hd with rfl | rfl <;> rfl) l2
 refine ⟨y3, y5, o1, o2, br, rfl, by rw [hb]; rfl, fun u hu => ?_, q0, q4, k1, k2, fun z hz1 hz2 => ?_, by subst hy3; rfl, by subst hy5; rfl, h3.to_below⟩
 ·rw [hb] at hu
  simp at hu
  rcases hu with rfl | rfl | rfl | rfl | rfl <;> rfl
 ·obtain ⟨p1, s1, n1, m1, q1, q1'⟩ := b1 z hz1
  obtain ⟨p2, s2, n2, m2, q2, q2'⟩ := b2 z hz2
  exact ap _ _ _ _ _ _ _ _ _ _ q1 q1' q2 q2' rfl
end Go.Proofs.YtimickglpboilaaGreat
/- The program's NewHost, walked: its memory is new, and its rows lie apart. -/
namespace Go.Proofs.YtimickglpboilaaGreat
open Go.RowKit Go
theorem iz_H : (Tryz.prog.info? 29).bind (·.zero) = some (.agg (hostA (.slice none 0 0) (.slice none 0 0))) := by kernel_rfl
theorem is_H : (Tryz.prog.info? 29).map (·.size) = some 5 := by kernel_rfl
theorem iz_P6 : (Tryz.prog.info? 56).bind (·.zero) = some (.agg #[.string ⟨#[]⟩, .bool false, .bool false, .slice none 0 0, .int .i64 0, .slice none 0 0]) := by kernel_rfl
theorem iz_R5 : (Tryz.prog.info? 58).bind (·.zero) = some (.agg #[.int .i64 0, .int .i64 0, .string ⟨#[]⟩, .int .i64 0, .int .i64 0]) := by kernel_rfl
theorem iz_E5 : (Tryz.prog.info? 50).bind (·.zero) = some (.agg #[.string ⟨#[]⟩, .slice none 0 0, .int .i64 0, .int .i64 0, .slice none 0 0]) := by kernel_rfl
theorem is_P6 : (Tryz.prog.info? 56).map (·.size) = some 6 := by kernel_rfl
theorem is_R5 : (Tryz.prog.info? 58).map (·.size) = some 5 := by kernel_rfl
theorem is_E5 : (Tryz.prog.info? 50).map (·.size) = some 5 := by kernel_rfl
theorem es_E' : elemSize Tryz.prog 24 = some 5 := by kernel_rfl
theorem fo_E1 : fieldOff Tryz.prog 50 1 = some 1 := by kernel_rfl
theorem bu_H0 : buildB Tryz.prog 29 [] = some (hostA (.slice none 0 0) (.slice none 0 0)) := by kernel_rfl
theorem bu_H1 (a : Option Addr) (n c : Nat) : buildB Tryz.prog 29 [(0, .slice a n c)] = some (hostA (.slice a n c) (.slice none 0 0)) := by kernel_rfl
theorem w_copies' (l : List Entry) (hl : l.length ≤ 1048576) (hf : ∀ e ∈ l, e.fit) (w : World) (v : Value) (hv : R w (fun _ => False) (encS l) v) :
    Calls Tryz.prog 21 #[v] w fun e w' => ∃ v', e = .returned v' ∧ Own w.heap.size 50 w' l v' ∧ Below w.heap.size w w' := by
  refine (h_copyEntries l hl (fun k hk => c_impl_copyEntry _ (hf _ (nth_mem hk))) w v hv).mono ?_
  rintro e w' ⟨v', xs, u1, u4, ro, no, rfl, h1, h2, h3⟩
  exact ⟨v', rfl, ⟨xs, u1, u4, ro, no, h1, h2⟩, h3⟩
theorem ho_nil {lo hi : Nat} {w : World} (h : lo ≤ hi) (hw : hi ≤ w.heap.size) : HO lo hi hi w [] [] (.slice none 0 0) (.slice none 0 0) :=
  ⟨⟨hw, [], fun _ => .slice none 0 0, fun _ => .slice none 0 0, fun _ => none, fun _ => none, World.ownsRow_nil _ _ _ _, Rows.nil, fun g hg => (by cases hg), fun a x ha => absurd ha (Nat.not_lt_zero _), fun a x ha => absurd ha (Nat.not_lt_zero _)⟩,
   ⟨fun r hr => (by cases hr), hw, [], fun _ => none, World.ownsRow_nil _ _ _ _, GR.nil, fun g hg => (by cases hg), fun i x hi => absurd hi (Nat.not_lt_zero _)⟩, h, Nat.le_refl _⟩
section
variable {n : Nat} {P : Program} {E : List (Nat × Value)} {w : World} {o : Oper} {v : Value}
theorem r_loadR {T : TypeId} {ds : TypeDesc} {x : Operand} {ad : Addr} {cs : List Value} (ho : o.op = .load T x) (hx : ev E x = some (.pointer (some ad))) (hT : P.underlying T = some ds) (hd : (match ds with | .struct _ | .array _ _ => true | _ => false) = true)
    (hi : (P.info? T).map (·.size) = some cs.length) (hc : ∀ j v, cs[j]? = some v → w.cell? (ad.add j) = some v) : RunV n P E o w (.agg cs.toArray) w := fun a hE => by
  have hl : (loadCells ad cs.length).run P w = .ok cs.toArray w := run_loadCells_list (P := P) w ad cs hc
  have h1 : (loadVar T ad).run P w = .ok (.agg cs.toArray) w := by
    cases hq : P.info? T with
    | none => simp [hq] at hi
    | some i =>
      have hs : i.size = cs.length := by simpa [hq] using hi
      have hagg : (isAgg T).run P w = .ok true w := by
        unfold isAgg
        rw [Sem.run_bind, run_underlying hT]
        cases ds <;> simp_all
      simp [loadVar, Sem.run_bind, hagg, sizeOf, typeInfo, hq, hs, hl]
  simp [execOp, ho, hE.ev hx, Instr.loadAt, Instr.sureAddr, h1]
theorem r_ixC {T : TypeId} {x y : Operand} {m b c len cap i : Nat} (ho : o.op = .indexAddr T x y) (hx : ev E x = some (.slice (some ⟨b, c, none⟩) len cap)) (hi : ev E y = some (.int .i64 (i : Int))) (h1 : i < len) (hT : elemSize P T = some m) :
    RunV n P E o w (.pointer (some ⟨b, c + i * m, none⟩)) w := by
  have := r_index (n := n) (P := P) (E := E) (w := w) ho hx hi (by omega) (by omega) hT
  simpa using this
end
section
variable {B B' hi T m : Nat} {w w' : World} {rows : List (List D)} {v : Value}
theorem OGH.low (h : OGH B hi T m w rows v) (hB : B' ≤ B) : OGH B' hi T m w rows v := by
  obtain ⟨hn, hle, xs, ow, h1, h2, h3, h4⟩ := h
  refine ⟨hn, hle, xs, ow, ?_, h2.low hB, h3, h4⟩
  obtain ⟨h0, h | ⟨g', cap, cur, q1, q2, q3⟩⟩ := h1
  · exact ⟨h0, .inl h⟩
  · exact ⟨h0, .inr ⟨g', cap, cur, q1, Nat.le_trans hB q2, q3⟩⟩
end
theorem OwnB.low {lo lo' hi T : Nat} {w : World} {l : List Entry} {v : Value} (h : OwnB lo hi T w l v) (hB : lo' ≤ lo) : OwnB lo' hi T w l v := by
  obtain ⟨hle, xs, u1, u4, ro, no, h1, h2, h3⟩ := h
  exact ⟨hle, xs, u1, u4, ro, no, owns_low h1 hB, h2.low hB, h3⟩
theorem entry_cells {w : World} {l : List Entry} {a : Option Addr} {len cap k : Nat} (hv : R w (fun _ => False) (encS l) (.slice a len cap)) (hk : k < l.length) :
    ∃ b o y1 y4, a = some ⟨b, o, none⟩ ∧ y1.oneCell' = true ∧ y4.oneCell' = true ∧ R w (fun _ => False) (encS (nth l k).recipe) y1 ∧ ∀ (j : Nat) (u : Value), [Value.string (nth l k).name, y1, .int .i64 (nth l k).ver.maj, .int .i64 (nth l k).ver.min, y4][j]? = some u → w.cell? ((⟨b, o + k * 5, none⟩ : Addr).add j) = some u := by
  obtain ⟨a', cap', e, hml, hel⟩ := arg_slice (ent_len l) hv
  cases e
  obtain ⟨b, o, us, hab, hul, hus, hcell⟩ := hel k _ (get_map l (k := k) hk)
  obtain ⟨c0, _, hcc, ⟨rfl, _⟩, c1, _, rfl, hq1, c2, _, rfl, ⟨rfl, _⟩, c3, _, rfl, ⟨rfl, _⟩, c4, _, rfl, hq4, hq5⟩ := hus
  have hq5 : _ = [] := hq5
  subst hq5
  obtain ⟨a1, n1, p1, hx1, _⟩ := (show R w _ (.sl ((nth l k).recipe.map Enc.cells)) c1 from hq1)
  obtain ⟨a4, n4, p4, hx4, _⟩ := (show R w _ (.sl ((nth l k).needs.map Enc.cells)) c4 from hq4)
  refine ⟨b, o, c1, c4, hab, by rw [hx1]; rfl, by rw [hx4]; rfl, hq1, fun j u hu => ?_⟩
  rw [Addr.add_lit]
  exact hcell j u (by rw [hcc]; exact hu)
set_option maxHeartbeats 4000000 in
theorem w_NewHost (l : List Entry) (hl : l.length ≤ 1048576) (hf : ∀ e ∈ l, e.fit) (w : World) (v : Value) (hv : R w (fun _ => False) (encS l) v) :
    Calls Tryz.prog 7 #[v] w fun e w' => ∃ v1 v2 mid, e = .returned (.tuple #[.agg (hostA v1 v2), .bool (newOk l)]) ∧ HO w.heap.size mid w'.heap.size w' (newE l) (newP l) v1 v2 ∧ Below w.heap.size w w' := by
  obtain ⟨a, len, cap, rfl, hlen, hcap, hmax, -, -⟩ := id hv
  have hlen : len = l.length := by rw [hlen]; simp
  subst hlen
  refine calls_CW (E := [(0, .slice a l.length cap)]) Tryz.func7 rfl Tryz.ntmps7 (by simp) (by simp) ?_
  refine CW.seq (CW.region ?_)
  refine WL.vv rfl rfl (r_alloc rfl iz_H) (by decide) ?_
  have hb0 : Below w.heap.size w (w.alloc (.cells (Value.agg (hostA (.slice none 0 0) (.slice none 0 0))).cells 29)) := bel_alloc _ _ _
  have p2 : RBlk (w.alloc (.cells (Value.agg (hostA (.slice none 0 0) (.slice none 0 0))).cells 29)) w.heap.size 29 (hostA (.slice none 0 0) (.slice none 0 0)) := RBlk.new w _ _
  generalize w.alloc (.cells (Value.agg (hostA (.slice none 0 0) (.slice none 0 0))).cells 29) = w0 at hb0 p2 ⊢
  refine WL.vv rfl rfl (r_assign rfl rfl) (by decide) ?_
  refine WL.nil (NX.next ?_)
  refine CW.sub (E' := [(0, .slice a l.length cap), (2, .pointer (some ⟨w.heap.size, 0, none⟩))]) ⟨rfl, rfl, trivial⟩ ?_
  have hv0 := R.keep (Keeps.below hb0 fun _ _ h => h) _ _ hv
  refine CW.seq (CW.seq (CW.region ?_))
  refine WL.vv rfl rfl (r_move rfl rfl) (by decide) ?_
  refine WL.c rfl rfl (r_call (args := #[.slice a l.length cap]) (by kernel_rfl) rfl rfl rfl) (by decide) (Fun.calls (c_impl_IsRegistry l) (rdy0 w0) (vs := [.slice a l.length cap]) ⟨_, [], rfl, hv0, rfl⟩) ?_
  rintro _ w1 ⟨_, rfl, hrb, hb1⟩
  have hrb : _ = Value.bool (regB l) := hrb
  subst hrb
  refine ⟨_, rfl, ?_⟩
  have hv1 := R.keep (Keeps.below hb1 fun _ _ h => h) _ _ hv0
  have hB1 := bt hb0 hb1
  have p3 := p2.below hb1 p2.lt
  clear hb0 hb1 p2 hv0
  have hz : ∀ (w2 : World), Below w.heap.size w w2 → RBlk w2 w.heap.size 29 (hostA (.slice none 0 0) (.slice none 0 0)) → newOk l = false → ∀ {n : Nat} {E : List (Nat × Value)}, True := fun _ _ _ _ _ _ => trivial
  have fin : ∀ (w2 w3 : World), newOk l = false → Below w.heap.size w w2 → OneBlock w2 w3 w.heap.size → w.heap.size < w2.heap.size →
      ∃ v1 v2 mid, Ending.returned (.tuple #[.agg (hostA (.slice none 0 0) (.slice none 0 0)), .bool false]) = .returned (.tuple #[.agg (hostA v1 v2), .bool (newOk l)]) ∧ HO w.heap.size mid w3.heap.size w3 (newE l) (newP l) v1 v2 ∧ Below w.heap.size w w3 := fun w2 w3 ho hb hob hlt => by
    have hb3 : Below w.heap.size w w3 := ⟨hob.os.trans hb.os, hob.tape.trans hb.tape, hob.output.trans hb.output, by rw [hob.size]; exact hb.size, fun i hi => (hob.block i (by omega)).trans (hb.block i hi)⟩
    refine ⟨_, _, w3.heap.size, by rw [ho], ?_, hb3⟩
    simp only [newE, newP, ho]
    exact ho_nil hb3.size (Nat.le_refl _)
  clear hz
  cases hreg : regB l with
  | false =>
    have ho : newOk l = false := by unfold newOk; rw [hreg]; rfl
    refine WL.vv rfl rfl (r_not rfl rfl) (by decide) ?_
    refine WL.vv rfl rfl (r_move rfl rfl) (by decide) ?_
    refine WL.no (b := true) rfl rfl rfl rfl (by decide) ?_
    refine WL.no (b := true) rfl rfl rfl rfl (by decide) ?_
    refine WL.no (b := true) rfl rfl rfl rfl (by decide) ?_
    refine WL.no (b := true) rfl rfl rfl rfl (by decide) ?_
    refine WL.vv rfl rfl (r_pickT rfl rfl rfl) (by decide) ?_
    refine WL.nil (NX.next (CW.yes rfl (CW.seq (CW.region ?_))))
    refine WL.vv rfl rfl (r_build (vs := []) rfl rfl bu_H0) (by decide) ?_
    refine WL.st rfl rfl rfl rfl (cs := hostA (.slice none 0 0) (.slice none 0 0)) rfl p3 rfl (by intro u hu; simp [hostA] at hu; subst hu; rfl) is_H fun w3 p4 ob => ?_
    refine WL.vv rfl rfl (r_assign rfl rfl) (by decide) ?_
    refine WL.nil (NX.next (CW.ret (NX.ret (NX.bodyCT rfl rfl rfl p4 Tryz.underlying29 rfl is_H (fin w1 w3 ho hB1 ob p3.lt)))))
  | true =>
    refine WL.vv rfl rfl (r_not rfl rfl) (by decide) ?_
    refine WL.vv rfl rfl (r_move rfl rfl) (by decide) ?_
    refine WL.vg (b := false) rfl rfl rfl rfl (r_move rfl rfl) (by decide) ?_
    refine WL.cg (b := false) rfl rfl rfl rfl (r_call (args := #[.slice a l.length cap]) (by kernel_rfl) rfl rfl rfl) (by decide) (Fun.calls (.ofR (c_impl_StuckOf l hl)) (rdy0 w1) (vs := [.slice a l.length cap]) ⟨_, [], rfl, hv1, rfl⟩) ?_
    rintro _ w2 ⟨_, rfl, hst, hb2⟩
    obtain ⟨ad, ls, cps, rfl, hls, -⟩ := (show R w2 _ (.sl ((stuckN l).map Enc.cells)) _ from hst)
    rw [List.length_map] at hls
    subst hls
    refine ⟨_, rfl, ?_⟩
    have hv2 := R.keep (Keeps.below hb2 fun _ _ h => h) _ _ hv1
    have hB2 := bt hB1 hb2
    have p4 := p3.below hb2 p3.lt
    clear hb2 p3 hv1 hst hB1
    refine WL.vg (b := false) rfl rfl rfl rfl (r_len rfl rfl rfl rfl Tryz.underlying26 rfl) (by decide) ?_
    rcases Nat.eq_zero_or_pos (stuckN l).length with hs0 | hs0
    · have ho : newOk l = true := by unfold newOk; rw [hreg, hs0]; rfl
      rw [hs0]
      refine WL.vg (b := false) rfl rfl rfl rfl (r_cmpB (b := false) rfl rfl rfl rfl (by simp [cmpI])) (by decide) ?_
      refine WL.vv rfl rfl (r_pickF rfl rfl rfl) (by decide) ?_
      refine WL.nil (NX.next (CW.no rfl (CW.skip (NX.next ?_))))
      refine CW.sub (E' := [(0, .slice a l.length cap), (2, .pointer (some ⟨w.heap.size, 0, none⟩))]) ⟨rfl, rfl, trivial⟩ ?_
      refine CW.seq (CW.region ?_)
      refine WL.vv rfl rfl (r_move rfl rfl) (by decide) ?_
      refine WL.c rfl rfl (r_call (args := #[.slice a l.length cap]) (by kernel_rfl) rfl rfl rfl) (by decide) (w_copies' l hl hf w2 _ hv2) ?_
      rintro _ w3 ⟨v1, rfl, hO3, hb3⟩
      refine ⟨_, rfl, ?_⟩
      have hv3 := R.keep (Keeps.below hb3 fun _ _ h => h) _ _ hv2
      have hB3 := bt hB2 hb3
      have p5 := p4.below hb3 p4.lt
      have hlt2 : w.heap.size < w2.heap.size := p4.lt
      clear hv2 p4 hb3
      obtain ⟨oa, on, oc, rfl, -, -⟩ := hO3.one
      refine WL.vv rfl rfl (r_build (vs := [(0, .slice oa on oc)]) rfl rfl (bu_H1 oa on oc)) (by decide) ?_
      refine WL.vv rfl rfl (r_alloc rfl iz_H) (by decide) ?_
      refine WL.st rfl rfl rfl rfl (cs := hostA (.slice oa on oc) (.slice none 0 0)) rfl (show RBlk (w3.alloc (.cells (Value.agg (hostA (.slice none 0 0) (.slice none 0 0))).cells 29)) w3.heap.size 29 (hostA (.slice none 0 0) (.slice none 0 0)) from RBlk.new w3 _ _) rfl (by intro u hu; simp [hostA] at hu; rcases hu with rfl | rfl <;> rfl) is_H fun w4 p6 ob => ?_
      have hb4 : Below w3.heap.size w3 w4 := below_alloc_one ob
      have hv4 := R.keep (Keeps.below hb4 fun _ _ h => h) _ _ hv3
      have hB4 := bt hB3 hb4
      have p7 := p5.below hb4 p5.lt
      have hlt4 : w3.heap.size < w4.heap.size := p6.lt
      have hlt3 : w.heap.size < w3.heap.size := p5.lt
      have hb4' : Below w3.heap.size w3 w4 := hb4
      have hB3' := hB3
      have p5' := p5
      have hO3b := hO3.fix
      clear p5 hB3 hb4 hO3 ob
      refine WL.nil (NX.next ?_)
      refine CW.sub (E' := [(0, .slice a l.length cap), (2, .pointer (some ⟨w.heap.size, 0, none⟩)), (4, .pointer (some ⟨w3.heap.size, 0, none⟩))]) ⟨rfl, rfl, rfl, trivial⟩ ?_
      have P2 : RBlk w4 w.heap.size 29 (hostA (.slice none 0 0) (.slice none 0 0)) := p7
      obtain ⟨ti, hti, hz, hsz, hby⟩ := info_parts (P := Tryz.prog) (e := 56) (z := .agg #[.string ⟨#[]⟩, .bool false, .bool false, .slice Option.none 0 0, .int .i64 0, .slice Option.none 0 0]) (size := 6) (bytes := 80) (by kernel_rfl)
      refine CW.seq (CW.seq (CW.region ?_))
      refine WL.vv rfl rfl (r_move rfl rfl) (by decide) ?_
      refine WL.vv rfl rfl (r_len rfl rfl rfl rfl Tryz.underlying24 rfl) (by decide) ?_
      refine WL.vv rfl rfl (r_move rfl rfl) (by decide) ?_
      refine WL.nil (NX.next ?_)
      refine CW.sub (E' := [(2, .pointer (some ⟨w.heap.size, 0, none⟩)), (4, .pointer (some ⟨w3.heap.size, 0, none⟩)), (22, .slice a l.length cap), (23, .int .i64 (l.length : Int)), (24, .int .i64 ((0 : Nat) : Int))]) ⟨rfl, rfl, rfl, rfl, rfl, trivial⟩ ?_
      refine CW.block (CW.loop (fun m E' wr => ∃ (k : Nat) (pv : Value), m + k = l.length ∧ E' = [(2, .pointer (some ⟨w.heap.size, 0, none⟩)), (4, .pointer (some ⟨w3.heap.size, 0, none⟩)), (22, .slice a l.length cap), (23, .int .i64 (l.length : Int)), (24, .int .i64 (k : Int))] ∧ Below w3.heap.size w3 wr ∧ w4.heap.size ≤ wr.heap.size ∧ RBlk wr w3.heap.size 29 (hostA (.slice oa on oc) pv) ∧ OG6 w4.heap.size 56 6 wr (((partsOf l).take k).map Enc.cells) pv) l.length ⟨0, .slice none 0 0, by omega, rfl, hb4', Nat.le_refl _, p6, OG6.nil⟩ ?_)
      rintro m E' wr ⟨k, pv, hmk, rfl, hbr, hsr, pr, hG⟩
      have pr2 := p5'.below hbr p5'.lt
      refine CW.seq (CW.region ?_)
      rcases Nat.eq_zero_or_pos m with hm0 | hm0
      · subst hm0
        obtain rfl : k = l.length := by omega
        refine WL.vv rfl rfl (r_cmpB (b := false) rfl rfl rfl rfl (by simp [cmpI])) (by decide) ?_
        refine WL.nil (NX.next (CW.seq (CW.no rfl (CW.exit (NX.exi (NX.exi (NX.exiB (NX.next ?_))))))))
        have ht : (partsOf l).take l.length = partsOf l := List.take_of_length_le (by simp [partsOf])
        rw [ht] at hG
        obtain ⟨qa, qc, rfl⟩ := hG.len
        refine CW.seq (CW.region ?_)
        refine WL.vv rfl rfl (r_loadS rfl rfl Tryz.underlying29 rfl pr is_H) (by decide) ?_
        refine WL.st rfl rfl rfl rfl (cs := hostA (.slice oa on oc) (.slice qa _ qc)) rfl pr2 rfl (by intro u hu; simp [hostA] at hu; rcases hu with rfl | rfl | rfl <;> rfl) is_H fun w5 p8 ob => ?_
        refine WL.vv rfl rfl (r_assign rfl rfl) (by decide) ?_
        have hb5 : Below w.heap.size w w5 := by
          have h0 := hB3'.trans (hbr.mono (by omega))
          exact ⟨ob.os.trans h0.os, ob.tape.trans h0.tape, ob.output.trans h0.output, by rw [ob.size]; exact h0.size, fun i hi => (ob.block i (by omega)).trans (h0.block i hi)⟩
        refine WL.nil (NX.next (CW.ret (NX.bodyCT rfl rfl rfl p8 Tryz.underlying29 rfl is_H ⟨_, _, w3.heap.size, by rw [ho], ?_, hb5⟩)))
        simp only [newE, newP, ho, if_true]
        have sz5 := ob.size
        have h35 := hbr.size
        refine ⟨(hO3b.blk (by omega) fun j h1 h2 => ?_).low hB2.size, ?_, by omega, by omega⟩
        · rw [ob.block j (by omega)]; exact hbr.block j h2
        · refine (OG6.fix (hG.blk (Nat.le_of_eq sz5.symm) fun j h1 h2 => ob.block j (by omega))).low (by omega)
      obtain ⟨m', rfl⟩ : ∃ m', m = m' + 1 := ⟨m - 1, by omega⟩
      have hk : k < l.length := by omega
      refine WL.vv rfl rfl (r_cmpB (b := true) rfl rfl rfl rfl (by simp [cmpI]; omega)) (by decide) ?_
      refine WL.nil (NX.next (CW.seq (CW.yes rfl (CW.skip (NX.next ?_)))))
      refine CW.seq (CW.block ?_)
      obtain ⟨eb, eo, y1, y4, rfl, ho1, ho4, hrec, hcell⟩ := entry_cells (k := k) (R.keep (Keeps.below hbr fun _ _ h => h) _ _ hv3) hk
      refine CW.seq (CW.region ?_)
      refine WL.vv rfl rfl (r_ixC rfl rfl rfl hk es_E') (by decide) ?_
      refine WL.vv rfl rfl (r_loadR (cs := [.string (nth l k).name, y1, .int .i64 (nth l k).ver.maj, .int .i64 (nth l k).ver.min, y4]) rfl rfl Tryz.underlying50 rfl is_E5 hcell) (by decide) ?_
      refine WL.vv rfl rfl (r_alloc rfl iz_E5) (by decide) ?_
      refine WL.st rfl rfl rfl rfl (cs := #[.string (nth l k).name, y1, .int .i64 (nth l k).ver.maj, .int .i64 (nth l k).ver.min, y4]) rfl (show RBlk (wr.alloc (.cells (Value.agg #[.string ⟨#[]⟩, .slice none 0 0, .int .i64 0, .int .i64 0, .slice none 0 0]).cells 50)) wr.heap.size 50 #[.string ⟨#[]⟩, .slice none 0 0, .int .i64 0, .int .i64 0, .slice none 0 0] from RBlk.new wr _ _) rfl (by intro u hu; simp at hu; rcases hu with rfl | rfl | rfl | rfl | rfl <;> first | rfl | assumption) is_E5 fun w5 q5 ob5 => ?_
      have hb5 : Below wr.heap.size wr w5 := below_alloc_one ob5
      have hrec5 := R.keep (Keeps.below hb5 fun _ _ h => h) _ _ hrec
      refine WL.nil (NX.next ?_)
      refine CW.sub (E' := [(2, .pointer (some ⟨w.heap.size, 0, none⟩)), (4, .pointer (some ⟨w3.heap.size, 0, none⟩)), (22, .slice (some ⟨eb, eo, none⟩) l.length cap), (23, .int .i64 (l.length : Int)), (24, .int .i64 (k : Int)), (6, .pointer (some ⟨wr.heap.size, 0, none⟩))]) ⟨rfl, rfl, rfl, rfl, rfl, rfl, trivial⟩ ?_
      refine CW.seq (CW.region ?_)
      refine WL.vv rfl rfl (r_field rfl rfl fo_E1) (by decide) ?_
      refine WL.vv rfl rfl (r_load rfl rfl Tryz.underlying26 rfl (v := y1) ((q5.cell 1).trans rfl)) (by decide) ?_
      refine WL.c rfl rfl (r_call (args := #[y1]) (by kernel_rfl) rfl rfl rfl) (by decide) (w_MakePart (c_impl_MakePart (nth l k).recipe) hrec5) ?_
      rintro _ w6 ⟨S1, S2, r1, r2, V, rfl, hV, hV1, hkd, hct, k1, k2, hap, hs1, hs2, hb6⟩
      refine ⟨_, rfl, ?_⟩
      refine WL.vv rfl rfl (r_move rfl rfl) (by decide) ?_
      refine WL.vv rfl rfl (r_extract rfl rfl rfl) (by decide) ?_
      refine WL.vv rfl rfl (r_extract rfl rfl rfl) (by decide) ?_
      refine WL.vv rfl rfl (r_alloc rfl iz_P6) (by decide) ?_
      refine WL.vv rfl rfl (r_alloc rfl iz_R5) (by decide) ?_
      have q7 : RBlk ((w6.alloc (.cells (Value.agg #[.string ⟨#[]⟩, .bool false, .bool false, .slice none 0 0, .int .i64 0, .slice none 0 0]).cells 56)).alloc (.cells (Value.agg #[.int .i64 0, .int .i64 0, .string ⟨#[]⟩, .int .i64 0, .int .i64 0]).cells 58)) w6.heap.size 56 #[.string ⟨#[]⟩, .bool false, .bool false, .slice none 0 0, .int .i64 0, .slice none 0 0] := (RBlk.new w6 _ _).alloc _
      have q8 : RBlk ((w6.alloc (.cells (Value.agg #[.string ⟨#[]⟩, .bool false, .bool false, .slice none 0 0, .int .i64 0, .slice none 0 0]).cells 56)).alloc (.cells (Value.agg #[.int .i64 0, .int .i64 0, .string ⟨#[]⟩, .int .i64 0, .int .i64 0]).cells 58)) (w6.heap.size + 1) 58 #[.int .i64 0, .int .i64 0, .string ⟨#[]⟩, .int .i64 0, .int .i64 0] := by
        have := RBlk.new (w6.alloc (.cells (Value.agg #[.string ⟨#[]⟩, .bool false, .bool false, .slice none 0 0, .int .i64 0, .slice none 0 0]).cells 56)) 58 #[.int .i64 0, .int .i64 0, .string ⟨#[]⟩, .int .i64 0, .int .i64 0]
        rw [World.size_alloc] at this
        exact this
      have hb7 : Below w6.heap.size w6 ((w6.alloc (.cells (Value.agg #[.string ⟨#[]⟩, .bool false, .bool false, .slice none 0 0, .int .i64 0, .slice none 0 0]).cells 56)).alloc (.cells (Value.agg #[.int .i64 0, .int .i64 0, .string ⟨#[]⟩, .int .i64 0, .int .i64 0]).cells 58)) := bt (bel_alloc _ _ _) (bel_alloc _ _ _)
      simp only [World.size_alloc]
      generalize (w6.alloc (.cells (Value.agg #[.string ⟨#[]⟩, .bool false, .bool false, .slice none 0 0, .int .i64 0, .slice none 0 0]).cells 56)).alloc (.cells (Value.agg #[.int .i64 0, .int .i64 0, .string ⟨#[]⟩, .int .i64 0, .int .i64 0]).cells 58) = w7 at q7 q8 hb7 ⊢
      refine WL.st rfl rfl rfl rfl (cs := (partV (makeP (nth l k).recipe).1 S1 S2).toArray) rfl q7 rfl (by intro u hu; simp [partV] at hu; rcases hu with rfl | rfl | rfl | rfl | rfl | rfl <;> first | rfl | assumption) is_P6 fun w8 q9 ob8 => ?_
      have q10 : RBlk w8 (w6.heap.size + 1) 58 #[.int .i64 0, .int .i64 0, .string ⟨#[]⟩, .int .i64 0, .int .i64 0] := (ob8.block _ (by omega)).trans q8
      refine WL.st rfl rfl rfl rfl (cs := V) rfl q10 hV.symm hV1 (by rw [hV]; exact is_R5) fun w9 q11 ob9 => ?_
      refine WL.nil (NX.next ?_)
      have q12 : RBlk w9 w6.heap.size 56 (partV (makeP (nth l k).recipe).1 S1 S2).toArray := (ob9.block _ (by omega)).trans q9
      have hb9 : Below w6.heap.size w6 w9 := ⟨ob9.os.trans (ob8.os.trans hb7.os), ob9.tape.trans (ob8.tape.trans hb7.tape), ob9.output.trans (ob8.output.trans hb7.output), by rw [ob9.size, ob8.size]; exact hb7.size, fun i hi => ((ob9.block i (by omega)).trans (ob8.block i (by omega))).trans (hb7.block i hi)⟩
      have hbm : Below wr.heap.size wr w9 := bt (bt hb5 hb6) hb9
      have hbs := hbm.size
      have hb36 : w3.heap.size < w6.heap.size := by have := hb5.size; have := hb6.size; omega
      clear q7 q8 q9 q10 q11 hb7 ob8 ob9 hV hV1
      refine CW.sub (E' := [(2, .pointer (some ⟨w.heap.size, 0, none⟩)), (4, .pointer (some ⟨w3.heap.size, 0, none⟩)), (22, .slice (some ⟨eb, eo, none⟩) l.length cap), (23, .int .i64 (l.length : Int)), (24, .int .i64 (k : Int)), (7, .pointer (some ⟨w6.heap.size, 0, none⟩))]) ⟨rfl, rfl, rfl, rfl, rfl, rfl, trivial⟩ ?_
      have pr9 := pr.below hbm (by omega)
      refine CW.region ?_
      refine WL.vv rfl rfl (r_field rfl rfl fo_H1) (by decide) ?_
      refine WL.vv rfl rfl (r_load rfl rfl Tryz.underlying25 rfl (v := pv) ((pr9.cell 1).trans rfl)) (by decide) ?_
      refine WL.vv rfl rfl (r_loadS rfl rfl Tryz.underlying56 rfl q12 is_P6) (by decide) ?_
      refine WL.vv rfl rfl (r_bslice6 rfl rfl Tryz.underlying25 hti hsz hz) (by decide) ?_
      have hbA : Below w9.heap.size w9 (w9.alloc (.cells (partV (makeP (nth l k).recipe).1 S1 S2).toArray 56)) := bel_alloc _ _ _
      have hnew : ∀ (j : Nat) (u : Value), (partV (makeP (nth l k).recipe).1 S1 S2)[j]? = some u → (w9.alloc (.cells (partV (makeP (nth l k).recipe).1 S1 S2).toArray 56)).cell? ((⟨w9.heap.size, 0, none⟩ : Addr).add j) = some u := fun j u hu => cells_new (w := w9) (xs := partV (makeP (nth l k).recipe).1 S1 S2) (T := 56) j u hu
      change WL _ _ _ _ _ _ (w9.alloc (.cells (partV (makeP (nth l k).recipe).1 S1 S2).toArray 56))
      have hbB := bt hbm hbA
      have hb69 := bt hb9 hbA
      generalize w9.alloc (.cells (partV (makeP (nth l k).recipe).1 S1 S2).toArray 56) = w10 at hbA hnew hbB hb69 ⊢
      have g1 : GR wr.heap.size w10 pv.ownBlock (Enc.cells (makeP (nth l k).recipe).1) (partV (makeP (nth l k).recipe).1 S1 S2) (fun i => if i = 3 then r1 else if i = 5 then r2 else none) :=
        gr_part hkd hct ((k1.blk hb69.size fun x _ hx => hb69.block x hx).low hb5.size) ((k2.blk hb69.size fun x _ hx => hb69.block x hx).low hb5.size) hap fun x hx => by
          obtain ⟨_, xs, ow, h1, _⟩ := hG
          exact (h1.lt x hx).2
      obtain ⟨pv', w11, hap11, hG11, hC11⟩ := og_append (P := Tryz.prog) (ty := 25) (c := 1) Tryz.underlying25 hti hz hsz hby rfl (by decide) hG hbB hsr g1 rfl hnew (by intro u hu; simp [partV] at hu; rcases hu with rfl | rfl | rfl | rfl | rfl | rfl <;> first | rfl | assumption) (by simp [partsOf]; omega) (by decide)
      refine WL.vv rfl rfl (r_append rfl rfl rfl hap11) (by decide) ?_
      have hb11 := hC11 w4.heap.size (Nat.le_refl _)
      have pr11 : RBlk w11 w3.heap.size 29 (hostA (.slice oa on oc) pv) := (pr9.below hbA (by omega)).below hb11 (by omega)
      refine WL.vv rfl rfl (r_field rfl rfl fo_H1) (by decide) ?_
      obtain ⟨qa, qc, rfl⟩ := hG11.len
      refine WL.s rfl rfl (r_store rfl rfl rfl (by kernel_rfl) rfl ((pr11.cell 1).trans rfl) (pr11.frozen 1)) ?_
      refine WL.nil (NX.norB (NX.next ?_))
      have pr12 : RBlk (w11.setCell ⟨w3.heap.size, 0 + 1, none⟩ (.slice qa (((partsOf l).take k).map Enc.cells ++ [Enc.cells (makeP (nth l k).recipe).1]).length qc)) w3.heap.size 29 (hostA (.slice oa on oc) (.slice qa (((partsOf l).take k).map Enc.cells ++ [Enc.cells (makeP (nth l k).recipe).1]).length qc)) := pr11.set_ 1 _
      have hs12 : (w11.setCell ⟨w3.heap.size, 0 + 1, none⟩ (.slice qa (((partsOf l).take k).map Enc.cells ++ [Enc.cells (makeP (nth l k).recipe).1]).length qc)).heap.size = w11.heap.size := size_setCell _ _ _
      have hk12 : ∀ j, j ≠ w3.heap.size → (w11.setCell ⟨w3.heap.size, 0 + 1, none⟩ (.slice qa (((partsOf l).take k).map Enc.cells ++ [Enc.cells (makeP (nth l k).recipe).1]).length qc)).heap[j]? = w11.heap[j]? := fun j hj => Below.heap_setCell _ _ _ _ hj
      have hb12 : Below w3.heap.size w11 (w11.setCell ⟨w3.heap.size, 0 + 1, none⟩ (.slice qa (((partsOf l).take k).map Enc.cells ++ [Enc.cells (makeP (nth l k).recipe).1]).length qc)) := ⟨rfl, rfl, rfl, by rw [hs12]; exact Nat.le_refl _, fun j hj => hk12 j (by omega)⟩
      have hG12 := hG11.blk (w' := w11.setCell ⟨w3.heap.size, 0 + 1, none⟩ (.slice qa (((partsOf l).take k).map Enc.cells ++ [Enc.cells (makeP (nth l k).recipe).1]).length qc)) (by rw [hs12]; exact Nat.le_refl _) fun j h1 _ => hk12 j (by omega)
      have hz11 := hb11.size
      have hzB := hbB.size
      have hb3n : Below w3.heap.size w3 (w11.setCell ⟨w3.heap.size, 0 + 1, none⟩ (.slice qa (((partsOf l).take k).map Enc.cells ++ [Enc.cells (makeP (nth l k).recipe).1]).length qc)) := ((hbr.trans (hbB.mono (by omega))).trans (hb11.mono (by omega))).trans hb12
      generalize w11.setCell ⟨w3.heap.size, 0 + 1, none⟩ (.slice qa (((partsOf l).take k).map Enc.cells ++ [Enc.cells (makeP (nth l k).recipe).1]).length qc) = w12 at pr12 hs12 hG12 hb3n ⊢
      refine CW.region ?_
      refine WL.vv rfl rfl (r_arB (r := ((k + 1 : Nat) : Int)) rfl rfl rfl rfl (by rw [ar_add (by omega) (by omega)]; omega)) (by decide) ?_
      refine WL.vv rfl rfl (r_move rfl rfl) (by decide) ?_
      have hpt : ((partsOf l).take (k + 1)).map Enc.cells = ((partsOf l).take k).map Enc.cells ++ [Enc.cells (makeP (nth l k).recipe).1] := by rw [partsOf_take hk]; simp
      rw [← hpt] at hG12 pr12
      exact WL.nil (NX.again m' [(2, .pointer (some ⟨w.heap.size, 0, none⟩)), (4, .pointer (some ⟨w3.heap.size, 0, none⟩)), (22, .slice (some ⟨eb, eo, none⟩) l.length cap), (23, .int .i64 (l.length : Int)), (24, .int .i64 ((k + 1 : Nat) : Int))] (by omega) ⟨rfl, rfl, rfl, rfl, rfl, trivial⟩ ⟨k + 1, _, by omega, rfl, hb3n, by omega, pr12, hG12⟩)
    · have ho : newOk l = false := by
        unfold newOk
        have : (stuckN l).length ≠ 0 := by omega
        simp [this]
      refine WL.vg (b := false) rfl rfl rfl rfl (r_cmpB (b := true) rfl rfl rfl rfl (by simp [cmpI]; omega)) (by decide) ?_
      refine WL.vv rfl rfl (r_pickF rfl rfl rfl) (by decide) ?_
      refine WL.nil (NX.next (CW.yes rfl (CW.seq (CW.region ?_))))
      refine WL.vv rfl rfl (r_build (vs := []) rfl rfl bu_H0) (by decide) ?_
      refine WL.st rfl rfl rfl rfl (cs := hostA (.slice none 0 0) (.slice none 0 0)) rfl p4 rfl (by intro u hu; simp [hostA] at hu; subst hu; rfl) is_H fun w3 p5 ob => ?_
      refine WL.vv rfl rfl (r_assign rfl rfl) (by decide) ?_
      refine WL.nil (NX.next (CW.ret (NX.ret (NX.bodyCT rfl rfl rfl p5 Tryz.underlying29 rfl is_H (fin w2 w3 ho hB2 ob p4.lt)))))
end Go.Proofs.YtimickglpboilaaGreat
/- Walk: an entry is added (impl.AddEntry): each row in the answer lies in a new block of its own. -/
namespace Go.Proofs.YtimickglpboilaaGreat
open Go.RowKit Go
section
variable {n : Nat} {P : Program} {ops : Array Oper} {Q : Exit → Act → World → Prop} {E : List (Nat × Value)} {w w' : World} {o : Oper} {rest : List Oper} {v u : Value} {d : Nat}
end
end Go.Proofs.YtimickglpboilaaGreat
/- What a law's walk over an environment needs besides: operations, copies that are new, the mark of one entry by its shape. -/
namespace Go.Proofs.YtimickglpboilaaGreat
open Go.RowKit Go
section
variable {n : Nat} {P : Program} {E : List (Nat × Value)} {w w' : World} {o : Oper} {v u : Value}
theorem r_notB {T : TypeId} {x : Operand} {b c : Bool} (ho : o.op = .unOp .not T x) (hx : ev E x = some (.bool b)) (hb : (!b) = c) : RunV n P E o w (.bool c) w := hb ▸ r_not ho hx
theorem r_neBB {T U : TypeId} {x y : Operand} {b : Bool} (ho : o.op = .binOp .neq T x y U) (hx : ev E x = some (.bool b)) (hy : ev E y = some (.bool b)) (hT : P.underlying T = some .bool) : RunV n P E o w (.bool false) w := fun a hE => by
 simp [execOp, ho, hE.ev hx, hE.ev hy, eqGuard, binOp, Op.equal, Op.maxDepth, run_equalIn_bool' w 9999 T b b hT]
end
theorem RBlk.alt {A : Addr → Prop} {w w' : World} {b : Nat} {T : TypeId} {cs : Array Value} (h : RBlk w b T cs) (ha : Alt A w w') (hA : ∀ p, A p → p.block ≠ b) : RBlk w' b T cs := (ha.blk b h.lt fun p hp hq => hA p hq hp).trans h
def NU (w : World) (B C : Nat) : Addr → Prop := fun p => NF w B p ∨ C ≤ p.block
theorem nu_of {w : World} {B : Nat} {d : D} {v : Value} (h : R w (NF w B) d v) : R w (NU w B w.heap.size) d v := R.up h
theorem nu_blk {w : World} {B C : Nat} {p : Addr} (h : ¬ NU w B C p) : B ≤ p.block ∧ p.block < C :=
 ⟨Classical.byContradiction fun q => h (.inl (.inl (by omega))), Classical.byContradiction fun q => h (.inr (by omega))⟩
theorem nu_keep {w w' : World} {B C : Nat} {d : D} {v : Value} (h : R w (NU w B C) d v) (hb : Below w.heap.size w w') : R w' (NU w' B C) d v :=
 R.keep (Keeps.below hb fun p hp hm => by
  rcases hm with (hm | hm) | hm
  ·exact .inl (.inl hm)
  ·exact .inl (.inr (by rw [← fro_of_block (w' := w') (hb.block p.block hp)]; exact hm))
  ·exact .inr hm) _ _ h
end Go.Proofs.YtimickglpboilaaGreat
/- What the law of NewHost calls. -/
namespace Go.Proofs.YtimickglpboilaaGreat
open Go.RowKit Go
theorem makeP_small (l : List ByteArray) : (makeP l).1.core.cells = [] ∧ (makeP l).1.layers.length ≤ 3 := by
 unfold makeP
 split
 ·exact ⟨rfl, Nat.zero_le _⟩
 ·split
  ·exact ⟨rfl, Nat.zero_le _⟩
  ·exact wrapTo_small _ _
theorem newP_at {l : List Entry} {p : Part} (h : p ∈ newP l) : p.core.cells = [] ∧ p.layers.length ≤ 3 := by
 unfold newP at h
 split at h
 ·obtain ⟨e, _, rfl⟩ := List.mem_map.1 h
  exact makeP_small _
 ·cases h
theorem newP_len (l : List Entry) : (newP l).length ≤ l.length := by
 unfold newP
 split
 ·simp [partsOf]
 ·exact Nat.zero_le _
theorem newE_len (l : List Entry) : (newE l).length ≤ l.length := by
 unfold newE
 split
 ·exact Nat.le_refl _
 ·exact Nat.zero_le _
theorem newE_mem {l : List Entry} {e : Entry} (h : e ∈ newE l) : e ∈ l := by
 unfold newE at h
 split at h
 ·exact h
 ·cases h
theorem cntPs_fit {l : List Part} (h : ∀ p ∈ l, p.core.cells = [] ∧ p.layers.length ≤ 3) : ∀ {i : Nat}, i ≤ l.length → cntPs l i ≤ i * 10
 | 0, _ => by simp [cntPs]
 | i + 1, hi => by
  have h1 := cntPs_fit h (i := i) (by omega)
  have h2 := h _ (nth_mem (show i < l.length by omega))
  simp only [cntPs, cntP, h2.1, List.length_nil]
  omega
section
variable {w : World} {l : List Entry} {h : Host} {v v0 v1 : Value} {M0 M1 : Addr → Prop}
theorem w_specH (hl : l.length ≤ 1048576) (hf : ∀ e ∈ l, e.fit) (h0 : R w M0 (encS l) v) : Calls Tryz.prog 5 #[v] w fun e w' => ∃ y0 y1 y2 y3 y4, e = .returned (.tuple #[.agg #[y0, y1, y2, y3, y4], .bool (newOk l)]) ∧ R w' (fun _ => False) (enc (hostE (newE l) (newP l))) (.agg #[y0, y1, y2, y3, y4]) ∧ (∀ u ∈ (#[y0, y1, y2, y3, y4] : Array Value).toList, u.oneCell' = true) ∧ Below w.heap.size w w' := by
 refine (Fun.calls (.ofR (c_spec_NewHost l hl hf)) (rdy0 w) (vs := [v]) ⟨_, [], rfl, R.zero h0, rfl⟩).mono ?_
 rintro e w' ⟨u, rfl, ⟨cs, rfl, x0, _, hc, hq, x1, _, rfl, rfl, hx⟩, hb⟩
 have hx : _ = [] := hx
 subst hx
 have hcs : cs = #[x0, .bool (newOk l)] := by rw [← Array.toList_inj, hc]
 subst hcs
 have hq0 := hq
 obtain ⟨ar, rfl, y0, _, hd, q0, y1, _, rfl, q1, y2, _, rfl, q2, y3, _, rfl, q3, y4, _, rfl, q4, hy⟩ := hq
 have hy : _ = [] := hy
 subst hy
 have har : ar = #[y0, y1, y2, y3, y4] := by rw [← Array.toList_inj, hd]
 subst har
 have one : ∀ {rows : List (List D)} {y : Value}, R w' (fun _ => False) (.sl rows) y → y.oneCell' = true := fun {rows y} h => by obtain ⟨a, n, c, rfl, _⟩ := h; rfl
 refine ⟨y0, y1, y2, y3, y4, rfl, hq0, fun u hu => ?_, hb⟩
 simp at hu
 rcases hu with rfl | rfl | rfl | rfl | rfl
 ·exact one q0
 ·exact one q1
 ·exact one q2
 ·exact one q3
 ·exact one q4
theorem w_eqHost (h0 : R w M0 (enc h) v0) (h1 : R w M1 (enc h) v1) : Calls Tryz.prog 8 #[v0, v1] w fun e w' => e = .returned (.bool true) ∧ Below w.heap.size w w' := by
 refine (Fun.calls (c_laws_eqHost h h) (rdy0 w) (vs := [v0, v1]) ⟨_, _, rfl, R.zero h0, _, [], rfl, R.zero h1, rfl⟩).mono ?_
 rintro e w' ⟨u, rfl, hu, hb⟩
 have hu : u = .bool (decide (h = h)) := hu
 rw [hu]
 exact ⟨by simp, hb⟩
theorem w_eqEntS (h0 : R w M0 (encS l) v0) (h1 : R w M1 (encS l) v1) : Calls Tryz.prog 9 #[v0, v1] w fun e w' => e = .returned (.bool true) ∧ Below w.heap.size w w' := by
 refine (Fun.calls (c_laws_eqEntryS l l) (rdy0 w) (vs := [v0, v1]) ⟨_, _, rfl, R.zero h0, _, [], rfl, R.zero h1, rfl⟩).mono ?_
 rintro e w' ⟨u, rfl, hu, hb⟩
 have hu : u = .bool (decide (l = l)) := hu
 rw [hu]
 exact ⟨by simp, hb⟩
theorem w_heldH {ps : List Part} (k : Nat) (hk : k + cntTo l l.length + cntPs ps ps.length ≤ 1152921504606846970) (h1 : l.length ≤ 1048576) (h2 : ps.length ≤ 1048576) (h0 : R w M0 (enc (mkHost k l ps)) v) : Calls Tryz.prog 12 #[v, .int .i64 (k : Int)] w fun e w' => e = .returned (.int .i64 ((k + cntTo l l.length + cntPs ps ps.length : Nat) : Int)) ∧ Below w.heap.size w w' := by
 refine (Fun.calls (c_heldHost l ps k hk h1 h2) (rdy0 w) (vs := [v, .int .i64 (k : Int)]) ⟨_, _, rfl, R.zero h0, _, [], rfl, int_ok (by omega) (by omega), rfl⟩).mono ?_
 rintro e w' ⟨u, rfl, hu, hb⟩
 rw [hu.1]
 exact ⟨rfl, hb⟩
end
end Go.Proofs.YtimickglpboilaaGreat
