/- Drawn registries; what the laws of the wiring ask of links, ways and the order of the start. -/
import Derived.Test.YthoafgehfgblaaaBSeven
namespace Go.Proofs.Ythoafgehfgblaaa
open Go.RowKit Go
set_option linter.unusedVariables false
set_option linter.unusedSimpArgs false
set_option maxRecDepth 100000
set_option linter.unusedSectionVars false
variable [GC]
theorem d_DrawRegistry {rows : List (List D)} (hr : RowsTy tbl.tab [.int .u8] rows) : ∃ r, isReg r ∧ Fun Try.prog 21 none [.sl rows] r [] := by
  refine Fun.exV vc_spec_DrawRegistry_ok rfl ty_spec_DrawRegistry_ok ⟨by show RowsTy _ (tbl.tab _) _; rw [tab_u8]; exact hr, trivial⟩ (encS ([] : List Entry)) ⟨_, rfl, rfl, by simp⟩ fun hfit => ?_; unfold vc_spec_DrawRegistry
  refine den_newc rfl hr fun sd => ?_
  have hi : (0 : Int) ≤ 0 := Int.le_refl _
  ((first | apply den_draw | apply den_drawR); (focus (simp only [VC.den, E.den, dEq, gsH_nil, and_true]; try exact rfl)); (focus (simp only [VC.den, E.den, dEq, gsH_nil, and_true]; try exact rfl)); (focus (exact ⟨_, _, _, rfl, by assumption, by assumption⟩)); (focus (first | exact d_l1Once _ | exact Dr.ofR (d_l1Once _))); (focus (exact fun _ h => isB.ty h)); rintro _ rows i sd ⟨b, rfl⟩ hr hi; (simp only [List.cons_append, List.nil_append]))
  refine den_ite (fun _ => ?_) (fun _ => ?_)
  · ((first | apply den_draw | apply den_drawR); (focus (simp only [VC.den, E.den, dEq, gsH_nil, and_true]; try exact rfl)); (focus (simp only [VC.den, E.den, dEq, gsH_nil, and_true]; try exact rfl)); (focus (exact ⟨_, _, _, rfl, by assumption, by assumption⟩)); (focus (first | exact d_l6SetM | exact Dr.ofR (d_l6SetM))); (focus (exact fun _ h => isReg.ty h)); rintro _ rows i sd ⟨l, rfl, h1, h2⟩ hr hi; (simp only [List.cons_append, List.nil_append]))
    exact ⟨⟨l, rfl, h1, h2⟩, rfl⟩
  · ((first | apply den_draw | apply den_drawR); (focus (simp only [VC.den, E.den, dEq, gsH_nil, and_true]; try exact rfl)); (focus (simp only [VC.den, E.den, dEq, gsH_nil, and_true]; try exact rfl)); (focus (exact ⟨_, _, _, rfl, by assumption, by assumption⟩)); (focus (first | exact d_l7Set | exact Dr.ofR (d_l7Set))); (focus (exact fun _ h => isReg.ty h)); rintro _ rows i sd ⟨l, rfl, h1, h2⟩ hr hi; (simp only [List.cons_append, List.nil_append]))
    exact ⟨⟨l, rfl, h1, h2⟩, rfl⟩
theorem nth_get {α : Type} [Inhabited α] (l : List α) {i : Nat} (h : i < l.length) : nth l i = l[i] := by simp [nth, List.getD_eq_getElem?_getD, h]
theorem memNth {α : Type} [Inhabited α] {l : List α} {x : α} (h : x ∈ l) : ∃ i, i < l.length ∧ nth l i = x := by
  obtain ⟨i, hi, rfl⟩ := List.getElem_of_mem h
  exact ⟨i, hi, nth_get l hi⟩
def reachTo (l : List Entry) (i k : Nat) (j : Nat) : Bool := anyT (fun j => decide ((nth (linksL l) j).frm = (nth l i).name) && (decide ((nth (linksL l) j).to = (nth l k).name) || hasB (reachN l (nth (linksL l) j).to) (nth l k).name)) j
theorem reachTo_all {l : List Entry} (hr : regB l = true) {i k : Nat} (hi : i < l.length) (hk : k < l.length) : reachTo l i k (linksL l).length = reachS l i k := by
  rw [Bool.eq_iff_iff]
  unfold reachTo
  rw [anyT_iff, reach_iff hi hk]
  simp only [Bool.and_eq_true, Bool.or_eq_true, decide_eq_true_eq]
  constructor
  · rintro ⟨j, hj, h1, h2⟩
    obtain ⟨a, c, q1, q2, q3, q4, q5⟩ := (link_edge hr).1 ⟨nth (linksL l) j, nth_mem hj, h1, rfl⟩
    have q5' : (nth l c).name = (nth (linksL l) j).to := q5
    have ha : a = i := reg_inj hr q1 hi q4
    subst ha
    refine ⟨c, q2, q3, ?_⟩
    rw [← q5'] at h2
    rcases h2 with h2 | h2
    · exact .inl (reg_inj hr q2 hk h2)
    · rw [reachN_at hr q2, names_has hr hk] at h2
      exact .inr h2
  · rintro ⟨c, hc, h1, h2⟩
    obtain ⟨x, hx, q1, q2⟩ := (link_edge hr).2 ⟨i, c, hi, hc, h1, rfl, rfl⟩
    obtain ⟨j, hj, rfl⟩ := memNth hx
    refine ⟨j, hj, q1, ?_⟩
    have q2' : (nth (linksL l) j).to = (nth l c).name := q2
    rw [q2']
    rcases h2 with rfl | h2
    · exact .inl rfl
    · refine .inr ?_
      rw [reachN_at hr hc, names_has hr hk]
      exact h2
theorem need_has {l : List Entry} (hr : regB l = true) {i k : Nat} (hi : i < l.length) (hk : k < l.length) : hasB (needersN l (nth l k).name) (nth l i).name = reachS l i k := by
  rw [needersN_at hr hk, names_has hr hi]
theorem reach_has {l : List Entry} (hr : regB l = true) {i k : Nat} (hi : i < l.length) (hk : k < l.length) : hasB (reachN l (nth l i).name) (nth l k).name = reachS l i k := by
  rw [reachN_at hr hi, names_has hr hk]
theorem stuck_has {l : List Entry} (hr : regB l = true) {i : Nat} (hi : i < l.length) : hasB (stuckN l) (nth l i).name = stuckS l i := by
  unfold stuckN
  rw [if_pos hr, names_has hr hi]
theorem miss_has {l : List Entry} (hr : regB l = true) {i : Nat} (hi : i < l.length) : hasB (missN l) (nth l i).name = missS l i := by
  unfold missN
  rw [if_pos hr, names_has hr hi]
theorem why_any {l : List Entry} (hr : regB l = true) {i : Nat} (hi : i < l.length) : ((missS l i || reachS l i i) || (reachN l (nth l i).name).any (hasB (stuckN l))) = stuckS l i := by
  have : (reachN l (nth l i).name).any (hasB (stuckN l)) = anyT (fun j => reachS l i j && stuckS l j) l.length := by
    rw [reachN_at hr hi]
    unfold stuckN
    rw [if_pos hr]
    exact any_names hr
  rw [this, Bool.eq_iff_iff, stuck_why hi]
  simp only [Bool.or_eq_true, anyT_iff, Bool.and_eq_true]
  constructor
  · rintro ((h | h) | h)
    · exact .inl h
    · exact .inr (.inl h)
    · exact .inr (.inr h)
  · rintro (h | h | h)
    · exact .inl (.inl h)
    · exact .inl (.inr h)
    · exact .inr h
theorem reachN_len {l : List Entry} (s : ByteArray) : (reachN l s).length ≤ l.length := by
  unfold reachN
  split
  · split
    · exact names_len l _
    · simp
  · simp
/-! Places -/
def placeO (l : List ByteArray) (s : ByteArray) : Option Nat := firstTo (fun k => decide (nth l k = s)) l.length
def placeI (l : List ByteArray) (s : ByteArray) : Int := match placeO l s with | some k => k | none => -1
theorem c_laws_place (l : List ByteArray) (s : ByteArray) : Fun Try.prog 33 none [encS l, .str s] (.int .i64 (placeI l s)) [] := by
  refine Fun.ofV vc_laws_place_ok ty_laws_place_ok rfl ?_ (fun hfit => ?_)
  · exact ⟨ty_strS l, trivial, trivial⟩
  have hl : l.length ≤ 9223372036854775807 := fits_encS hfit.1
  unfold vc_laws_place
  refine den_for l.length (fun k => [.int .i64 k]) (fun k => ∀ i, i < k → decide (nth l i = s) = false) rfl (by omega) ?_
  intro k hk hI _
  simp only [List.cons_append, List.nil_append]
  refine den_ite (fun h2 => ?_) (fun h2 => ?_)
  · simp only [E.den, dEq, iEq, sEq] at h2
    have h2 : k < l.length := by simp at h2; exact h2
    (refine den_cond (fun hg => ?_) ?_; (focus (simp only [gsH, List.mem_cons, List.not_mem_nil, or_false, forall_eq_or_imp, forall_eq, E.den, dEq, iEq, sEq] at hg ⊢; (try simp only [D.bool.injEq] at hg); (try simp only [D.bool.injEq]); grind)))
    refine den_ite (fun h3 => ?_) (fun h3 => ?_)
    · simp only [E.den, dEq, iEq, sEq, row_str, cells_str] at h3
      refine den_ret ?_
      simp [E.den, placeI, placeO, firstTo_some (p := fun k => decide (nth l k = s)) h3 hI h2]
    · simp only [E.den, dEq, iEq, sEq, row_str, cells_str] at h3
      refine den_next h2 ?_ fun i hi => ?_
      · simp only [E.den, dEq, iEq, sEq]
        rw [ar_add (by omega) (by omega)]; rfl
      · rcases Nat.lt_or_ge i k with h | h
        · exact hI i h
        · obtain rfl : i = k := by omega
          exact h3
  · simp only [E.den, dEq, iEq, sEq] at h2
    obtain rfl : k = l.length := by simp at h2; omega
    exact den_ret (by simp [E.den, placeI, placeO, firstTo_none hI])
theorem nth_nm (l : List Entry) (o : List Nat) {p : Nat} (h : p < o.length) : nth (nmL l o) p = (nth l o[p]).name := by
  rw [nth_get _ (by rw [nmL_len]; exact h)]
  simp [nmL]
/-- Where a name stands in the order. -/
theorem place_at {l : List Entry} (hr : regB l = true) {p : Nat} (hp : p < (ordL l).length) : placeI (ordN l) (nth l (ordL l)[p]).name = p := by
  have hol : ∀ {q : Nat} (h : q < (ordL l).length), (ordL l)[q] < l.length := fun h => ord_lt (k := l.length) (List.getElem_mem h)
  have hn := ord_nodup l l.length
  unfold placeI placeO ordN
  rw [if_pos hr]
  rw [firstTo_some (p := fun k => decide (nth (nmL l (ordL l)) k = (nth l (ordL l)[p]).name)) (k := p) (by rw [nth_nm l _ hp]; simp) (fun i hi => ?_) (by rw [nmL_len]; exact hp)]
  rw [nth_nm l _ (by omega), decide_eq_false_iff_not]
  intro e
  have := reg_inj hr (hol (by omega)) (hol hp) e
  have h2 : (ordL l).Nodup := hn
  exact List.pairwise_iff_getElem.1 h2 i p (by omega) hp hi this
theorem place_none {l : List Entry} (hr : regB l = true) {i : Nat} (hi : i < l.length) (h : i ∉ ordL l) : placeI (ordN l) (nth l i).name = -1 := by
  unfold placeI placeO ordN
  rw [if_pos hr, firstTo_none fun k hk => ?_]
  rw [nmL_len] at hk
  rw [nth_nm l _ hk, decide_eq_false_iff_not]
  intro e
  have := reg_inj hr (ord_lt (k := l.length) (List.getElem_mem hk)) hi e
  exact h (this ▸ List.getElem_mem hk)
theorem place_sign {l : List Entry} (hr : regB l = true) {i : Nat} (hi : i < l.length) : decide (placeI (ordN l) (nth l i).name < 0) = stuckS l i := by
  cases hs : stuckS l i with
  | true =>
    rw [place_none hr hi fun h => by rw [ord_sound h] at hs; cases hs]
    rfl
  | false =>
    obtain ⟨p, hp, rfl⟩ := List.getElem_of_mem ((ord_mem hi).2 hs)
    rw [place_at hr hp, decide_eq_false_iff_not]
    omega
theorem place_lt {l : List Entry} (hr : regB l = true) {i c : Nat} (hi : i < l.length) (hc : c < l.length) (h : 0 ≤ placeI (ordN l) (nth l i).name) (hw : reachS l i c = true) :
    0 ≤ placeI (ordN l) (nth l c).name ∧ placeI (ordN l) (nth l c).name < placeI (ordN l) (nth l i).name := by
  have hm : i ∈ ordL l := Classical.byContradiction fun hn => by rw [place_none hr hi hn] at h; omega
  obtain ⟨p, hp, rfl⟩ := List.getElem_of_mem hm
  have hsp : ordL l = (ordL l).take p ++ (ordL l)[p] :: (ordL l).drop (p + 1) := by
    rw [List.getElem_cons_drop, List.take_append_drop]
  have := ord_reach _ (Nat.le_refl _) hsp hc hw
  obtain ⟨q, hq, rfl⟩ := List.getElem_of_mem this
  rw [List.length_take] at hq
  have hqp : q < p := by omega
  rw [List.getElem_take, place_at hr (by omega), place_at hr hp]
  omega
theorem ord_lens {l : List Entry} (hr : regB l = true) : (ordN l).length + (stuckN l).length = l.length := by
  have h := ord_count l
  unfold ordN stuckN
  rw [if_pos hr, if_pos hr, nmL_len]
  unfold namesOf namesTo
  rw [List.length_map]
  exact h
theorem ordN_len (l : List Entry) : (ordN l).length ≤ l.length := by
  unfold ordN
  split
  · rw [nmL_len]; exact ord_len_le l l.length
  · simp
theorem lt_of_name {l : List Entry} (hr : regB l = true) {i j : Nat} (hi : i < l.length) (hj : j < l.length) (h : ltB (nth l i).name (nth l j).name = true) : i < j := by
  rcases Nat.lt_trichotomy i j with h1 | h1 | h1
  · exact h1
  · subst h1; rw [ltB_irrefl] at h; cases h
  · have := reg_lt hr h1 hi
    rw [ltB_asymm this] at h; cases h
/-- No earlier one was ready where one was put into the order. -/
theorem first_ready {l : List Entry} {p k : Nat} (hp : p < (ordL l).length) (hk : k < (ordL l)[p]) : readyB l ((ordL l).take p) k = false := by
  have hsp : ordL l = (ordL l).take p ++ (ordL l)[p] :: (ordL l).drop (p + 1) := by
    rw [List.getElem_cons_drop, List.take_append_drop]
  have := ord_pre (k := l.length) hsp
  exact (firstTo_lt this).2.2 k hk
theorem nm_take (l : List Entry) (o : List Nat) (p : Nat) : (nmL l o).take p = nmL l (o.take p) := by
  unfold nmL
  rw [List.map_take]
/-! The link of a need stands where it should -/
theorem links_at {l : List Entry} (hr : regB l = true) {i k c : Nat} (hi : i < l.length) (hk : k < (nth l i).needs.length) (hc : prv l i k = some c) :
    (linksTo l i ++ linksOne l i k).length < (linksL l).length ∧ nth (linksL l) (linksTo l i ++ linksOne l i k).length = ⟨(nth l i).name, (nth l c).name, (nth (nth l i).needs k).face⟩ := by
  have h1 : ∀ m, ∃ r, linksOne l i (k + 1 + m) = linksOne l i (k + 1) ++ r := by
    intro m
    induction m with
    | zero => exact ⟨[], by simp⟩
    | succ m ih =>
      obtain ⟨r, h⟩ := ih
      exact ⟨r ++ (linkAt l i (k + 1 + m)).toList, by rw [← Nat.add_assoc, linksOne_succ, h, List.append_assoc]⟩
  have h2 : ∀ m, ∃ r, linksTo l (i + 1 + m) = linksTo l (i + 1) ++ r := by
    intro m
    induction m with
    | zero => exact ⟨[], by simp⟩
    | succ m ih =>
      obtain ⟨r, h⟩ := ih
      exact ⟨r ++ linksOne l (i + 1 + m) (nth l (i + 1 + m)).needs.length, by rw [← Nat.add_assoc, linksTo_succ, h, List.append_assoc]⟩
  obtain ⟨r1, e1⟩ := h1 ((nth l i).needs.length - (k + 1))
  rw [show k + 1 + ((nth l i).needs.length - (k + 1)) = (nth l i).needs.length by omega, links_some hc] at e1
  obtain ⟨r2, e2⟩ := h2 (l.length - (i + 1))
  rw [show i + 1 + (l.length - (i + 1)) = l.length by omega, linksTo_succ, e1] at e2
  have e3 : linksL l = (linksTo l i ++ linksOne l i k) ++ (⟨(nth l i).name, (nth l c).name, (nth (nth l i).needs k).face⟩ :: (r1 ++ r2)) := by
    unfold linksL
    rw [if_pos hr, e2]
    simp
  rw [e3]
  refine ⟨by simp, ?_⟩
  unfold nth
  rw [List.getD_eq_getElem?_getD, List.getElem?_append_right (Nat.le_refl _), Nat.sub_self]
  rfl
theorem prv_facts {l : List Entry} {i k c : Nat} (h : prv l i k = some c) : c < l.length ∧ (nth l c).name ≠ (nth l i).name ∧ servesB (nth l c) (nth (nth l i).needs k) = true ∧ ∀ j, j < c → (nth l j).name = (nth l i).name ∨ servesB (nth l j) (nth (nth l i).needs k) = false := by
  obtain ⟨h1, h2, h3⟩ := firstTo_lt h
  unfold provAt at h2 h3
  simp only [Bool.and_eq_true, Bool.not_eq_true', decide_eq_false_iff_not] at h2
  refine ⟨h1, h2.1, h2.2, fun j hj => ?_⟩
  have := h3 j hj
  simp only [Bool.and_eq_false_iff, Bool.not_eq_false', decide_eq_true_eq] at this
  exact this
end Go.Proofs.Ythoafgehfgblaaa
