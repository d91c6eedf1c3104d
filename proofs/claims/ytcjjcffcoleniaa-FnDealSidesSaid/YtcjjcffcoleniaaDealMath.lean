/- Plain laws on deals. No program in sight. -/
import Derived.Test.YtcjjcffcoleniaaBDeal
namespace Go.Proofs.Ytcjjcffcoleniaa
set_option linter.unusedVariables false
set_option linter.unusedSimpArgs false
def ltV (a b : Ver) : Prop := a.maj < b.maj ∨ (a.maj = b.maj ∧ a.min < b.min)
theorem eq_ver {a b : Ver} (h1 : a.maj = b.maj) (h2 : a.min = b.min) : a = b := by cases a; cases b; simp_all
theorem cmp_lt {a b : Ver} : a.cmp b < 0 ↔ ltV a b := by
  unfold Ver.cmp ltV; (repeat' split) <;> omega
theorem cmp_le {a b : Ver} : a.cmp b ≤ 0 ↔ a = b ∨ ltV a b := by
  unfold Ver.cmp ltV
  constructor
  · intro h
    by_cases h1 : a.maj < b.maj ∨ (a.maj = b.maj ∧ a.min < b.min)
    · exact .inr h1
    · rw [if_neg h1] at h
      by_cases h2 : a.maj = b.maj ∧ a.min = b.min
      · exact .inl (eq_ver h2.1 h2.2)
      · rw [if_neg h2] at h; omega
  · rintro (rfl | h)
    · simp
    · rw [if_pos h]; omega
theorem lt_trans {a b c : Ver} (h : ltV a b) (h' : ltV b c) : ltV a c := by unfold ltV at *; omega
theorem lt_irr {a : Ver} : ¬ ltV a a := by unfold ltV; omega
theorem lt_asymm {a b : Ver} (h : ltV a b) : ¬ ltV b a := by unfold ltV at *; omega
theorem ok_at {o : Offer} (h : o.ok = true) {k : Nat} (hk : k < o.vers.length) : o.verOk k = true := by
  simp only [Offer.ok, Bool.and_eq_true, List.all_eq_true] at h
  exact h.1.1 k (by simpa using hk)
theorem sorted {o : Offer} (h : o.ok = true) : ∀ (j i : Nat), i < j → j < o.vers.length → ltV (nth o.vers i) (nth o.vers j)
  | 0, i, hi, _ => by omega
  | j + 1, i, hi, hj => by
    have h1 := ok_at h hj
    simp only [Offer.verOk, Bool.and_eq_true, Bool.or_eq_true, beq_iff_eq, decide_eq_true_eq] at h1
    have h2 : ltV (nth o.vers j) (nth o.vers (j + 1)) := by
      rcases h1.2 with h2 | h2
      · omega
      · exact cmp_lt.1 h2
    by_cases e : i = j
    · subst e; exact h2
    · exact lt_trans (sorted h j i (by omega) (by omega)) h2
theorem lastAt_max {p : Nat → Bool} {k : Nat} : ∀ {n : Nat}, lastAt p n = some k → ∀ j, k < j → j < n → p j = false
  | 0, h, _, _, _ => by cases h
  | n + 1, h, j, hj, hjn => by
    by_cases e : p n = true
    · rw [lastAt_yes e] at h; cases h; omega
    · rw [lastAt_no (by simpa using e)] at h
      by_cases e' : j = n
      · subst e'; simpa using e
      · exact lastAt_max h j hj (by omega)
theorem lastAt_not {p : Nat → Bool} : ∀ {n : Nat}, lastAt p n = none → ∀ j, j < n → p j = false
  | 0, _, j, hj => by omega
  | n + 1, h, j, hj => by
    by_cases e : p n = true
    · rw [lastAt_yes e] at h; cases h
    · rw [lastAt_no (by simpa using e)] at h
      by_cases e' : j = n
      · subst e'; simpa using e
      · exact lastAt_not h j (by omega)
def AllOk (xs : List Offer) : Prop := ∀ i, i < xs.length → (nth xs i).ok = true
def Com (xs : List Offer) (v : Ver) : Prop := ∀ i, i < xs.length → v ∈ (nth xs i).vers
theorem comV_iff {xs : List Offer} {k : Nat} : comV xs k = true ↔ Com xs (nth (nth xs 0).vers k) := by
  unfold comV Com hasV
  rw [allTo_iff]
  simp only [decide_eq_true_eq]
theorem allOk_iff {xs : List Offer} : allTo (fun i => okO (nth xs i)) xs.length = true ↔ AllOk xs := allTo_iff
theorem deal_yes {xs : List Offer} (h : dealB xs = true) : 0 < xs.length ∧ AllOk xs ∧ Com xs (dealOf xs).ver ∧ (∀ u, Com xs u → u = (dealOf xs).ver ∨ ltV u (dealOf xs).ver) ∧ (dealOf xs).face = ((faceTo xs 63 xs.length &&& afV (dealOf xs).ver : Nat) : Int) := by
  unfold dealB at h
  obtain ⟨k, hk⟩ := Option.isSome_iff_exists.1 h
  rw [(dealOf_some hk).1]
  unfold dealAt at hk
  split at hk
  · cases hk
  · rename_i hc
    simp only [not_or, Bool.not_eq_false] at hc
    have hok := allOk_iff.1 hc.2
    obtain ⟨h1, h2⟩ := lastAt_lt hk
    refine ⟨by omega, hok, comV_iff.1 h2, fun u hu => ?_, rfl⟩
    obtain ⟨j, hj, e⟩ := mem_nth (hu 0 (by omega))
    have hcj : comV xs j = true := comV_iff.2 (by rw [e]; exact hu)
    show u = nth (nth xs 0).vers k ∨ ltV u (nth (nth xs 0).vers k)
    rw [← e]
    rcases Nat.lt_trichotomy j k with h3 | h3 | h3
    · exact .inr (sorted (hok 0 (by omega)) k j h3 h1)
    · subst h3; exact .inl rfl
    · have := lastAt_max hk j h3 hj; rw [hcj] at this; cases this
theorem deal_no {xs : List Offer} (h : dealB xs = false) : dealOf xs = deal0 ∧ (0 < xs.length → AllOk xs → ∀ u, ¬ Com xs u) := by
  unfold dealB at h
  have hn : dealAt xs = none := by
    cases hd : dealAt xs with
    | none => rfl
    | some k => rw [hd] at h; cases h
  refine ⟨(dealOf_none hn).1, fun hp hok u hu => ?_⟩
  unfold dealAt at hn
  rw [if_neg (by rintro (h | h); omega; rw [allOk_iff.2 hok] at h; cases h)] at hn
  obtain ⟨j, hj, e⟩ := mem_nth (hu 0 (by omega))
  have hcj : comV xs j = true := comV_iff.2 (by rw [e]; exact hu)
  have := lastAt_not hn j hj
  rw [hcj] at this; cases this
theorem deal_of {xs : List Offer} (hp : 0 < xs.length) (hok : AllOk xs) {u : Ver} (h : Com xs u) : dealB xs = true := by
  cases hb : dealB xs with
  | true => rfl
  | false => exact absurd h ((deal_no hb).2 hp hok u)
/-- Two lists of offers with the same common versions and the same faces make the same deal. -/
theorem deal_same {xs ys : List Offer} (hx : 0 < xs.length) (hy : 0 < ys.length) (ox : AllOk xs) (oy : AllOk ys) (hc : ∀ u, Com xs u ↔ Com ys u) (hf : faceTo xs 63 xs.length = faceTo ys 63 ys.length) : dealOf xs = dealOf ys ∧ dealB xs = dealB ys := by
  cases hb : dealB xs with
  | true =>
    obtain ⟨_, _, c1, m1, f1⟩ := deal_yes hb
    have hb' := deal_of hy oy ((hc _).1 c1)
    obtain ⟨_, _, c2, m2, f2⟩ := deal_yes hb'
    have hv : (dealOf xs).ver = (dealOf ys).ver := by
      rcases m1 _ ((hc _).2 c2) with h | h
      · exact h.symm
      · rcases m2 _ ((hc _).1 c1) with h' | h'
        · exact h'
        · exact absurd h (lt_asymm h')
    refine ⟨?_, hb'.symm⟩
    rw [eq_Deal]
    exact ⟨hv, by rw [f1, f2, hv, hf]⟩
  | false =>
    have hb' : dealB ys = false := by
      cases hb' : dealB ys with
      | false => rfl
      | true =>
        obtain ⟨_, _, c2, _⟩ := deal_yes hb'
        exact absurd ((hc _).2 c2) ((deal_no hb).2 hx ox _)
    exact ⟨by rw [(deal_no hb).1, (deal_no hb').1], hb'.symm⟩
theorem face_nat {o : Offer} (h : o.ok = true) : ∃ n : Nat, o.face = n ∧ n < 64 := isFaceB_nat (okO_face (x := o) h)
theorem faceTo_ok {xs : List Offer} {k : Nat} (h : (nth xs k).ok = true) {n : Nat} (hn : (nth xs k).face = n) : faceTo xs 63 (k + 1) = faceTo xs 63 k &&& n := by
  show bothF (faceTo xs 63 k) (nth xs k).face = _
  rw [bothF_face (faceB_nat (faceTo_lt (by omega) k)) (okO_face (x := nth xs k) h), hn]
  simp
theorem off_nat : ∀ n m : Fin 64, cmpI .eql (arI .andNot .i64 ((m.val : Nat) : Int) ((n.val : Nat) : Int)) 0 = decide (m.val &&& n.val = m.val) := by decide +kernel
theorem offersB_nat {n m : Nat} (hn : n < 64) (hm : m < 64) : offersB (n : Int) (m : Int) = decide (m &&& n = m) := by
  simp only [offersB, faceB_nat hn, faceB_nat hm, Bool.true_and]
  exact off_nat ⟨n, hn⟩ ⟨m, hm⟩
theorem and_off {f n m : Nat} : f &&& (n &&& m) = f ↔ f &&& n = f ∧ f &&& m = f := by
  constructor
  · intro h
    have h1 : f &&& n = f := by
      conv => lhs; rw [← h]
      rw [Nat.and_assoc, Nat.and_assoc, Nat.and_comm m n, ← Nat.and_assoc n n m, Nat.and_self, h]
    have h2 : f &&& m = f := by
      conv => lhs; rw [← h]
      rw [Nat.and_assoc, Nat.and_assoc, Nat.and_self, h]
    exact ⟨h1, h2⟩
  · rintro ⟨h1, h2⟩
    rw [← Nat.and_assoc, h1, h2]
theorem offersB_and {n m : Nat} (hn : n < 64) (hm : m < 64) (f : Int) : offersB ((n &&& m : Nat) : Int) f = (offersB (n : Int) f && offersB (m : Int) f) := by
  cases hf : isFaceB f with
  | false => simp [offersB, hf]
  | true =>
    obtain ⟨k, rfl, hk⟩ := isFaceB_nat hf
    rw [offersB_nat (and_lt64 hn) hk, offersB_nat hn hk, offersB_nat hm hk]
    rw [Bool.eq_iff_iff]
    simp [and_off]
end Go.Proofs.Ytcjjcffcoleniaa
