/- Contracts of the laws' helpers that write marks into memory of one's own, walked by hand; and of those that look for them. -/
import Derived.Test.YthoafgehfgblaaaBMark
import Derived.Test.YthoafgehfgblaaaBLaws
import Derived.Test.YthoafgehfgblaaaBSeat
namespace Go.Proofs.Ythoafgehfgblaaa
open Go.RowKit Go
set_option linter.unusedVariables false
set_option linter.unusedSimpArgs false
set_option maxRecDepth 100000
def isMk (r : D) : Prop := ∃ s : ByteArray, r = .str s
structure MkSt where
  s : ByteArray
  n : Int
theorem d_markText (k : Int) (hk : k ≤ 1152921504606846976) : ∃ r, isMk r ∧ Fun Try.prog 84 none [.int .i64 k] r [] := by
  refine Fun.exV vc_laws_markText_ok rfl ty_laws_markText_ok ⟨rfl, trivial⟩ (.str ⟨#[]⟩) ⟨_, rfl⟩ fun hfit => ?_; unfold vc_laws_markText
  refine den_ite (fun _ => ⟨⟨_, rfl⟩, rfl⟩) (fun h => ?_)
  simp only [E.den, dEq, iEq, sEq] at h
  have h : 0 < k := by simpa using h
  refine den_loop MkSt (fun s => [.str s.s, .int .i64 s.n]) (fun s => 0 ≤ s.n ∧ (s.s.size : Int) + s.n ≤ k) (fun s => s.n.toNat) ⟨⟨#[]⟩, k⟩ (fun s s' h => by simp at h; rw [h.2]) rfl ⟨by simp only; omega, by simp [ByteArray.size]⟩ ?_
  rintro ⟨s, n⟩ ⟨hn, hs⟩ _
  simp only at hn hs
  simp only [List.cons_append, List.nil_append]
  refine den_ite (fun h2 => ?_) (fun h2 => ?_)
  · simp only [E.den, dEq, iEq, sEq] at h2
    have h2 : 0 < n := by simpa using h2
    refine den_cond (fun _ => ?_) (den_cond (fun _ => ?_) (den_cond (fun _ => ?_) ?_))
    · simp [E.den, cmpI]
    · simp only [E.den, dEq, iEq, sEq]
      simp only [bytesD, strOfNums_size, List.length_map, D.toR_sl, List.length_cons, List.length_nil, List.append_nil, List.nil_append]
      simp only [D.bool.injEq, decide_eq_true_eq]
      unfold maxLen; omega
    · simp [E.den, cmpI]
    have hq : arI .quo .i64 n 10 = n / 10 := by
      show IntKind.i64.wrap (n.tdiv 10) = _
      rw [Int.tdiv_eq_ediv_of_nonneg (by omega), wrap_i64 (by omega) (by omega)]
    refine den_again (s' := (⟨bytesD (.sl [[.int .u8 (IntKind.u8.wrap (arI .add .i64 48 (arI .rem .i64 n 10)))]]) ++ s, n / 10⟩ : MkSt)) ?_ ⟨?_, ?_⟩ ?_
    · simp only [E.den, dEq, iEq, sEq]
      rw [hq]
    · simp only; omega
    · simp only [ByteArray.size_append, bytesD, strOfNums_size, List.length_map, D.toR_sl, List.length_cons, List.length_nil, List.append_nil, List.nil_append]
      omega
    · simp only; omega
  · refine den_cond (fun _ => ?_) ⟨⟨_, rfl⟩, rfl⟩
    simp only [E.den, dEq, iEq, sEq]
    simp only [D.bool.injEq, decide_eq_true_eq]
    have : (⟨#[109]⟩ : ByteArray).size = 1 := rfl
    unfold maxLen; omega
open Classical in
/-- The text of a mark. -/
noncomputable def mkT (k : Nat) : ByteArray := if h : ∃ s : ByteArray, Fun Try.prog 84 none [.int .i64 k] (.str s) [] then h.choose else ⟨#[]⟩
theorem c_markText (k : Nat) (hk : k ≤ 1152921504606846976) : Fun Try.prog 84 none [.int .i64 k] (.str (mkT k)) [] := by
  have h : ∃ s : ByteArray, Fun Try.prog 84 none [.int .i64 k] (.str s) [] := by
    obtain ⟨r, ⟨s, rfl⟩, h⟩ := d_markText k (by omega)
    exact ⟨s, h⟩
  unfold mkT
  rw [dif_pos h]
  exact h.choose_spec
theorem i64min : IntKind.i64.min = -9223372036854775808 := rfl
theorem i64max : IntKind.i64.max = 9223372036854775807 := rfl
theorem int_ok {w : World} {M : Addr → Prop} {n : Int} (h1 : -9223372036854775808 ≤ n) (h2 : n ≤ 9223372036854775807) : R w M (.int .i64 n) (.int .i64 n) :=
  ⟨rfl, by rw [i64min]; exact h1, by rw [i64max]; exact h2⟩
theorem rdy0 (w : World) : Rdy w (fun _ => False) := ⟨fun _ h => h.elim, trivial, Nat.zero_le _⟩
theorem w_markText (k : Nat) (hk : k ≤ 1152921504606846976) (w : World) : Calls Try.prog 84 #[.int .i64 k] w fun e w' => e = .returned (.string (mkT k)) ∧ (mkT k).size ≤ maxLen ∧ Below w.heap.size w w' := by
  have h := Fun.calls (c_markText k hk) (rdy0 w) (vs := [.int .i64 k]) ⟨_, [], rfl, int_ok (by omega) (by omega), rfl⟩
  refine h.mono ?_
  rintro e w' ⟨v, rfl, ⟨rfl, hs⟩, hb⟩
  exact ⟨rfl, hs, hb⟩
/-! Marks of texts -/
noncomputable def mS (k : Nat) (l : List ByteArray) (i : Nat) : List (List D) := rowsM l.length fun a => if a < i then [.str (mkT (k + a))] else Enc.cells (nth l a)
theorem mS_len (k : Nat) (l : List ByteArray) (i : Nat) : ∀ r ∈ mS k l i, r.length = 1 := fun r hr => by
  obtain ⟨a, _, rfl⟩ := rowsM_mem hr
  split <;> rfl
theorem mS_leaf (k : Nat) (l : List ByteArray) (i : Nat) : ∀ r ∈ mS k l i, ∀ d ∈ r, leafD d = true := fun r hr d hd => by
  obtain ⟨a, _, rfl⟩ := rowsM_mem hr
  split at hd <;> (simp [cells_str] at hd; subst hd; rfl)
theorem mS_zero (k : Nat) (l : List ByteArray) : mS k l 0 = l.map Enc.cells := by
  rw [rowsM_map]; exact rowsM_congr fun a _ => by simp
theorem m_StringS (l : List ByteArray) (k : Nat) (w : World) (M : Addr → Prop) (v : Value) (hr : R w M (encS l) v) (hfr : ∀ p, w.frozen? p = true → M p) (hk : k + l.length ≤ 1152921504606846976) :
    Calls Try.prog 42 #[v, .int .i64 k] w fun e w' => e = .returned (.int .i64 ((k + l.length : Nat) : Int)) ∧ Alt (fun p => ¬ M p) w w' ∧ R w' M (.sl (mS k l l.length)) v := by
  obtain ⟨a, len, cap, hv, hlen, hlc, hcm, hno, -⟩ := (show R w M (.sl (l.map Enc.cells)) v from hr)
  subst hv
  rw [List.length_map] at hlen
  subst hlen
  have hmx : (l.length : Int) ≤ 1152921504606846976 := by omega
  have HR := Lib.hid (show R w M (.sl (mS k l 0)) (.slice a l.length cap) by rw [mS_zero]; exact hr)
  have HF := Lib.hid hfr
  clear hr hfr
  go_enter Try.func42, Try.ntmps42
  go_wp2
  go_loopw [1, 5] (fun kk ii wr => Alt (fun p => ¬ M p) w wr ∧ ∃ i : Nat, i ≤ l.length ∧ kk = .int .i64 ((k + i : Nat) : Int) ∧ ii = .int .i64 (i : Int) ∧ R wr M (.sl (mS k l i)) (.slice a l.length cap)) (fun _ ii _ => l.length - (intOf ii).toNat)
  case atStart => exact ⟨Alt.refl _ _, 0, by omega, rfl, rfl, HR.out⟩
  case round =>
    obtain ⟨hA, i, hi, rfl, rfl, hRi⟩ := hrel
    have HA := Lib.hid hA
    have HRi := Lib.hid hRi
    clear hA hRi
    by_cases hlt : i < l.length
    · obtain ⟨b, o, s, rfl⟩ : ∃ b o s, a = some ⟨b, o, s⟩ := by
        rcases a with _ | ⟨b, o, s⟩
        · have := hno rfl; omega
        · exact ⟨b, o, s, rfl⟩
      have hs : s = none := by
        obtain ⟨a', len', cap', e, q1, q2, q3, q4, q5⟩ := HRi.out
        cases e
        exact (q5 b o s rfl).1 (by omega)
      subst hs
      have hi0 : (0 : Int) ≤ (i : Int) := by omega
      have hi1 : (i : Int) < (l.length : Int) := by omega
      have hlt' : (i : Int) < (l.length : Int) := hi1
      go_wp2_with fail
      refine (w_markText (k + i) (by omega) _).mono ?_
      rintro e w1 ⟨rfl, hsz, hb1⟩
      have hR1 := R.keep (Keeps.below hb1 fun _ _ h => h) _ _ HRi.out
      obtain ⟨u, c1, c2, c3⟩ := flat_cells (mS_len k l i) hR1 (i := i) (j := 0) (rowsM_get hlt) (d := .str (nth l i)) (by rw [if_neg (by omega)]; rfl)
      have hu : u = .string (nth l i) := c3.1
      subst hu
      have hA1 : Alt (fun p => ¬ M p) w w1 := HA.out.trans (Alt.below hb1)
      have hf1 : w1.frozen? ⟨b, o + i * 1 + 0, none⟩ = false := by
        cases hf : w1.frozen? ⟨b, o + i * 1 + 0, none⟩ with
        | false => rfl
        | true =>
          exfalso
          refine c2 (HF.out _ ?_)
          rw [← hA1.fro _ ?_]
          · exact hf
          · obtain ⟨u0, d1, _, _⟩ := flat_cells (mS_len k l 0) HR.out (i := i) (j := 0) (rowsM_get hlt) (d := .str (nth l i)) (by rw [if_neg (by omega)]; rfl)
            exact block_lt_of_cell d1
      have hset := flat_set (mS_len k l i) (mS_leaf k l i) hR1 (j := 0) (rowsM_get hlt) (by decide) (x := .str (mkT (k + i))) (u := .string (mkT (k + i))) (fun _ _ => ⟨rfl, hsz⟩)
      have hAs := hA1.trans (Alt.set (A := fun p => ¬ M p) (v := .string (mkT (k + i))) c2 c1 (.inr (.inl ⟨_, _, rfl, rfl, hsz⟩)))
      simp only [Nat.mul_one, Nat.add_zero] at hset hAs c1 hf1
      have HS := Lib.hid (show R (w1.setCell ⟨b, o + i, none⟩ (.string (mkT (k + i)))) M (.sl (mS k l (i + 1))) (.slice (some ⟨b, o, none⟩) l.length cap) by
        have e : mS k l (i + 1) = (mS k l i).set i ((if i < i then [.str (mkT (k + i))] else Enc.cells (nth l i)).set 0 (.str (mkT (k + i)))) := by
          unfold mS
          rw [rowsM_set]
          refine rowsM_congr fun a _ => ?_
          by_cases ha : a = i
          · subst ha; simp [cells_str]
          · have : a < i + 1 ↔ a < i := by omega
            simp [ha, this]
        rw [e]; exact hset)
      have HAs := Lib.hid hAs
      clear hset hAs hA1 hR1 c2 c3 hb1 hsz
      go_wp2
      exact ⟨⟨HAs.out, i + 1, by omega, by go_num, by go_num, HS.out⟩, by simp [intOf]; omega⟩
    · go_wp2
      go_ret
      obtain rfl : i = l.length := by omega
      exact ⟨rfl, HA.out, HRi.out⟩
/-! Rows of leaves, written cell by cell -/
def Flat (w : World) (M : Addr → Prop) (n : Nat) (rows : List (List D)) (v : Value) : Prop := R w M (.sl rows) v ∧ (∀ r ∈ rows, r.length = n) ∧ ∀ r ∈ rows, ∀ d ∈ r, leafD d = true
theorem Flat.keep {w w' : World} {M : Addr → Prop} {n : Nat} {rows : List (List D)} {v : Value} (h : Flat w M n rows v) (hb : Below w.heap.size w w') : Flat w' M n rows v := ⟨R.keep (Keeps.below hb fun _ _ h => h) _ _ h.1, h.2⟩
theorem set_all {α : Type} {p : α → Prop} {l : List α} {i : Nat} {x : α} (h : ∀ r ∈ l, p r) (hx : p x) : ∀ r ∈ l.set i x, p r := fun r hr => by
  rcases List.mem_or_eq_of_mem_set hr with h1 | rfl
  · exact h r h1
  · exact hx
theorem Flat.putS {w : World} {M : Addr → Prop} {n b o len cap i j : Nat} {rows : List (List D)} {r : List D} {t s : ByteArray} (h : Flat w M n rows (.slice (some ⟨b, o, none⟩) len cap)) (hi : rows[i]? = some r) (hj : r[j]? = some (.str t)) (hs : s.size ≤ maxLen) :
    w.cell? ⟨b, o + i * n + j, none⟩ = some (.string t) ∧ ¬ M ⟨b, o + i * n + j, none⟩ ∧ Flat (w.setCell ⟨b, o + i * n + j, none⟩ (.string s)) M n (rows.set i (r.set j (.str s))) (.slice (some ⟨b, o, none⟩) len cap) ∧ Alt (fun p => ¬ M p) w (w.setCell ⟨b, o + i * n + j, none⟩ (.string s)) := by
  obtain ⟨u, c1, c2, c3⟩ := flat_cells h.2.1 h.1 hi hj
  have hu : u = .string t := c3.1
  subst hu
  have hr := h.2.1 r (List.mem_of_getElem? hi)
  have hjn : j < n := by rw [← hr]; exact (List.getElem?_eq_some_iff.1 hj).1
  refine ⟨c1, c2, ⟨flat_set h.2.1 h.2.2 h.1 hi hjn fun _ _ => ⟨rfl, hs⟩, set_all h.2.1 (by simpa using hr), set_all h.2.2 fun d hd => ?_⟩, Alt.set (A := fun p => ¬ M p) c2 c1 (.inr (.inl ⟨_, _, rfl, rfl, hs⟩))⟩
  rcases List.mem_or_eq_of_mem_set hd with h1 | rfl
  · exact h.2.2 r (List.mem_of_getElem? hi) d h1
  · rfl
theorem Flat.putI {w : World} {M : Addr → Prop} {n b o len cap i j : Nat} {rows : List (List D)} {r : List D} {t x : Int} (h : Flat w M n rows (.slice (some ⟨b, o, none⟩) len cap)) (hi : rows[i]? = some r) (hj : r[j]? = some (.int .i64 t)) (h1 : -9223372036854775808 ≤ x) (h2 : x ≤ 9223372036854775807) :
    w.cell? ⟨b, o + i * n + j, none⟩ = some (.int .i64 t) ∧ ¬ M ⟨b, o + i * n + j, none⟩ ∧ Flat (w.setCell ⟨b, o + i * n + j, none⟩ (.int .i64 x)) M n (rows.set i (r.set j (.int .i64 x))) (.slice (some ⟨b, o, none⟩) len cap) ∧ Alt (fun p => ¬ M p) w (w.setCell ⟨b, o + i * n + j, none⟩ (.int .i64 x)) := by
  obtain ⟨u, c1, c2, c3⟩ := flat_cells h.2.1 h.1 hi hj
  have hu : u = .int .i64 t := c3.1
  subst hu
  have hr := h.2.1 r (List.mem_of_getElem? hi)
  have hjn : j < n := by rw [← hr]; exact (List.getElem?_eq_some_iff.1 hj).1
  refine ⟨c1, c2, ⟨flat_set h.2.1 h.2.2 h.1 hi hjn fun _ _ => int_ok h1 h2, set_all h.2.1 (by simpa using hr), set_all h.2.2 fun d hd => ?_⟩, Alt.set (A := fun p => ¬ M p) c2 c1 (.inr (.inr ⟨_, _, _, rfl, rfl, by rw [i64min]; exact h1, by rw [i64max]; exact h2⟩))⟩
  rcases List.mem_or_eq_of_mem_set hd with h3 | rfl
  · exact h.2.2 r (List.mem_of_getElem? hi) d h3
  · rfl
theorem free_of {A M : Addr → Prop} {w w' : World} {p : Addr} (h : Alt A w w') (hF : ∀ p, w.frozen? p = true → M p) (hp : ¬ M p) (hb : p.block < w.heap.size) : w'.frozen? p = false := by
  rw [h.fro p hb]
  cases hf : w.frozen? p with
  | false => rfl
  | true => exact absurd (hF p hf) hp
theorem set_at {α : Type} {l : List α} {i : Nat} {r x : α} (h : l[i]? = some r) : (l.set i x)[i]? = some x := List.getElem?_set_self (List.getElem?_eq_some_iff.1 h).1
/-! Marks of needs and of links -/
noncomputable def mN (k : Nat) (l : List Need) (i : Nat) : List (List D) := rowsM l.length fun a => if a < i then [.int .i64 ((k + 4 * a : Nat) : Int), .str (mkT (k + 4 * a + 1)), .int .i64 ((k + 4 * a + 1 + 1 : Nat) : Int), .int .i64 ((k + 4 * a + 1 + 1 + 1 : Nat) : Int)] else Enc.cells (nth l a)
theorem mN_flat (k : Nat) (l : List Need) (i : Nat) : (∀ r ∈ mN k l i, r.length = 4) ∧ ∀ r ∈ mN k l i, ∀ d ∈ r, leafD d = true := by
  constructor
  · intro r hr
    obtain ⟨a, _, rfl⟩ := rowsM_mem hr
    split <;> rfl
  · intro r hr d hd
    obtain ⟨a, _, rfl⟩ := rowsM_mem hr
    split at hd
    · simp at hd; rcases hd with rfl | rfl | rfl | rfl <;> rfl
    · simp [cells_Need] at hd; rcases hd with rfl | rfl | rfl | rfl <;> rfl
theorem mN_zero (k : Nat) (l : List Need) : mN k l 0 = l.map Enc.cells := by
  rw [rowsM_map]; exact rowsM_congr fun a _ => by simp
theorem mN_succ (k : Nat) (l : List Need) (i : Nat) : mN k l (i + 1) = (mN k l i).set i [.int .i64 ((k + 4 * i : Nat) : Int), .str (mkT (k + 4 * i + 1)), .int .i64 ((k + 4 * i + 1 + 1 : Nat) : Int), .int .i64 ((k + 4 * i + 1 + 1 + 1 : Nat) : Int)] := by
  unfold mN
  rw [rowsM_set]
  refine rowsM_congr fun a _ => ?_
  by_cases ha : a = i
  · subst ha; simp
  · have : a < i + 1 ↔ a < i := by omega
    simp [ha, this]
theorem m_NeedS (l : List Need) (k : Nat) (w : World) (M : Addr → Prop) (v : Value) (hr : R w M (encS l) v) (hfr : ∀ p, w.frozen? p = true → M p) (hk : k + 4 * l.length ≤ 1152921504606846970) :
    Calls Try.prog 85 #[v, .int .i64 k] w fun e w' => e = .returned (.int .i64 ((k + 4 * l.length : Nat) : Int)) ∧ Alt (fun p => ¬ M p) w w' ∧ R w' M (.sl (mN k l l.length)) v := by
  obtain ⟨a, len, cap, hv, hlen, hlc, hcm, hno, -⟩ := (show R w M (.sl (l.map Enc.cells)) v from hr)
  subst hv
  rw [List.length_map] at hlen
  subst hlen
  have hmx : (l.length : Int) ≤ 1152921504606846976 := by omega
  have HR := Lib.hid (show Flat w M 4 (mN k l 0) (.slice a l.length cap) from ⟨by rw [mN_zero]; exact hr, mN_flat k l 0⟩)
  have HF := Lib.hid hfr
  clear hr hfr
  go_enter Try.func85, Try.ntmps85
  go_wp2
  go_loopw [1, 5] (fun kk ii wr => Alt (fun p => ¬ M p) w wr ∧ ∃ i K : Nat, i ≤ l.length ∧ K = k + 4 * i ∧ kk = .int .i64 (K : Int) ∧ ii = .int .i64 (i : Int) ∧ Flat wr M 4 (mN k l i) (.slice a l.length cap)) (fun _ ii _ => l.length - (intOf ii).toNat)
  case atStart => exact ⟨Alt.refl _ _, 0, k, by omega, rfl, rfl, rfl, HR.out⟩
  case round =>
    obtain ⟨hA, i, K, hi, hK, rfl, rfl, hRi⟩ := hrel
    have HA := Lib.hid hA
    have HRi := Lib.hid hRi
    have HK := Lib.hid hK
    clear hA hRi
    by_cases hlt : i < l.length
    · obtain ⟨b, o, s, rfl⟩ : ∃ b o s, a = some ⟨b, o, s⟩ := by
        rcases a with _ | ⟨b, o, s⟩
        · have := hno rfl; omega
        · exact ⟨b, o, s, rfl⟩
      have hs : s = none := by
        obtain ⟨a', len', cap', e, q1, q2, q3, q4, q5⟩ := HRi.out.1
        cases e
        exact (q5 b o s rfl).1 (by omega)
      subst hs
      have hi0 : (0 : Int) ≤ (i : Int) := by omega
      have hi1 : (i : Int) < (l.length : Int) := by omega
      have hKb : K + 4 ≤ 1152921504606846970 := by omega
      have hbw : b < w.heap.size := by
        obtain ⟨u0, d1, _, _⟩ := flat_cells HR.out.2.1 HR.out.1 (i := i) (j := 0) (rowsM_get hlt) (d := .int .i64 (nth l i).face) (by rw [if_neg (by omega)]; rfl)
        exact block_lt_of_cell d1
      have hrow : (mN k l i)[i]? = some (Enc.cells (nth l i)) := by
        unfold mN
        rw [rowsM_get hlt, if_neg (by omega)]
      obtain ⟨c0, n0, F0, A0⟩ := HRi.out.putI (j := 0) (x := (K : Int)) hrow rfl (by omega) (by omega)
      have hA0 := HA.out.trans A0
      have hf0 := free_of HA.out HF.out n0 hbw
      have HF0 := Lib.hid F0
      have HA0 := Lib.hid hA0
      clear F0 A0 n0 hA0 hK
      simp only [Nat.add_zero] at c0 hf0 HF0 HA0
      go_wp2_with fail
      refine (w_markText (K + 1) (by omega) _).mono ?_
      rintro e w1 ⟨rfl, hsz, hb1⟩
      have F1 := HF0.out.keep hb1
      have hA1 := HA0.out.trans (Alt.below hb1)
      obtain ⟨c1, n1, F2, A2⟩ := F1.putS (j := 1) (s := mkT (K + 1)) (set_at hrow) rfl hsz
      obtain ⟨c2, n2, F3, A3⟩ := F2.putI (j := 2) (x := ((K + 1 + 1 : Nat) : Int)) (set_at (set_at hrow)) rfl (by omega) (by omega)
      obtain ⟨c3, n3, F4, A4⟩ := F3.putI (j := 3) (x := ((K + 1 + 1 + 1 : Nat) : Int)) (set_at (set_at (set_at hrow))) rfl (by omega) (by omega)
      have hf1 := free_of hA1 HF.out n1 hbw
      have hf2 := free_of (hA1.trans A2) HF.out n2 hbw
      have hf3 := free_of ((hA1.trans A2).trans A3) HF.out n3 hbw
      have HA4 := Lib.hid (((hA1.trans A2).trans A3).trans A4)
      have HF4 := Lib.hid F4
      rw [List.set_set, List.set_set, List.set_set] at HF4
      clear F1 F2 F3 F4 A2 A3 A4 hA1 n1 n2 n3 hb1 hsz
      simp only [Int.natCast_add, Int.natCast_one] at c1 c2 c3 hf1 hf2 hf3 HA4
      go_wp2
      refine ⟨⟨HA4.out, i + 1, K + 4, by omega, by have := HK.out; omega, by go_num, by go_num, ?_⟩, by simp [intOf]; omega⟩
      have e := HK.out
      subst e
      rw [mN_succ]
      exact HF4.out
    · go_wp2
      go_ret
      obtain rfl : i = l.length := by omega
      subst hK
      exact ⟨rfl, HA.out, HRi.out.1⟩
noncomputable def mL (k : Nat) (l : List Link) (i : Nat) : List (List D) := rowsM l.length fun a => if a < i then [.str (mkT (k + 3 * a)), .str (mkT (k + 3 * a + 1)), .int .i64 ((k + 3 * a + 1 + 1 : Nat) : Int)] else Enc.cells (nth l a)
theorem mL_flat (k : Nat) (l : List Link) (i : Nat) : (∀ r ∈ mL k l i, r.length = 3) ∧ ∀ r ∈ mL k l i, ∀ d ∈ r, leafD d = true := by
  constructor
  · intro r hr
    obtain ⟨a, _, rfl⟩ := rowsM_mem hr
    split <;> rfl
  · intro r hr d hd
    obtain ⟨a, _, rfl⟩ := rowsM_mem hr
    split at hd
    · simp at hd; rcases hd with rfl | rfl | rfl <;> rfl
    · simp [cells_Link] at hd; rcases hd with rfl | rfl | rfl <;> rfl
theorem mL_zero (k : Nat) (l : List Link) : mL k l 0 = l.map Enc.cells := by
  rw [rowsM_map]; exact rowsM_congr fun a _ => by simp
theorem mL_succ (k : Nat) (l : List Link) (i : Nat) : mL k l (i + 1) = (mL k l i).set i [.str (mkT (k + 3 * i)), .str (mkT (k + 3 * i + 1)), .int .i64 ((k + 3 * i + 1 + 1 : Nat) : Int)] := by
  unfold mL
  rw [rowsM_set]
  refine rowsM_congr fun a _ => ?_
  by_cases ha : a = i
  · subst ha; simp
  · have : a < i + 1 ↔ a < i := by omega
    simp [ha, this]
theorem m_LinkS (l : List Link) (k : Nat) (w : World) (M : Addr → Prop) (v : Value) (hr : R w M (encS l) v) (hfr : ∀ p, w.frozen? p = true → M p) (hk : k + 3 * l.length ≤ 1152921504606846970) :
    Calls Try.prog 45 #[v, .int .i64 k] w fun e w' => e = .returned (.int .i64 ((k + 3 * l.length : Nat) : Int)) ∧ Alt (fun p => ¬ M p) w w' ∧ R w' M (.sl (mL k l l.length)) v := by
  obtain ⟨a, len, cap, hv, hlen, hlc, hcm, hno, -⟩ := (show R w M (.sl (l.map Enc.cells)) v from hr)
  subst hv
  rw [List.length_map] at hlen
  subst hlen
  have hmx : (l.length : Int) ≤ 1152921504606846976 := by omega
  have HR := Lib.hid (show Flat w M 3 (mL k l 0) (.slice a l.length cap) from ⟨by rw [mL_zero]; exact hr, mL_flat k l 0⟩)
  have HF := Lib.hid hfr
  clear hr hfr
  go_enter Try.func45, Try.ntmps45
  go_wp2
  go_loopw [1, 5] (fun kk ii wr => Alt (fun p => ¬ M p) w wr ∧ ∃ i K : Nat, i ≤ l.length ∧ K = k + 3 * i ∧ kk = .int .i64 (K : Int) ∧ ii = .int .i64 (i : Int) ∧ Flat wr M 3 (mL k l i) (.slice a l.length cap)) (fun _ ii _ => l.length - (intOf ii).toNat)
  case atStart => exact ⟨Alt.refl _ _, 0, k, by omega, rfl, rfl, rfl, HR.out⟩
  case round =>
    obtain ⟨hA, i, K, hi, hK, rfl, rfl, hRi⟩ := hrel
    have HA := Lib.hid hA
    have HRi := Lib.hid hRi
    have HK := Lib.hid hK
    clear hA hRi
    by_cases hlt : i < l.length
    · obtain ⟨b, o, s, rfl⟩ : ∃ b o s, a = some ⟨b, o, s⟩ := by
        rcases a with _ | ⟨b, o, s⟩
        · have := hno rfl; omega
        · exact ⟨b, o, s, rfl⟩
      have hs : s = none := by
        obtain ⟨a', len', cap', e, q1, q2, q3, q4, q5⟩ := HRi.out.1
        cases e
        exact (q5 b o s rfl).1 (by omega)
      subst hs
      have hi0 : (0 : Int) ≤ (i : Int) := by omega
      have hi1 : (i : Int) < (l.length : Int) := by omega
      have hKb : K + 3 ≤ 1152921504606846970 := by omega
      have hbw : b < w.heap.size := by
        obtain ⟨u0, d1, _, _⟩ := flat_cells HR.out.2.1 HR.out.1 (i := i) (j := 0) (rowsM_get hlt) (d := .str (nth l i).frm) (by rw [if_neg (by omega)]; rfl)
        exact block_lt_of_cell d1
      have hrow : (mL k l i)[i]? = some (Enc.cells (nth l i)) := by
        unfold mL
        rw [rowsM_get hlt, if_neg (by omega)]
      clear hK
      go_wp2_with fail
      refine (w_markText K (by omega) _).mono ?_
      rintro e w1 ⟨rfl, hsz1, hb1⟩
      have F1 := HRi.out.keep hb1
      have hA1 := HA.out.trans (Alt.below hb1)
      obtain ⟨c1, n1, F2, A2⟩ := F1.putS (j := 0) (s := mkT K) hrow rfl hsz1
      have hf1 := free_of hA1 HF.out n1 hbw
      have HF2 := Lib.hid F2
      have HA2 := Lib.hid (hA1.trans A2)
      clear F1 F2 A2 hA1 n1 hb1 hsz1
      simp only [Nat.add_zero] at c1 hf1 HF2 HA2
      go_wp2_with fail
      refine (w_markText (K + 1) (by omega) _).mono ?_
      rintro e w2 ⟨rfl, hsz2, hb2⟩
      have F3 := HF2.out.keep hb2
      have hA3 := HA2.out.trans (Alt.below hb2)
      obtain ⟨c3, n3, F4, A4⟩ := F3.putS (j := 1) (s := mkT (K + 1)) (set_at hrow) rfl hsz2
      obtain ⟨c4, n4, F5, A5⟩ := F4.putI (j := 2) (x := ((K + 1 + 1 : Nat) : Int)) (set_at (set_at hrow)) rfl (by omega) (by omega)
      have hf3 := free_of hA3 HF.out n3 hbw
      have hf4 := free_of (hA3.trans A4) HF.out n4 hbw
      have HA5 := Lib.hid ((hA3.trans A4).trans A5)
      have HF5 := Lib.hid F5
      rw [List.set_set, List.set_set] at HF5
      clear F3 F4 F5 A4 A5 hA3 n3 n4 hb2 hsz2
      simp only [Int.natCast_add, Int.natCast_one] at c3 c4 hf3 hf4 HA5
      go_wp2
      refine ⟨⟨HA5.out, i + 1, K + 3, by omega, by have := HK.out; omega, by go_num, by go_num, ?_⟩, by simp [intOf]; omega⟩
      have e := HK.out
      subst e
      rw [mL_succ]
      exact HF5.out
    · go_wp2
      go_ret
      obtain rfl : i = l.length := by omega
      subst hK
      exact ⟨rfl, HA.out, HRi.out.1⟩
/-! Entries: how many marks; only the shape is kept in sight -/
def cntE (e : Entry) : Nat := 3 + e.recipe.length + 4 * e.needs.length
def cntTo (l : List Entry) : Nat → Nat
  | 0 => 0
  | i + 1 => cntTo l i + cntE (nth l i)
theorem cntTo_mono (l : List Entry) : ∀ {i j : Nat}, i ≤ j → cntTo l i ≤ cntTo l j
  | i, 0, h => by obtain rfl : i = 0 := by omega
                  exact Nat.le_refl _
  | i, j + 1, h => by
    rcases Nat.lt_or_ge i (j + 1) with h1 | h1
    · have := cntTo_mono l (show i ≤ j by omega)
      simp only [cntTo]; omega
    · obtain rfl : i = j + 1 := by omega
      exact Nat.le_refl _
theorem ent_len (l : List Entry) : ∀ r ∈ l.map Enc.cells, r.length = 5 := fun r hr => by
  obtain ⟨e, _, rfl⟩ := List.mem_map.1 hr; rfl
theorem ent_cell {w : World} {M : Addr → Prop} {l : List Entry} {b o len cap i j : Nat} {s : Option Nat} {d : D} (h : R w M (encS l) (.slice (some ⟨b, o, s⟩) len cap)) (hi : i < l.length) (hj : (Enc.cells (nth l i))[j]? = some d) :
    ∃ u, w.cell? ⟨b, o + i * 5 + j, none⟩ = some u ∧ ¬ M ⟨b, o + i * 5 + j, none⟩ ∧ R w M d u :=
  flat_cells (ent_len l) h (get_map l hi) hj
theorem m_EntryS (l : List Entry) (k : Nat) (w : World) (M : Addr → Prop) (v : Value) (hr : R w M (encS l) v) (hfr : ∀ p, w.frozen? p = true → M p) (hk : k + cntTo l l.length ≤ 1152921504606846970) (hll : l.length ≤ 1152921504606846976) :
    Calls Try.prog 41 #[v, .int .i64 k] w fun e w' => e = .returned (.int .i64 ((k + cntTo l l.length : Nat) : Int)) ∧ Alt (fun p => ¬ M p) w w' := by
  obtain ⟨a, len, cap, hv, hlen, hlc, hcm, hno, -⟩ := (show R w M (.sl (l.map Enc.cells)) v from hr)
  subst hv
  rw [List.length_map] at hlen
  subst hlen
  have hmx : (l.length : Int) ≤ 1152921504606846976 := by omega
  have HR := Lib.hid hr
  have HF := Lib.hid hfr
  clear hr hfr
  go_enter Try.func41, Try.ntmps41
  go_wp2
  go_loopw [1, 5] (fun kk ii wr => Alt (fun p => ¬ M p) w wr ∧ ∃ i K : Nat, i ≤ l.length ∧ K = k + cntTo l i ∧ kk = .int .i64 (K : Int) ∧ ii = .int .i64 (i : Int)) (fun _ ii _ => l.length - (intOf ii).toNat)
  case atStart => exact ⟨Alt.refl _ _, 0, k, by omega, rfl, rfl, rfl⟩
  case round =>
    obtain ⟨hA, i, K, hi, hK, rfl, rfl⟩ := hrel
    have HA := Lib.hid hA
    have HK := Lib.hid hK
    clear hA
    by_cases hlt : i < l.length
    · obtain ⟨b, o, s, rfl⟩ : ∃ b o s, a = some ⟨b, o, s⟩ := by
        rcases a with _ | ⟨b, o, s⟩
        · have := hno rfl; omega
        · exact ⟨b, o, s, rfl⟩
      have hs : s = none := by
        obtain ⟨a', len', cap', e, q1, q2, q3, q4, q5⟩ := HR.out
        cases e
        exact (q5 b o s rfl).1 (by omega)
      subst hs
      have hi0 : (0 : Int) ≤ (i : Int) := by omega
      have hi1 : (i : Int) < (l.length : Int) := by omega
      have hcm2 := cntTo_mono l (show i + 1 ≤ l.length by omega)
      simp only [cntTo, cntE] at hcm2
      have hKb : K + 3 + (nth l i).recipe.length + 4 * (nth l i).needs.length ≤ 1152921504606846970 := by omega
      have hbw : b < w.heap.size := by
        obtain ⟨u0, d1, _, _⟩ := ent_cell HR.out hlt (j := 0) rfl
        exact block_lt_of_cell d1
      clear hK hcm2
      go_wp2_with fail
      refine (w_markText K (by omega) _).mono ?_
      rintro e w1 ⟨rfl, hsz1, hb1⟩
      have hA1 := HA.out.trans (Alt.below hb1)
      obtain ⟨l1, L1, R1⟩ := hA1.entriesF HR.out HF.out
      have hlt1 : i < l1.length := by rw [L1.len]; exact hlt
      obtain ⟨u1, c1, n1, r1⟩ := ent_cell R1 hlt1 (j := 0) rfl
      have hu1 : u1 = .string (nth l1 i).name := r1.1
      subst hu1
      have hf1 := free_of hA1 HF.out (fun hm => n1 (.inl hm)) hbw
      have hA2 := hA1.trans (Alt.set (A := fun p => ¬ M p) (v := .string (mkT K)) (fun hm => n1 (.inl hm)) c1 (.inr (.inl ⟨_, _, rfl, rfl, hsz1⟩)))
      obtain ⟨l2, L2, R2⟩ := hA2.entriesF HR.out HF.out
      have hlt2 : i < l2.length := by rw [L2.len]; exact hlt
      obtain ⟨u2, c2, n2, r2⟩ := ent_cell R2 hlt2 (j := 1) rfl
      obtain ⟨a2, len2, cap2, hu2, -⟩ := (show R _ _ (.sl ((nth l2 i).recipe.map Enc.cells)) u2 from r2)
      have hrl := L2.rcp i hlt
      obtain ⟨K2, hK2⟩ : ∃ K2, K + 1 + (nth l2 i).recipe.length = K2 := ⟨_, rfl⟩
      have hm2 := m_StringS (nth l2 i).recipe (K + 1) _ _ u2 r2 (fun p hp => .inr hp) (by omega)
      rw [hK2] at hm2
      have HM2 := Lib.hid hm2
      have HA2 := Lib.hid hA2
      have HK2 := Lib.hid (show K2 = K + 1 + (nth l i).recipe.length by omega)
      have hK2b : K2 + 2 + 4 * (nth l i).needs.length ≤ 1152921504606846970 := by omega
      have HU2 := Lib.hid hu2
      clear R1 R2 r1 r2 hA1 hA2 n1 n2 hb1 hsz1 L1 L2 hu2 hm2 hK2 hrl
      simp only [Nat.add_zero] at c1 hf1 c2 HA2 HM2
      go_wp2_with fail
      refine HM2.out.mono ?_
      rintro e w3 ⟨rfl, hA3, -⟩
      have hA3' := HA2.out.trans (hA3.mono fun p _ h hm => h (.inl hm))
      obtain ⟨l3, L3, R3⟩ := hA3'.entriesF HR.out HF.out
      have hlt3 : i < l3.length := by rw [L3.len]; exact hlt
      obtain ⟨u3, c3, n3, r3⟩ := ent_cell R3 hlt3 (j := 2) rfl
      have hu3 : u3 = .int .i64 (nth l3 i).ver.maj := r3.1
      subst hu3
      have hf3 := free_of hA3' HF.out (fun hm => n3 (.inl hm)) hbw
      have hA4 := hA3'.trans (Alt.set (A := fun p => ¬ M p) (v := .int .i64 (K2 : Int)) (fun hm => n3 (.inl hm)) c3 (.inr (.inr ⟨_, _, _, rfl, rfl, by rw [i64min]; omega, by rw [i64max]; omega⟩)))
      obtain ⟨l4, L4, R4⟩ := hA4.entriesF HR.out HF.out
      have hlt4 : i < l4.length := by rw [L4.len]; exact hlt
      obtain ⟨u4, c4, n4, r4⟩ := ent_cell R4 hlt4 (j := 3) rfl
      have hu4 : u4 = .int .i64 (nth l4 i).ver.min := r4.1
      subst hu4
      have hf4 := free_of hA4 HF.out (fun hm => n4 (.inl hm)) hbw
      have hA5 := hA4.trans (Alt.set (A := fun p => ¬ M p) (v := .int .i64 ((K2 : Int) + 1)) (fun hm => n4 (.inl hm)) c4 (.inr (.inr ⟨_, _, _, rfl, rfl, by rw [i64min]; omega, by rw [i64max]; omega⟩)))
      obtain ⟨l5, L5, R5⟩ := hA5.entriesF HR.out HF.out
      have hlt5 : i < l5.length := by rw [L5.len]; exact hlt
      obtain ⟨u5, c5, n5, r5⟩ := ent_cell R5 hlt5 (j := 4) rfl
      have hnl := L5.nds i hlt
      obtain ⟨K5, hK5⟩ : ∃ K5, K2 + 2 + 4 * (nth l5 i).needs.length = K5 := ⟨_, rfl⟩
      have hm5 := m_NeedS (nth l5 i).needs (K2 + 2) _ _ u5 r5 (fun p hp => .inr hp) (by omega)
      rw [hK5] at hm5
      have HM5 := Lib.hid hm5
      have HA5 := Lib.hid hA5
      have HK5 := Lib.hid (show K5 = K2 + 2 + 4 * (nth l i).needs.length by omega)
      clear R3 R4 R5 r3 r4 r5 hA3 hA3' hA4 hA5 n3 n4 n5 L3 L4 L5 hm5 hK5 hnl HM2 HA2
      go_wp2_with fail
      refine HM5.out.mono ?_
      rintro e w6 ⟨rfl, hA6, -⟩
      have HA6 := Lib.hid (HA5.out.trans (hA6.mono fun p _ h hm => h (.inl hm)))
      clear hA6
      go_wp2
      refine ⟨⟨HA6.out, i + 1, K5, by omega, ?_, by go_num, by go_num⟩, by simp [intOf]; omega⟩
      have h1 := HK.out
      have h2 := HK5.out
      have h3 := HK2.out
      simp only [cntTo, cntE]
      omega
    · go_wp2
      go_ret
      obtain rfl : i = l.length := by omega
      subst hK
      exact ⟨rfl, HA.out⟩
/-! The marks are all there -/
theorem c_heldStringS (l : List ByteArray) (k : Nat) (hk : k + l.length ≤ 1152921504606846970) : Fun Try.prog 43 none [.sl (mS k l l.length), .int .i64 k] (.int .i64 ((k + l.length : Nat) : Int)) [] := by
  refine Fun.ofV vc_laws_heldStringS_ok ty_laws_heldStringS_ok rfl ?_ (fun hfit => ?_)
  · refine ⟨?_, rfl, trivial⟩
    show RowsTy _ (tbl.tab _) _
    rw [tab_str]
    refine RowsTy.of fun r hr => ?_
    obtain ⟨a, ha, rfl⟩ := rowsM_mem hr
    rw [if_pos ha]; exact ⟨trivial, trivial⟩
  unfold vc_laws_heldStringS
  have hml : (mS k l l.length).length = l.length := rowsM_len _ _
  refine den_for l.length (fun i => [.int .i64 ((k + i : Nat) : Int), .int .i64 i]) (fun _ => True) rfl trivial ?_
  intro i hi _ _
  simp only [List.cons_append, List.nil_append]
  refine den_ite (fun h2 => ?_) (fun h2 => ?_)
  · simp only [E.den, dEq, iEq, sEq, lenD_sl, hml] at h2
    have h2 : i < l.length := by simpa using h2
    have hrow : (mS k l l.length)[i]? = some [.str (mkT (k + i))] := by
      unfold mS
      rw [rowsM_get h2, if_pos h2]
    refine den_cond (fun _ => ?_) ?_
    · simp only [E.den, dEq, iEq, sEq, lenD_sl, hml]; simp; omega
    ((first | refine den_call ?_ (c_markText (k + i) (by omega)) (trivial) ?_ | refine den_callR ?_ (c_markText (k + i) (by omega)) (trivial) ?_ | refine den_call ?_ (.ofR (c_markText (k + i) (by omega))) (trivial) ?_); (focus (simp only [VC.den, E.den, dEq, gsH_nil, and_true]; try exact rfl)); (simp only [List.cons_append, List.nil_append]))
    refine den_ite (fun h3 => ?_) (fun h3 => ?_)
    · simp only [E.den, dEq, iEq, sEq, hrow, Option.getD_some] at h3
      simp at h3
    refine den_next h2 ?_ trivial
    simp only [E.den, dEq, iEq, sEq]
    rw [ar_add (by omega) (by omega), ar_add (by omega) (by omega)]; rfl
  · simp only [E.den, dEq, iEq, sEq, lenD_sl, hml] at h2
    obtain rfl : i = l.length := by simp at h2; omega
    exact den_ret rfl
theorem c_heldLinkS (l : List Link) (k : Nat) (hk : k + 3 * l.length ≤ 1152921504606846970) : Fun Try.prog 46 none [.sl (mL k l l.length), .int .i64 k] (.int .i64 ((k + 3 * l.length : Nat) : Int)) [] := by
  refine Fun.ofV vc_laws_heldLinkS_ok ty_laws_heldLinkS_ok rfl ?_ (fun hfit => ?_)
  · refine ⟨?_, rfl, trivial⟩
    show RowsTy _ (tbl.tab _) _
    rw [tab_Link]
    refine RowsTy.of fun r hr => ?_
    obtain ⟨a, ha, rfl⟩ := rowsM_mem hr
    rw [if_pos ha]; exact ⟨trivial, trivial, rfl, trivial⟩
  unfold vc_laws_heldLinkS
  have hml : (mL k l l.length).length = l.length := rowsM_len _ _
  refine den_for l.length (fun i => [.int .i64 ((k + 3 * i : Nat) : Int), .int .i64 i]) (fun _ => True) rfl trivial ?_
  intro i hi _ _
  simp only [List.cons_append, List.nil_append]
  refine den_ite (fun h2 => ?_) (fun h2 => ?_)
  · simp only [E.den, dEq, iEq, sEq, lenD_sl, hml] at h2
    have h2 : i < l.length := by simpa using h2
    have hrow : (mL k l l.length)[i]? = some [.str (mkT (k + 3 * i)), .str (mkT (k + 3 * i + 1)), .int .i64 ((k + 3 * i + 1 + 1 : Nat) : Int)] := by
      unfold mL
      rw [rowsM_get h2, if_pos h2]
    have e1 : arI .add .i64 ((k + 3 * i : Nat) : Int) 1 = ((k + 3 * i + 1 : Nat) : Int) := ar_add (by omega) (by omega)
    have e2 : arI .add .i64 ((k + 3 * i + 1 : Nat) : Int) 1 = ((k + 3 * i + 1 + 1 : Nat) : Int) := ar_add (by omega) (by omega)
    have e3 : arI .add .i64 ((k + 3 * i + 1 + 1 : Nat) : Int) 1 = ((k + 3 * (i + 1) : Nat) : Int) := by rw [ar_add (by omega) (by omega)]; omega
    refine den_cond (fun _ => ?_) ?_
    · simp only [E.den, dEq, iEq, sEq, lenD_sl, hml]; simp; omega
    ((first | refine den_call ?_ (c_markText (k + 3 * i) (by omega)) (trivial) ?_ | refine den_callR ?_ (c_markText (k + 3 * i) (by omega)) (trivial) ?_ | refine den_call ?_ (.ofR (c_markText (k + 3 * i) (by omega))) (trivial) ?_); (focus (simp only [VC.den, E.den, dEq, gsH_nil, and_true]; try exact rfl)); (simp only [List.cons_append, List.nil_append]))
    refine den_ite (fun h3 => ?_) (fun h3 => ?_)
    · simp only [E.den, dEq, iEq, sEq, hrow, Option.getD_some] at h3
      simp at h3
    refine den_cond (fun _ => ?_) ?_
    · simp only [E.den, dEq, iEq, sEq, lenD_sl, hml]; simp; omega
    ((first | refine den_call ?_ (c_markText (k + 3 * i + 1) (by omega)) (trivial) ?_ | refine den_callR ?_ (c_markText (k + 3 * i + 1) (by omega)) (trivial) ?_ | refine den_call ?_ (.ofR (c_markText (k + 3 * i + 1) (by omega))) (trivial) ?_); (focus (simp only [VC.den, E.den, dEq, gsH_nil, and_true, e1]; try exact rfl)); (simp only [List.cons_append, List.nil_append]))
    refine den_ite (fun h3 => ?_) (fun h3 => ?_)
    · simp only [E.den, dEq, iEq, sEq, hrow, Option.getD_some] at h3
      simp at h3
    refine den_cond (fun _ => ?_) ?_
    · simp only [E.den, dEq, iEq, sEq, lenD_sl, hml]; simp; omega
    refine den_ite (fun h3 => ?_) (fun h3 => ?_)
    · simp only [E.den, dEq, iEq, sEq, hrow, Option.getD_some, e1, e2] at h3
      simp at h3
    refine den_next h2 ?_ trivial
    simp only [E.den, dEq, iEq, sEq, e1, e2, e3]
    rw [ar_add (by omega) (by omega)]; rfl
  · simp only [E.den, dEq, iEq, sEq, lenD_sl, hml] at h2
    obtain rfl : i = l.length := by simp at h2; omega
    exact den_ret rfl
end Go.Proofs.Ythoafgehfgblaaa
