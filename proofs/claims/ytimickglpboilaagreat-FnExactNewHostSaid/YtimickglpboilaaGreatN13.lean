/- Contracts of the laws' helpers that write marks into memory of one's own, walked by hand; and of those that look for them. -/
import Derived.Test.YtimickglpboilaaGreatN12
set_option linter.unusedVariables false
set_option linter.unusedSimpArgs false
set_option maxRecDepth 100000
namespace Go.Proofs.YtimickglpboilaaGreat
open Go.RowKit Go
def isMk (r : D) : Prop := ∃ s : ByteArray, r = .str s
structure MkSt where
 s : ByteArray
 n : Int
theorem d_markText (k : Int) (hk : k ≤ 1152921504606846976) : ∃ r, isMk r ∧ Fun Tryz.prog 27 none [.int .i64 k] r [] := by
 refine Fun.exV vc_laws_markText_ok rfl ty_laws_markText_ok ⟨rfl, trivial⟩ (.str ⟨#[]⟩) ⟨_, rfl⟩ fun hfit => ?_; unfold vc_laws_markText
 refine den_ite (fun _ => ⟨⟨_, rfl⟩, rfl⟩) (fun h => ?_)
 simp only [E.den, dEq, iEq, sEq] at h
 have h : 0 < k := by simpa using h
 refine den_loop MkSt (fun s => [.str s.s, .int .i64 s.n]) (fun s => 0 ≤ s.n ∧ (s.s.size : Int) + s.n ≤ k) (fun s => s.n.toNat) ⟨⟨#[]⟩, k⟩ (fun s s' h => by simp at h; rw [h.2]) rfl ⟨by simp only; omega, by simp [ByteArray.size]⟩ ?_
 rintro ⟨s, n⟩ ⟨hn, hs⟩ _
 simp only at hn hs
 simp only [cA]
 refine den_ite (fun h2 => ?_) (fun h2 => ?_)
 ·simp only [E.den, dEq, iEq, sEq] at h2
  have h2 : 0 < n := by simpa using h2
  refine den_cond (fun _ => ?_) (den_cond (fun _ => ?_) (den_cond (fun _ => ?_) ?_))
  ·simp [E.den, cmpI]
  ·simp only [E.den, dEq, iEq, sEq]
   simp only [bytesD, strOfNums_size, List.length_map, D.toR_sl, List.length_cons, List.length_nil, List.append_nil, List.nil_append]
   simp only [D.bool.injEq, decide_eq_true_eq]
   unfold maxLen; omega
  ·simp [E.den, cmpI]
  have hq : arI .quo .i64 n 10 = n / 10 := by
   show IntKind.i64.wrap (n.tdiv 10) = _
   rw [Int.tdiv_eq_ediv_of_nonneg (by omega), wrap_i64 (by omega) (by omega)]
  refine den_again (s' := (⟨bytesD (.sl [[.int .u8 (IntKind.u8.wrap (arI .add .i64 48 (arI .rem .i64 n 10)))]]) ++ s, n / 10⟩ : MkSt)) ?_ ⟨?_, ?_⟩ ?_
  ·simp only [E.den, dEq, iEq, sEq]
   rw [hq]
  ·simp only; omega
  ·simp only [ByteArray.size_append, bytesD, strOfNums_size, List.length_map, D.toR_sl, List.length_cons, List.length_nil, List.append_nil, List.nil_append]
   omega
  ·simp only; omega
 ·refine den_cond (fun _ => ?_) ⟨⟨_, rfl⟩, rfl⟩
  simp only [E.den, dEq, iEq, sEq]
  simp only [D.bool.injEq, decide_eq_true_eq]
  have : (⟨#[109]⟩ : ByteArray).size = 1 := rfl
  unfold maxLen; omega
open Classical in
noncomputable def mkT (k : Nat) : ByteArray := if h : ∃ s : ByteArray, Fun Tryz.prog 27 none [.int .i64 k] (.str s) [] then h.choose else ⟨#[]⟩
theorem c_markText (k : Nat) (hk : k ≤ 1152921504606846976) : Fun Tryz.prog 27 none [.int .i64 k] (.str (mkT k)) [] := by
 have h : ∃ s : ByteArray, Fun Tryz.prog 27 none [.int .i64 k] (.str s) [] := by
  obtain ⟨r, ⟨s, rfl⟩, h⟩ := d_markText k (by omega)
  exact ⟨s, h⟩
 unfold mkT
 rw [dif_pos h]
 exact h.choose_spec
theorem i64min : IntKind.i64.min = -9223372036854775808 := rfl
theorem i64max : IntKind.i64.max = 9223372036854775807 := rfl
theorem int_ok {w : World} {M : Addr → Prop} {n : Int} (h1 : -9223372036854775808 ≤ n) (h2 : n ≤ 9223372036854775807) : R w M (.int .i64 n) (.int .i64 n) :=
 ⟨rfl, by rw [i64min]; exact h1, by rw [i64max]; exact h2⟩
theorem rdy0 (w : World) : Rdy w (fun _ => False) := ⟨fun _ h => h.elim, trivial, Nat.zero_le _⟩
theorem w_markText (k : Nat) (hk : k ≤ 1152921504606846976) (w : World) : Calls Tryz.prog 27 #[.int .i64 k] w fun e w' => e = .returned (.string (mkT k)) ∧ (mkT k).size ≤ maxLen ∧ Below w.heap.size w w' := by
 have h := Fun.calls (c_markText k hk) (rdy0 w) (vs := [.int .i64 k]) ⟨_, [], rfl, int_ok (by omega) (by omega), rfl⟩
 refine h.mono ?_
 rintro e w' ⟨v, rfl, ⟨rfl, hs⟩, hb⟩
 exact ⟨rfl, hs, hb⟩
/-! Marks of texts -/
noncomputable def mS (k : Nat) (l : List ByteArray) (i : Nat) : List (List D) := rowsM l.length fun a => if a < i then [.str (mkT (k + a))] else Enc.cells (nth l a)
theorem mS_len (k : Nat) (l : List ByteArray) (i : Nat) : ∀ r ∈ mS k l i, r.length = 1 := fun r hr => by
 obtain ⟨a, _, rfl⟩ := rowsM_mem hr
 split <;> rfl
theorem mS_leaf (k : Nat) (l : List ByteArray) (i : Nat) : ∀ r ∈ mS k l i, ∀ d ∈ r, leafD d = true := fun r hr d hd => by
 obtain ⟨a, _, rfl⟩ := rowsM_mem hr
 split at hd <;> (simp [cells_str] at hd; subst hd; rfl)
theorem mS_zero (k : Nat) (l : List ByteArray) : mS k l 0 = l.map Enc.cells := by
 rw [rowsM_map]; exact rowsM_congr fun a _ => by simp
theorem m_StringS (l : List ByteArray) (k : Nat) (w : World) (M : Addr → Prop) (v : Value) (hr : R w M (encS l) v) (hfr : ∀ p, w.frozen? p = true → M p) (hk : k + l.length ≤ 1152921504606846976) :
  Calls Tryz.prog 28 #[v, .int .i64 k] w fun e w' => e = .returned (.int .i64 ((k + l.length : Nat) : Int)) ∧ Alt (fun p => ¬ M p) w w' ∧ R w' M (.sl (mS k l l.length)) v := by
 obtain ⟨a, len, cap, hv, hlen, hlc, hcm, hno, -⟩ := (show R w M (.sl (l.map Enc.cells)) v from hr)
 subst hv
 rw [List.length_map] at hlen
 subst hlen
 have hmx : (l.length : Int) ≤ 1152921504606846976 := by omega
 have HR := Lib.hid (show R w M (.sl (mS k l 0)) (.slice a l.length cap) by rw [mS_zero]; exact hr)
 have HF := Lib.hid hfr
 clear hr hfr
 go_enter Tryz.func28, Tryz.ntmps28
 go_wp2
 go_loopw [1, 5] (fun kk ii wr => Alt (fun p => ¬ M p) w wr ∧ ∃ i : Nat, i ≤ l.length ∧ kk = .int .i64 ((k + i : Nat) : Int) ∧ ii = .int .i64 (i : Int) ∧ R wr M (.sl (mS k l i)) (.slice a l.length cap)) (fun _ ii _ => l.length - (intOf ii).toNat)
 case atStart => exact ⟨Alt.refl _ _, 0, by omega, rfl, rfl, HR.out⟩
 case round =>
  obtain ⟨hA, i, hi, rfl, rfl, hRi⟩ := hrel
  have HA := Lib.hid hA
  have HRi := Lib.hid hRi
  clear hA hRi
  by_cases hlt : i < l.length
  ·obtain ⟨b, o, s, rfl⟩ : ∃ b o s, a = some ⟨b, o, s⟩ := by
    rcases a with _ | ⟨b, o, s⟩
    ·have := hno rfl; omega
    ·exact ⟨b, o, s, rfl⟩
   have hs : s = none := by
    obtain ⟨a', len', cap', e, q1, q2, q3, q4, q5⟩ := HRi.out
    cases e
    exact (q5 b o s rfl).1 (by omega)
   subst hs
   have hi0 : (0 : Int) ≤ (i : Int) := by omega
   have hi1 : (i : Int) < (l.length : Int) := by omega
   have hlt' : (i : Int) < (l.length : Int) := hi1
   go_wp2_with fail
   refine (w_markText (k + i) (by omega) _).mono ?_
   rintro e w1 ⟨rfl, hsz, hb1⟩
   have hR1 := R.keep (Keeps.below hb1 fun _ _ h => h) _ _ HRi.out
   obtain ⟨u, c1, c2, c3⟩ := flat_cells (mS_len k l i) hR1 (i := i) (j := 0) (rowsM_get hlt) (d := .str (nth l i)) (by rw [if_neg (by omega)]; rfl)
   have hu : u = .string (nth l i) := c3.1
   subst hu
   have hA1 : Alt (fun p => ¬ M p) w w1 := HA.out.trans (Alt.below hb1)
   have hf1 : w1.frozen? ⟨b, o + i * 1 + 0, none⟩ = false := by
    cases hf : w1.frozen? ⟨b, o + i * 1 + 0, none⟩ with
    | false => rfl
    | true =>
     exfalso
     refine c2 (HF.out _ ?_)
     rw [← hA1.fro _ ?_]
     ·exact hf
     ·obtain ⟨u0, d1, _, _⟩ := flat_cells (mS_len k l 0) HR.out (i := i) (j := 0) (rowsM_get hlt) (d := .str (nth l i)) (by rw [if_neg (by omega)]; rfl)
      exact block_lt_of_cell d1
   have hset := flat_set (mS_len k l i) (mS_leaf k l i) hR1 (j := 0) (rowsM_get hlt) (by decide) (x := .str (mkT (k + i))) (u := .string (mkT (k + i))) (fun _ _ => ⟨rfl, hsz⟩)
   have hAs := hA1.trans (Alt.set (A := fun p => ¬ M p) (v := .string (mkT (k + i))) c2 c1 (.inr (.inl ⟨_, _, rfl, rfl, hsz⟩)))
   simp only [Nat.mul_one, Nat.add_zero] at hset hAs c1 hf1
   have HS := Lib.hid (show R (w1.setCell ⟨b, o + i, none⟩ (.string (mkT (k + i)))) M (.sl (mS k l (i + 1))) (.slice (some ⟨b, o, none⟩) l.length cap) by
    have e : mS k l (i + 1) = (mS k l i).set i ((if i < i then [.str (mkT (k + i))] else Enc.cells (nth l i)).set 0 (.str (mkT (k + i)))) := by
     unfold mS
     rw [rowsM_set]
     refine rowsM_congr fun a _ => ?_
     by_cases ha : a = i
     ·subst ha; simp [cells_str]
     ·have : a < i + 1 ↔ a < i := by omega
      simp [ha, this]
    rw [e]; exact hset)
   have HAs := Lib.hid hAs
   clear hset hAs hA1 hR1 c2 c3 hb1 hsz
   go_wp2
   exact ⟨⟨HAs.out, i + 1, by omega, by go_num, by go_num, HS.out⟩, by simp [intOf]; omega⟩
  ·go_wp2
   go_ret
   obtain rfl : i = l.length := by omega
   exact ⟨rfl, HA.out, HRi.out⟩
/-! Rows of leaves, written cell by cell -/
def Flat (w : World) (M : Addr → Prop) (n : Nat) (rows : List (List D)) (v : Value) : Prop := R w M (.sl rows) v ∧ (∀ r ∈ rows, r.length = n) ∧ ∀ r ∈ rows, ∀ d ∈ r, leafD d = true
theorem Flat.keep {w w' : World} {M : Addr → Prop} {n : Nat} {rows : List (List D)} {v : Value} (h : Flat w M n rows v) (hb : Below w.heap.size w w') : Flat w' M n rows v := ⟨R.keep (Keeps.below hb fun _ _ h => h) _ _ h.1, h.2⟩
theorem set_all {α : Type} {p : α → Prop} {l : List α} {i : Nat} {x : α} (h : ∀ r ∈ l, p r) (hx : p x) : ∀ r ∈ l.set i x, p r := fun r hr => by
 rcases List.mem_or_eq_of_mem_set hr with h1 | rfl
 ·exact h r h1
 ·exact hx
theorem Flat.putS {w : World} {M : Addr → Prop} {n b o len cap i j : Nat} {rows : List (List D)} {r : List D} {t s : ByteArray} (h : Flat w M n rows (.slice (some ⟨b, o, none⟩) len cap)) (hi : rows[i]? = some r) (hj : r[j]? = some (.str t)) (hs : s.size ≤ maxLen) :
  w.cell? ⟨b, o + i * n + j, none⟩ = some (.string t) ∧ ¬ M ⟨b, o + i * n + j, none⟩ ∧ Flat (w.setCell ⟨b, o + i * n + j, none⟩ (.string s)) M n (rows.set i (r.set j (.str s))) (.slice (some ⟨b, o, none⟩) len cap) ∧ Alt (fun p => ¬ M p) w (w.setCell ⟨b, o + i * n + j, none⟩ (.string s)) := by
 obtain ⟨u, c1, c2, c3⟩ := flat_cells h.2.1 h.1 hi hj
 have hu : u = .string t := c3.1
 subst hu
 have hr := h.2.1 r (List.mem_of_getElem? hi)
 have hjn : j < n := by rw [← hr]; exact (List.getElem?_eq_some_iff.1 hj).1
 refine ⟨c1, c2, ⟨flat_set h.2.1 h.2.2 h.1 hi hjn fun _ _ => ⟨rfl, hs⟩, set_all h.2.1 (by simpa using hr), set_all h.2.2 fun d hd => ?_⟩, Alt.set (A := fun p => ¬ M p) c2 c1 (.inr (.inl ⟨_, _, rfl, rfl, hs⟩))⟩
 rcases List.mem_or_eq_of_mem_set hd with h1 | rfl
 ·exact h.2.2 r (List.mem_of_getElem? hi) d h1
 ·rfl
theorem Flat.putI {w : World} {M : Addr → Prop} {n b o len cap i j : Nat} {rows : List (List D)} {r : List D} {t x : Int} (h : Flat w M n rows (.slice (some ⟨b, o, none⟩) len cap)) (hi : rows[i]? = some r) (hj : r[j]? = some (.int .i64 t)) (h1 : -9223372036854775808 ≤ x) (h2 : x ≤ 9223372036854775807) :
  w.cell? ⟨b, o + i * n + j, none⟩ = some (.int .i64 t) ∧ ¬ M ⟨b, o + i * n + j, none⟩ ∧ Flat (w.setCell ⟨b, o + i * n + j, none⟩ (.int .i64 x)) M n (rows.set i (r.set j (.int .i64 x))) (.slice (some ⟨b, o, none⟩) len cap) ∧ Alt (fun p => ¬ M p) w (w.setCell ⟨b, o + i * n + j, none⟩ (.int .i64 x)) := by
 obtain ⟨u, c1, c2, c3⟩ := flat_cells h.2.1 h.1 hi hj
 have hu : u = .int .i64 t := c3.1
 subst hu
 have hr := h.2.1 r (List.mem_of_getElem? hi)
 have hjn : j < n := by rw [← hr]; exact (List.getElem?_eq_some_iff.1 hj).1
 refine ⟨c1, c2, ⟨flat_set h.2.1 h.2.2 h.1 hi hjn fun _ _ => int_ok h1 h2, set_all h.2.1 (by simpa using hr), set_all h.2.2 fun d hd => ?_⟩, Alt.set (A := fun p => ¬ M p) c2 c1 (.inr (.inr (.inl ⟨_, _, _, rfl, rfl, by rw [i64min]; exact h1, by rw [i64max]; exact h2⟩)))⟩
 rcases List.mem_or_eq_of_mem_set hd with h3 | rfl
 ·exact h.2.2 r (List.mem_of_getElem? hi) d h3
 ·rfl
theorem free_of {A M : Addr → Prop} {w w' : World} {p : Addr} (h : Alt A w w') (hF : ∀ p, w.frozen? p = true → M p) (hp : ¬ M p) (hb : p.block < w.heap.size) : w'.frozen? p = false := by
 rw [h.fro p hb]
 cases hf : w.frozen? p with
 | false => rfl
 | true => exact absurd (hF p hf) hp
theorem set_at {α : Type} {l : List α} {i : Nat} {r x : α} (h : l[i]? = some r) : (l.set i x)[i]? = some x := List.getElem?_set_self (List.getElem?_eq_some_iff.1 h).1
/-! Marks of needs and of links -/
noncomputable def mN (k : Nat) (l : List Need) (i : Nat) : List (List D) := rowsM l.length fun a => if a < i then [.int .i64 ((k + 4 * a : Nat) : Int), .str (mkT (k + 4 * a + 1)), .int .i64 ((k + 4 * a + 1 + 1 : Nat) : Int), .int .i64 ((k + 4 * a + 1 + 1 + 1 : Nat) : Int)] else Enc.cells (nth l a)
theorem mN_flat (k : Nat) (l : List Need) (i : Nat) : (∀ r ∈ mN k l i, r.length = 4) ∧ ∀ r ∈ mN k l i, ∀ d ∈ r, leafD d = true := by
 constructor
 ·intro r hr
  obtain ⟨a, _, rfl⟩ := rowsM_mem hr
  split <;> rfl
 ·intro r hr d hd
  obtain ⟨a, _, rfl⟩ := rowsM_mem hr
  split at hd
  ·simp at hd; rcases hd with rfl | rfl | rfl | rfl <;> rfl
  ·simp [cells_Need] at hd; rcases hd with rfl | rfl | rfl | rfl <;> rfl
theorem mN_zero (k : Nat) (l : List Need) : mN k l 0 = l.map Enc.cells := by
 rw [rowsM_map]; exact rowsM_congr fun a _ => by simp
theorem mN_succ (k : Nat) (l : List Need) (i : Nat) : mN k l (i + 1) = (mN k l i).set i [.int .i64 ((k + 4 * i : Nat) : Int), .str (mkT (k + 4 * i + 1)), .int .i64 ((k + 4 * i + 1 + 1 : Nat) : Int), .int .i64 ((k + 4 * i + 1 + 1 + 1 : Nat) : Int)] := by
 unfold mN
 rw [rowsM_set]
 refine rowsM_congr fun a _ => ?_
 by_cases ha : a = i
 ·subst ha; simp
 ·have : a < i + 1 ↔ a < i := by omega
  simp [ha, this]
theorem m_NeedS (l : List Need) (k : Nat) (w : World) (M : Addr → Prop) (v : Value) (hr : R w M (encS l) v) (hfr : ∀ p, w.frozen? p = true → M p) (hk : k + 4 * l.length ≤ 1152921504606846970) :
  Calls Tryz.prog 29 #[v, .int .i64 k] w fun e w' => e = .returned (.int .i64 ((k + 4 * l.length : Nat) : Int)) ∧ Alt (fun p => ¬ M p) w w' ∧ R w' M (.sl (mN k l l.length)) v := by
 obtain ⟨a, len, cap, hv, hlen, hlc, hcm, hno, -⟩ := (show R w M (.sl (l.map Enc.cells)) v from hr)
 subst hv
 rw [List.length_map] at hlen
 subst hlen
 have hmx : (l.length : Int) ≤ 1152921504606846976 := by omega
 have HR := Lib.hid (show Flat w M 4 (mN k l 0) (.slice a l.length cap) from ⟨by rw [mN_zero]; exact hr, mN_flat k l 0⟩)
 have HF := Lib.hid hfr
 clear hr hfr
 go_enter Tryz.func29, Tryz.ntmps29
 go_wp2
 go_loopw [1, 5] (fun kk ii wr => Alt (fun p => ¬ M p) w wr ∧ ∃ i K : Nat, i ≤ l.length ∧ K = k + 4 * i ∧ kk = .int .i64 (K : Int) ∧ ii = .int .i64 (i : Int) ∧ Flat wr M 4 (mN k l i) (.slice a l.length cap)) (fun _ ii _ => l.length - (intOf ii).toNat)
 case atStart => exact ⟨Alt.refl _ _, 0, k, by omega, rfl, rfl, rfl, HR.out⟩
 case round =>
  obtain ⟨hA, i, K, hi, hK, rfl, rfl, hRi⟩ := hrel
  have HA := Lib.hid hA
  have HRi := Lib.hid hRi
  have HK := Lib.hid hK
  clear hA hRi
  by_cases hlt : i < l.length
  ·obtain ⟨b, o, s, rfl⟩ : ∃ b o s, a = some ⟨b, o, s⟩ := by
    rcases a with _ | ⟨b, o, s⟩
    ·have := hno rfl; omega
    ·exact ⟨b, o, s, rfl⟩
   have hs : s = none := by
    obtain ⟨a', len', cap', e, q1, q2, q3, q4, q5⟩ := HRi.out.1
    cases e
    exact (q5 b o s rfl).1 (by omega)
   subst hs
   have hi0 : (0 : Int) ≤ (i : Int) := by omega
   have hi1 : (i : Int) < (l.length : Int) := by omega
   have hKb : K + 4 ≤ 1152921504606846970 := by omega
   have hbw : b < w.heap.size := by
    obtain ⟨u0, d1, _, _⟩ := flat_cells HR.out.2.1 HR.out.1 (i := i) (j := 0) (rowsM_get hlt) (d := .int .i64 (nth l i).face) (by rw [if_neg (by omega)]; rfl)
    exact block_lt_of_cell d1
   have hrow : (mN k l i)[i]? = some (Enc.cells (nth l i)) := by
    unfold mN
    rw [rowsM_get hlt, if_neg (by omega)]
   obtain ⟨c0, n0, F0, A0⟩ := HRi.out.putI (j := 0) (x := (K : Int)) hrow rfl (by omega) (by omega)
   have hA0 := HA.out.trans A0
   have hf0 := free_of HA.out HF.out n0 hbw
   have HF0 := Lib.hid F0
   have HA0 := Lib.hid hA0
   clear F0 A0 n0 hA0 hK
   simp only [Nat.add_zero] at c0 hf0 HF0 HA0
   go_wp2_with fail
   refine (w_markText (K + 1) (by omega) _).mono ?_
   rintro e w1 ⟨rfl, hsz, hb1⟩
   have F1 := HF0.out.keep hb1
   have hA1 := HA0.out.trans (Alt.below hb1)
   obtain ⟨c1, n1, F2, A2⟩ := F1.putS (j := 1) (s := mkT (K + 1)) (set_at hrow) rfl hsz
   obtain ⟨c2, n2, F3, A3⟩ := F2.putI (j := 2) (x := ((K + 1 + 1 : Nat) : Int)) (set_at (set_at hrow)) rfl (by omega) (by omega)
   obtain ⟨c3, n3, F4, A4⟩ := F3.putI (j := 3) (x := ((K + 1 + 1 + 1 : Nat) : Int)) (set_at (set_at (set_at hrow))) rfl (by omega) (by omega)
   have hf1 := free_of hA1 HF.out n1 hbw
   have hf2 := free_of (hA1.trans A2) HF.out n2 hbw
   have hf3 := free_of ((hA1.trans A2).trans A3) HF.out n3 hbw
   have HA4 := Lib.hid (((hA1.trans A2).trans A3).trans A4)
   have HF4 := Lib.hid F4
   rw [List.set_set, List.set_set, List.set_set] at HF4
   clear F1 F2 F3 F4 A2 A3 A4 hA1 n1 n2 n3 hb1 hsz
   simp only [Int.natCast_add, Int.natCast_one] at c1 c2 c3 hf1 hf2 hf3 HA4
   go_wp2
   refine ⟨⟨HA4.out, i + 1, K + 4, by omega, by have := HK.out; omega, by go_num, by go_num, ?_⟩, by simp [intOf]; omega⟩
   have e := HK.out
   subst e
   rw [mN_succ]
   exact HF4.out
  ·go_wp2
   go_ret
   obtain rfl : i = l.length := by omega
   subst hK
   exact ⟨rfl, HA.out, HRi.out.1⟩
/-! Entries: how many marks; only the shape is kept in sight -/
def cntE (e : Entry) : Nat := 3 + e.recipe.length + 4 * e.needs.length
def cntTo (l : List Entry) : Nat → Nat
 | 0 => 0
 | i + 1 => cntTo l i + cntE (nth l i)
theorem cntTo_mono (l : List Entry) : ∀ {i j : Nat}, i ≤ j → cntTo l i ≤ cntTo l j
 | i, 0, h => by obtain rfl : i = 0 := by omega
                 exact Nat.le_refl _
 | i, j + 1, h => by
  rcases Nat.lt_or_ge i (j + 1) with h1 | h1
  ·have := cntTo_mono l (show i ≤ j by omega)
   simp only [cntTo]; omega
  ·obtain rfl : i = j + 1 := by omega
   exact Nat.le_refl _
theorem ent_len (l : List Entry) : ∀ r ∈ l.map Enc.cells, r.length = 5 := fun r hr => by
 obtain ⟨e, _, rfl⟩ := List.mem_map.1 hr; rfl
theorem ent_cell {w : World} {M : Addr → Prop} {l : List Entry} {b o len cap i j : Nat} {s : Option Nat} {d : D} (h : R w M (encS l) (.slice (some ⟨b, o, s⟩) len cap)) (hi : i < l.length) (hj : (Enc.cells (nth l i))[j]? = some d) :
  ∃ u, w.cell? ⟨b, o + i * 5 + j, none⟩ = some u ∧ ¬ M ⟨b, o + i * 5 + j, none⟩ ∧ R w M d u :=
 flat_cells (ent_len l) h (get_map l hi) hj
theorem m_EntryS (l : List Entry) (k : Nat) (w : World) (M : Addr → Prop) (v : Value) (hr : R w M (encS l) v) (hfr : ∀ p, w.frozen? p = true → M p) (hk : k + cntTo l l.length ≤ 1152921504606846970) (hll : l.length ≤ 1152921504606846976) :
  Calls Tryz.prog 10 #[v, .int .i64 k] w fun e w' => e = .returned (.int .i64 ((k + cntTo l l.length : Nat) : Int)) ∧ Alt (fun p => ¬ M p) w w' := by
 obtain ⟨a, len, cap, hv, hlen, hlc, hcm, hno, -⟩ := (show R w M (.sl (l.map Enc.cells)) v from hr)
 subst hv
 rw [List.length_map] at hlen
 subst hlen
 have hmx : (l.length : Int) ≤ 1152921504606846976 := by omega
 have HR := Lib.hid hr
 have HF := Lib.hid hfr
 clear hr hfr
 go_enter Tryz.func10, Tryz.ntmps10
 go_wp2
 go_loopw [1, 5] (fun kk ii wr => Alt (fun p => ¬ M p) w wr ∧ ∃ i K : Nat, i ≤ l.length ∧ K = k + cntTo l i ∧ kk = .int .i64 (K : Int) ∧ ii = .int .i64 (i : Int)) (fun _ ii _ => l.length - (intOf ii).toNat)
 case atStart => exact ⟨Alt.refl _ _, 0, k, by omega, rfl, rfl, rfl⟩
 case round =>
  obtain ⟨hA, i, K, hi, hK, rfl, rfl⟩ := hrel
  have HA := Lib.hid hA
  have HK := Lib.hid hK
  clear hA
  by_cases hlt : i < l.length
  ·obtain ⟨b, o, s, rfl⟩ : ∃ b o s, a = some ⟨b, o, s⟩ := by
    rcases a with _ | ⟨b, o, s⟩
    ·have := hno rfl; omega
    ·exact ⟨b, o, s, rfl⟩
   have hs : s = none := by
    obtain ⟨a', len', cap', e, q1, q2, q3, q4, q5⟩ := HR.out
    cases e
    exact (q5 b o s rfl).1 (by omega)
   subst hs
   have hi0 : (0 : Int) ≤ (i : Int) := by omega
   have hi1 : (i : Int) < (l.length : Int) := by omega
   have hcm2 := cntTo_mono l (show i + 1 ≤ l.length by omega)
   simp only [cntTo, cntE] at hcm2
   have hKb : K + 3 + (nth l i).recipe.length + 4 * (nth l i).needs.length ≤ 1152921504606846970 := by omega
   have hbw : b < w.heap.size := by
    obtain ⟨u0, d1, _, _⟩ := ent_cell HR.out hlt (j := 0) rfl
    exact block_lt_of_cell d1
   clear hK hcm2
   go_wp2_with fail
   refine (w_markText K (by omega) _).mono ?_
   rintro e w1 ⟨rfl, hsz1, hb1⟩
   have hA1 := HA.out.trans (Alt.below hb1)
   obtain ⟨l1, L1, R1⟩ := hA1.entriesF HR.out HF.out
   have hlt1 : i < l1.length := by rw [L1.len]; exact hlt
   obtain ⟨u1, c1, n1, r1⟩ := ent_cell R1 hlt1 (j := 0) rfl
   have hu1 : u1 = .string (nth l1 i).name := r1.1
   subst hu1
   have hf1 := free_of hA1 HF.out (fun hm => n1 (.inl hm)) hbw
   have hA2 := hA1.trans (Alt.set (A := fun p => ¬ M p) (v := .string (mkT K)) (fun hm => n1 (.inl hm)) c1 (.inr (.inl ⟨_, _, rfl, rfl, hsz1⟩)))
   obtain ⟨l2, L2, R2⟩ := hA2.entriesF HR.out HF.out
   have hlt2 : i < l2.length := by rw [L2.len]; exact hlt
   obtain ⟨u2, c2, n2, r2⟩ := ent_cell R2 hlt2 (j := 1) rfl
   obtain ⟨a2, len2, cap2, hu2, -⟩ := (show R _ _ (.sl ((nth l2 i).recipe.map Enc.cells)) u2 from r2)
   have hrl := L2.rcp i hlt
   obtain ⟨K2, hK2⟩ : ∃ K2, K + 1 + (nth l2 i).recipe.length = K2 := ⟨_, rfl⟩
   have hm2 := m_StringS (nth l2 i).recipe (K + 1) _ _ u2 r2 (fun p hp => .inr hp) (by omega)
   rw [hK2] at hm2
   have HM2 := Lib.hid hm2
   have HA2 := Lib.hid hA2
   have HK2 := Lib.hid (show K2 = K + 1 + (nth l i).recipe.length by omega)
   have hK2b : K2 + 2 + 4 * (nth l i).needs.length ≤ 1152921504606846970 := by omega
   have HU2 := Lib.hid hu2
   clear R1 R2 r1 r2 hA1 hA2 n1 n2 hb1 hsz1 L1 L2 hu2 hm2 hK2 hrl
   simp only [Nat.add_zero] at c1 hf1 c2 HA2 HM2
   go_wp2_with fail
   refine HM2.out.mono ?_
   rintro e w3 ⟨rfl, hA3, -⟩
   have hA3' := HA2.out.trans (hA3.mono fun p _ h hm => h (.inl hm))
   obtain ⟨l3, L3, R3⟩ := hA3'.entriesF HR.out HF.out
   have hlt3 : i < l3.length := by rw [L3.len]; exact hlt
   obtain ⟨u3, c3, n3, r3⟩ := ent_cell R3 hlt3 (j := 2) rfl
   have hu3 : u3 = .int .i64 (nth l3 i).ver.maj := r3.1
   subst hu3
   have hf3 := free_of hA3' HF.out (fun hm => n3 (.inl hm)) hbw
   have hA4 := hA3'.trans (Alt.set (A := fun p => ¬ M p) (v := .int .i64 (K2 : Int)) (fun hm => n3 (.inl hm)) c3 (.inr (.inr (.inl ⟨_, _, _, rfl, rfl, by rw [i64min]; omega, by rw [i64max]; omega⟩))))
   obtain ⟨l4, L4, R4⟩ := hA4.entriesF HR.out HF.out
   have hlt4 : i < l4.length := by rw [L4.len]; exact hlt
   obtain ⟨u4, c4, n4, r4⟩ := ent_cell R4 hlt4 (j := 3) rfl
   have hu4 : u4 = .int .i64 (nth l4 i).ver.min := r4.1
   subst hu4
   have hf4 := free_of hA4 HF.out (fun hm => n4 (.inl hm)) hbw
   have hA5 := hA4.trans (Alt.set (A := fun p => ¬ M p) (v := .int .i64 ((K2 : Int) + 1)) (fun hm => n4 (.inl hm)) c4 (.inr (.inr (.inl ⟨_, _, _, rfl, rfl, by rw [i64min]; omega, by rw [i64max]; omega⟩))))
   obtain ⟨l5, L5, R5⟩ := hA5.entriesF HR.out HF.out
   have hlt5 : i < l5.length := by rw [L5.len]; exact hlt
   obtain ⟨u5, c5, n5, r5⟩ := ent_cell R5 hlt5 (j := 4) rfl
   have hnl := L5.nds i hlt
   obtain ⟨K5, hK5⟩ : ∃ K5, K2 + 2 + 4 * (nth l5 i).needs.length = K5 := ⟨_, rfl⟩
   have hm5 := m_NeedS (nth l5 i).needs (K2 + 2) _ _ u5 r5 (fun p hp => .inr hp) (by omega)
   rw [hK5] at hm5
   have HM5 := Lib.hid hm5
   have HA5 := Lib.hid hA5
   have HK5 := Lib.hid (show K5 = K2 + 2 + 4 * (nth l i).needs.length by omega)
   clear R3 R4 R5 r3 r4 r5 hA3 hA3' hA4 hA5 n3 n4 n5 L3 L4 L5 hm5 hK5 hnl HM2 HA2
   go_wp2_with fail
   refine HM5.out.mono ?_
   rintro e w6 ⟨rfl, hA6, -⟩
   have HA6 := Lib.hid (HA5.out.trans (hA6.mono fun p _ h hm => h (.inl hm)))
   clear hA6
   go_wp2
   refine ⟨⟨HA6.out, i + 1, K5, by omega, ?_, by go_num, by go_num⟩, by simp [intOf]; omega⟩
   have h1 := HK.out
   have h2 := HK5.out
   have h3 := HK2.out
   simp only [cntTo, cntE]
   omega
  ·go_wp2
   go_ret
   obtain rfl : i = l.length := by omega
   subst hK
   exact ⟨rfl, HA.out⟩
/-! The marks are all there -/
theorem c_heldStringS (l : List ByteArray) (k : Nat) (hk : k + l.length ≤ 1152921504606846970) : Fun Tryz.prog 34 none [.sl (mS k l l.length), .int .i64 k] (.int .i64 ((k + l.length : Nat) : Int)) [] := by
 refine Fun.ofV vc_laws_heldStringS_ok ty_laws_heldStringS_ok rfl ?_ (fun hfit => ?_)
 ·refine ⟨?_, rfl, trivial⟩
  show RowsTy _ (tbl.tab _) _
  rw [tab_str]
  refine RowsTy.of fun r hr => ?_
  obtain ⟨a, ha, rfl⟩ := rowsM_mem hr
  rw [if_pos ha]; exact ⟨trivial, trivial⟩
 unfold vc_laws_heldStringS
 have hml : (mS k l l.length).length = l.length := rowsM_len _ _
 refine den_for l.length (fun i => [.int .i64 ((k + i : Nat) : Int), .int .i64 i]) (fun _ => True) rfl trivial ?_
 intro i hi _ _
 simp only [cA]
 refine den_ite (fun h2 => ?_) (fun h2 => ?_)
 ·simp only [E.den, dEq, iEq, sEq, lenD_sl, hml] at h2
  have h2 : i < l.length := by simpa using h2
  have hrow : (mS k l l.length)[i]? = some [.str (mkT (k + i))] := by
   unfold mS
   rw [rowsM_get h2, if_pos h2]
  refine den_cond (fun _ => ?_) ?_
  ·simp only [E.den, dEq, iEq, sEq, lenD_sl, hml]; simp; omega
  ((first | refine den_call ?_ (c_markText (k + i) (by omega)) (trivial) ?_ | refine den_callR ?_ (c_markText (k + i) (by omega)) (trivial) ?_ | refine den_call ?_ (.ofR (c_markText (k + i) (by omega))) (trivial) ?_); (focus (simp only [VC.den, E.den, dEq, gsH_nil, and_true]; try exact rfl)); (simp only [cA]))
  refine den_ite (fun h3 => ?_) (fun h3 => ?_)
  ·simp only [E.den, dEq, iEq, sEq, hrow, Option.getD_some] at h3
   simp at h3
  refine den_next h2 ?_ trivial
  simp only [E.den, dEq, iEq, sEq]
  rw [ar_add (by omega) (by omega), ar_add (by omega) (by omega)]; rfl
 ·simp only [E.den, dEq, iEq, sEq, lenD_sl, hml] at h2
  obtain rfl : i = l.length := by simp at h2; omega
  exact den_ret rfl
theorem c_heldNeedS (l : List Need) (k : Nat) (hk : k + 4 * l.length ≤ 1152921504606846970) : Fun Tryz.prog 66 none [.sl (mN k l l.length), .int .i64 k] (.int .i64 ((k + 4 * l.length : Nat) : Int)) [] := by
 refine Fun.ofV vc_laws_heldNeedS_ok ty_laws_heldNeedS_ok rfl ?_ (fun hfit => ?_)
 ·refine ⟨?_, rfl, trivial⟩
  show RowsTy _ (tbl.tab _) _
  rw [tab_Need]
  refine RowsTy.of fun r hr => ?_
  obtain ⟨a, ha, rfl⟩ := rowsM_mem hr
  rw [if_pos ha]; exact ⟨rfl, trivial, rfl, rfl, trivial⟩
 unfold vc_laws_heldNeedS
 have hml : (mN k l l.length).length = l.length := rowsM_len _ _
 refine den_for l.length (fun i => [.int .i64 ((k + 4 * i : Nat) : Int), .int .i64 i]) (fun _ => True) rfl trivial ?_
 intro i hi _ _
 simp only [cA]
 refine den_ite (fun h2 => ?_) (fun h2 => ?_)
 ·simp only [E.den, dEq, iEq, sEq, lenD_sl, hml] at h2
  have h2 : i < l.length := by simpa using h2
  have hrow : (mN k l l.length)[i]? = some [.int .i64 ((k + 4 * i : Nat) : Int), .str (mkT (k + 4 * i + 1)), .int .i64 ((k + 4 * i + 1 + 1 : Nat) : Int), .int .i64 ((k + 4 * i + 1 + 1 + 1 : Nat) : Int)] := by
   unfold mN
   rw [rowsM_get h2, if_pos h2]
  have e1 : arI .add .i64 ((k + 4 * i : Nat) : Int) 1 = ((k + 4 * i + 1 : Nat) : Int) := ar_add (by omega) (by omega)
  have e2 : arI .add .i64 ((k + 4 * i + 1 : Nat) : Int) 1 = ((k + 4 * i + 1 + 1 : Nat) : Int) := ar_add (by omega) (by omega)
  have e3 : arI .add .i64 ((k + 4 * i + 1 + 1 : Nat) : Int) 1 = ((k + 4 * i + 1 + 1 + 1 : Nat) : Int) := ar_add (by omega) (by omega)
  have e4 : arI .add .i64 ((k + 4 * i + 1 + 1 + 1 : Nat) : Int) 1 = ((k + 4 * (i + 1) : Nat) : Int) := by rw [ar_add (by omega) (by omega)]; omega
  refine den_cond (fun _ => ?_) ?_
  ·simp only [E.den, dEq, iEq, sEq, lenD_sl, hml]; simp; omega
  refine den_ite (fun h3 => ?_) (fun h3 => ?_)
  ·simp only [E.den, dEq, iEq, sEq, hrow, Option.getD_some] at h3
   simp at h3
  refine den_cond (fun _ => ?_) ?_
  ·simp only [E.den, dEq, iEq, sEq, lenD_sl, hml]; simp; omega
  ((first | refine den_call ?_ (c_markText (k + 4 * i + 1) (by omega)) (trivial) ?_ | refine den_callR ?_ (c_markText (k + 4 * i + 1) (by omega)) (trivial) ?_ | refine den_call ?_ (.ofR (c_markText (k + 4 * i + 1) (by omega))) (trivial) ?_); (focus (simp only [VC.den, E.den, dEq, gsH_nil, and_true, e1]; try exact rfl)); (simp only [cA]))
  refine den_ite (fun h3 => ?_) (fun h3 => ?_)
  ·simp only [E.den, dEq, iEq, sEq, hrow, Option.getD_some] at h3
   simp at h3
  refine den_cond (fun _ => ?_) ?_
  ·simp only [E.den, dEq, iEq, sEq, lenD_sl, hml]; simp; omega
  refine den_ite (fun h3 => ?_) (fun h3 => ?_)
  ·simp only [E.den, dEq, iEq, sEq, hrow, Option.getD_some, e1, e2] at h3
   simp at h3
  refine den_cond (fun _ => ?_) ?_
  ·simp only [E.den, dEq, iEq, sEq, lenD_sl, hml]; simp; omega
  refine den_ite (fun h3 => ?_) (fun h3 => ?_)
  ·simp only [E.den, dEq, iEq, sEq, hrow, Option.getD_some, e1, e2, e3] at h3
   simp at h3
  refine den_next h2 ?_ trivial
  simp only [E.den, dEq, iEq, sEq, e1, e2, e3, e4]
  rw [ar_add (by omega) (by omega)]; rfl
 ·simp only [E.den, dEq, iEq, sEq, lenD_sl, hml] at h2
  obtain rfl : i = l.length := by simp at h2; omega
  exact den_ret rfl
end Go.Proofs.YtimickglpboilaaGreat
/- Marks of rows of layers, cells (seats without doors). -/
namespace Go.Proofs.YtimickglpboilaaGreat
open Go.RowKit Go
noncomputable def mLy (k : Nat) (l : List Layer) (i : Nat) : List (List D) := rowsM l.length fun a => if a < i then [.str (mkT (k + 2 * a)), .int .i64 ((k + 2 * a + 1 : Nat) : Int)] else Enc.cells (nth l a)
theorem mLy_flat (k : Nat) (l : List Layer) (i : Nat) : (∀ r ∈ mLy k l i, r.length = 2) ∧ ∀ r ∈ mLy k l i, ∀ d ∈ r, leafD d = true := by
 constructor
 ·intro r hr
  obtain ⟨a, _, rfl⟩ := rowsM_mem hr
  split <;> rfl
 ·intro r hr d hd
  obtain ⟨a, _, rfl⟩ := rowsM_mem hr
  split at hd
  ·simp at hd; rcases hd with rfl | rfl <;> rfl
  ·simp [cells_Layer] at hd; rcases hd with rfl | rfl <;> rfl
theorem mLy_zero (k : Nat) (l : List Layer) : mLy k l 0 = l.map Enc.cells := by
 rw [rowsM_map]; exact rowsM_congr fun a _ => by simp
theorem mLy_succ (k : Nat) (l : List Layer) (i : Nat) : mLy k l (i + 1) = (mLy k l i).set i [.str (mkT (k + 2 * i)), .int .i64 ((k + 2 * i + 1 : Nat) : Int)] := by
 unfold mLy
 rw [rowsM_set]
 refine rowsM_congr fun a _ => ?_
 by_cases ha : a = i
 ·subst ha; simp
 ·have : a < i + 1 ↔ a < i := by omega
  simp [ha, this]
theorem m_LayerS (l : List Layer) (k : Nat) (w : World) (M : Addr → Prop) (v : Value) (hr : R w M (encS l) v) (hfr : ∀ p, w.frozen? p = true → M p) (hk : k + 2 * l.length ≤ 1152921504606846970) :
  Calls Tryz.prog 65 #[v, .int .i64 k] w fun e w' => e = .returned (.int .i64 ((k + 2 * l.length : Nat) : Int)) ∧ Alt (fun p => ¬ M p) w w' ∧ R w' M (.sl (mLy k l l.length)) v := by
 obtain ⟨a, len, cap, hv, hlen, hlc, hcm, hno, -⟩ := (show R w M (.sl (l.map Enc.cells)) v from hr)
 subst hv
 rw [List.length_map] at hlen
 subst hlen
 have hmx : (l.length : Int) ≤ 1152921504606846976 := by omega
 have HR := Lib.hid (show Flat w M 2 (mLy k l 0) (.slice a l.length cap) from ⟨by rw [mLy_zero]; exact hr, mLy_flat k l 0⟩)
 have HF := Lib.hid hfr
 clear hr hfr
 go_enter Tryz.func65, Tryz.ntmps65
 go_wp2
 go_loopw [1, 5] (fun kk ii wr => Alt (fun p => ¬ M p) w wr ∧ ∃ i K : Nat, i ≤ l.length ∧ K = k + 2 * i ∧ kk = .int .i64 (K : Int) ∧ ii = .int .i64 (i : Int) ∧ Flat wr M 2 (mLy k l i) (.slice a l.length cap)) (fun _ ii _ => l.length - (intOf ii).toNat)
 case atStart => exact ⟨Alt.refl _ _, 0, k, by omega, rfl, rfl, rfl, HR.out⟩
 case round =>
  obtain ⟨hA, i, K, hi, hK, rfl, rfl, hRi⟩ := hrel
  have HA := Lib.hid hA
  have HRi := Lib.hid hRi
  have HK := Lib.hid hK
  clear hA hRi
  by_cases hlt : i < l.length
  ·obtain ⟨b, o, s, rfl⟩ : ∃ b o s, a = some ⟨b, o, s⟩ := by
    rcases a with _ | ⟨b, o, s⟩
    ·have := hno rfl; omega
    ·exact ⟨b, o, s, rfl⟩
   have hs : s = none := by
    obtain ⟨a', len', cap', e, q1, q2, q3, q4, q5⟩ := HRi.out.1
    cases e
    exact (q5 b o s rfl).1 (by omega)
   subst hs
   have hi0 : (0 : Int) ≤ (i : Int) := by omega
   have hi1 : (i : Int) < (l.length : Int) := by omega
   have hKb : K + 2 ≤ 1152921504606846970 := by omega
   have hbw : b < w.heap.size := by
    obtain ⟨u0, d1, _, _⟩ := flat_cells HR.out.2.1 HR.out.1 (i := i) (j := 0) (rowsM_get hlt) (d := .str (nth l i).name) (by rw [if_neg (by omega)]; rfl)
    exact block_lt_of_cell d1
   have hrow : (mLy k l i)[i]? = some (Enc.cells (nth l i)) := by
    unfold mLy
    rw [rowsM_get hlt, if_neg (by omega)]
   clear hK
   go_wp2_with fail
   refine (w_markText (K) (by omega) _).mono ?_
   rintro e w1 ⟨rfl, hsz, hb1⟩
   have G1 := HRi.out.keep hb1
   have hB1 := HA.out.trans (Alt.below hb1)
   obtain ⟨c0, n0, F0, A0⟩ := G1.putS (j := 0) (s := mkT (K)) hrow rfl hsz
   have hf0 := free_of (hB1) HF.out n0 hbw
   have hA0 := (hB1).trans A0
   obtain ⟨c1, n1, F1, A1⟩ := F0.putI (j := 1) (x := ((K + 1 : Nat) : Int)) (set_at hrow) rfl (by omega) (by omega)
   have hf1 := free_of (hA0) HF.out n1 hbw
   have hA1 := (hA0).trans A1
   have HA1_ := Lib.hid hA1
   have HF1_ := Lib.hid F1
   rw [List.set_set] at HF1_
   clear F0 F1 A0 A1 hA0 hA1 n0 n1 G1 hB1 hb1 hsz
   try simp only [Nat.add_zero, Int.natCast_add, Int.natCast_one] at c0 c1 hf0 hf1 HA1_
   go_wp2
   refine ⟨⟨HA1_.out, i + 1, K + 2, by omega, by have := HK.out; omega, by go_num, by go_num, ?_⟩, by simp [intOf]; omega⟩
   have e := HK.out
   subst e
   rw [mLy_succ]
   exact HF1_.out
  ·go_wp2
   go_ret
   obtain rfl : i = l.length := by omega
   subst hK
   exact ⟨rfl, HA.out, HRi.out.1⟩
theorem c_heldLayerS (l : List Layer) (k : Nat) (hk : k + 2 * l.length ≤ 1152921504606846970) : Fun Tryz.prog 68 none [.sl (mLy k l l.length), .int .i64 k] (.int .i64 ((k + 2 * l.length : Nat) : Int)) [] := by
 refine Fun.ofV vc_laws_heldLayerS_ok ty_laws_heldLayerS_ok rfl ?_ (fun hfit => ?_)
 ·refine ⟨?_, rfl, trivial⟩
  show RowsTy _ (tbl.tab _) _
  rw [tab_Layer]
  refine RowsTy.of fun r hr => ?_
  obtain ⟨a, ha, rfl⟩ := rowsM_mem hr
  rw [if_pos ha]; exact ⟨trivial, rfl, trivial⟩
 unfold vc_laws_heldLayerS
 have hml : (mLy k l l.length).length = l.length := rowsM_len _ _
 refine den_for l.length (fun i => [.int .i64 ((k + 2 * i : Nat) : Int), .int .i64 i]) (fun _ => True) rfl trivial ?_
 intro i hi _ _
 simp only [cA]
 refine den_ite (fun h2 => ?_) (fun h2 => ?_)
 ·simp only [E.den, dEq, iEq, sEq, lenD_sl, hml] at h2
  have h2 : i < l.length := by simpa using h2
  have hrow : (mLy k l l.length)[i]? = some [.str (mkT (k + 2 * i)), .int .i64 ((k + 2 * i + 1 : Nat) : Int)] := by
   unfold mLy
   rw [rowsM_get h2, if_pos h2]
  have e1 : arI .add .i64 ((k + 2 * i : Nat) : Int) 1 = ((k + 2 * i + 1 : Nat) : Int) := ar_add (by omega) (by omega)
  have e2 : arI .add .i64 ((k + 2 * i + 1 : Nat) : Int) 1 = ((k + 2 * (i + 1) : Nat) : Int) := by rw [ar_add (by omega) (by omega)]; omega
  refine den_cond (fun _ => ?_) ?_
  ·simp only [E.den, dEq, iEq, sEq, lenD_sl, hml]; simp; omega
  ((first | refine den_call ?_ (c_markText (k + 2 * i) (by omega)) (trivial) ?_ | refine den_callR ?_ (c_markText (k + 2 * i) (by omega)) (trivial) ?_ | refine den_call ?_ (.ofR (c_markText (k + 2 * i) (by omega))) (trivial) ?_); (focus (simp only [VC.den, E.den, dEq, gsH_nil, and_true]; try exact rfl)); (simp only [cA]))
  refine den_ite (fun h3 => ?_) (fun h3 => ?_)
  ·simp only [E.den, dEq, iEq, sEq, hrow, Option.getD_some] at h3
   simp at h3
  refine den_cond (fun _ => ?_) ?_
  ·simp only [E.den, dEq, iEq, sEq, lenD_sl, hml]; simp; omega
  refine den_ite (fun h3 => ?_) (fun h3 => ?_)
  ·simp only [E.den, dEq, iEq, sEq, hrow, Option.getD_some, e1] at h3
   simp at h3
  refine den_next h2 ?_ trivial
  simp only [E.den, dEq, iEq, sEq, e1, e2]
  rw [ar_add (by omega) (by omega)]; rfl
 ·simp only [E.den, dEq, iEq, sEq, lenD_sl, hml] at h2
  obtain rfl : i = l.length := by simp at h2; omega
  exact den_ret rfl
noncomputable def mCe (k : Nat) (l : List Cell) (i : Nat) : List (List D) := rowsM l.length fun a => if a < i then [.str (mkT (k + 2 * a)), .int .i64 ((k + 2 * a + 1 : Nat) : Int)] else Enc.cells (nth l a)
theorem mCe_flat (k : Nat) (l : List Cell) (i : Nat) : (∀ r ∈ mCe k l i, r.length = 2) ∧ ∀ r ∈ mCe k l i, ∀ d ∈ r, leafD d = true := by
 constructor
 ·intro r hr
  obtain ⟨a, _, rfl⟩ := rowsM_mem hr
  split <;> rfl
 ·intro r hr d hd
  obtain ⟨a, _, rfl⟩ := rowsM_mem hr
  split at hd
  ·simp at hd; rcases hd with rfl | rfl <;> rfl
  ·simp [cells_Cell] at hd; rcases hd with rfl | rfl <;> rfl
theorem mCe_zero (k : Nat) (l : List Cell) : mCe k l 0 = l.map Enc.cells := by
 rw [rowsM_map]; exact rowsM_congr fun a _ => by simp
theorem mCe_succ (k : Nat) (l : List Cell) (i : Nat) : mCe k l (i + 1) = (mCe k l i).set i [.str (mkT (k + 2 * i)), .int .i64 ((k + 2 * i + 1 : Nat) : Int)] := by
 unfold mCe
 rw [rowsM_set]
 refine rowsM_congr fun a _ => ?_
 by_cases ha : a = i
 ·subst ha; simp
 ·have : a < i + 1 ↔ a < i := by omega
  simp [ha, this]
theorem m_CellS (l : List Cell) (k : Nat) (w : World) (M : Addr → Prop) (v : Value) (hr : R w M (encS l) v) (hfr : ∀ p, w.frozen? p = true → M p) (hk : k + 2 * l.length ≤ 1152921504606846970) :
  Calls Tryz.prog 64 #[v, .int .i64 k] w fun e w' => e = .returned (.int .i64 ((k + 2 * l.length : Nat) : Int)) ∧ Alt (fun p => ¬ M p) w w' ∧ R w' M (.sl (mCe k l l.length)) v := by
 obtain ⟨a, len, cap, hv, hlen, hlc, hcm, hno, -⟩ := (show R w M (.sl (l.map Enc.cells)) v from hr)
 subst hv
 rw [List.length_map] at hlen
 subst hlen
 have hmx : (l.length : Int) ≤ 1152921504606846976 := by omega
 have HR := Lib.hid (show Flat w M 2 (mCe k l 0) (.slice a l.length cap) from ⟨by rw [mCe_zero]; exact hr, mCe_flat k l 0⟩)
 have HF := Lib.hid hfr
 clear hr hfr
 go_enter Tryz.func64, Tryz.ntmps64
 go_wp2
 go_loopw [1, 5] (fun kk ii wr => Alt (fun p => ¬ M p) w wr ∧ ∃ i K : Nat, i ≤ l.length ∧ K = k + 2 * i ∧ kk = .int .i64 (K : Int) ∧ ii = .int .i64 (i : Int) ∧ Flat wr M 2 (mCe k l i) (.slice a l.length cap)) (fun _ ii _ => l.length - (intOf ii).toNat)
 case atStart => exact ⟨Alt.refl _ _, 0, k, by omega, rfl, rfl, rfl, HR.out⟩
 case round =>
  obtain ⟨hA, i, K, hi, hK, rfl, rfl, hRi⟩ := hrel
  have HA := Lib.hid hA
  have HRi := Lib.hid hRi
  have HK := Lib.hid hK
  clear hA hRi
  by_cases hlt : i < l.length
  ·obtain ⟨b, o, s, rfl⟩ : ∃ b o s, a = some ⟨b, o, s⟩ := by
    rcases a with _ | ⟨b, o, s⟩
    ·have := hno rfl; omega
    ·exact ⟨b, o, s, rfl⟩
   have hs : s = none := by
    obtain ⟨a', len', cap', e, q1, q2, q3, q4, q5⟩ := HRi.out.1
    cases e
    exact (q5 b o s rfl).1 (by omega)
   subst hs
   have hi0 : (0 : Int) ≤ (i : Int) := by omega
   have hi1 : (i : Int) < (l.length : Int) := by omega
   have hKb : K + 2 ≤ 1152921504606846970 := by omega
   have hbw : b < w.heap.size := by
    obtain ⟨u0, d1, _, _⟩ := flat_cells HR.out.2.1 HR.out.1 (i := i) (j := 0) (rowsM_get hlt) (d := .str (nth l i).key) (by rw [if_neg (by omega)]; rfl)
    exact block_lt_of_cell d1
   have hrow : (mCe k l i)[i]? = some (Enc.cells (nth l i)) := by
    unfold mCe
    rw [rowsM_get hlt, if_neg (by omega)]
   clear hK
   go_wp2_with fail
   refine (w_markText (K) (by omega) _).mono ?_
   rintro e w1 ⟨rfl, hsz, hb1⟩
   have G1 := HRi.out.keep hb1
   have hB1 := HA.out.trans (Alt.below hb1)
   obtain ⟨c0, n0, F0, A0⟩ := G1.putS (j := 0) (s := mkT (K)) hrow rfl hsz
   have hf0 := free_of (hB1) HF.out n0 hbw
   have hA0 := (hB1).trans A0
   obtain ⟨c1, n1, F1, A1⟩ := F0.putI (j := 1) (x := ((K + 1 : Nat) : Int)) (set_at hrow) rfl (by omega) (by omega)
   have hf1 := free_of (hA0) HF.out n1 hbw
   have hA1 := (hA0).trans A1
   have HA1_ := Lib.hid hA1
   have HF1_ := Lib.hid F1
   rw [List.set_set] at HF1_
   clear F0 F1 A0 A1 hA0 hA1 n0 n1 G1 hB1 hb1 hsz
   try simp only [Nat.add_zero, Int.natCast_add, Int.natCast_one] at c0 c1 hf0 hf1 HA1_
   go_wp2
   refine ⟨⟨HA1_.out, i + 1, K + 2, by omega, by have := HK.out; omega, by go_num, by go_num, ?_⟩, by simp [intOf]; omega⟩
   have e := HK.out
   subst e
   rw [mCe_succ]
   exact HF1_.out
  ·go_wp2
   go_ret
   obtain rfl : i = l.length := by omega
   subst hK
   exact ⟨rfl, HA.out, HRi.out.1⟩
theorem c_heldCellS (l : List Cell) (k : Nat) (hk : k + 2 * l.length ≤ 1152921504606846970) : Fun Tryz.prog 67 none [.sl (mCe k l l.length), .int .i64 k] (.int .i64 ((k + 2 * l.length : Nat) : Int)) [] := by
 refine Fun.ofV vc_laws_heldCellS_ok ty_laws_heldCellS_ok rfl ?_ (fun hfit => ?_)
 ·refine ⟨?_, rfl, trivial⟩
  show RowsTy _ (tbl.tab _) _
  rw [tab_Cell]
  refine RowsTy.of fun r hr => ?_
  obtain ⟨a, ha, rfl⟩ := rowsM_mem hr
  rw [if_pos ha]; exact ⟨trivial, rfl, trivial⟩
 unfold vc_laws_heldCellS
 have hml : (mCe k l l.length).length = l.length := rowsM_len _ _
 refine den_for l.length (fun i => [.int .i64 ((k + 2 * i : Nat) : Int), .int .i64 i]) (fun _ => True) rfl trivial ?_
 intro i hi _ _
 simp only [cA]
 refine den_ite (fun h2 => ?_) (fun h2 => ?_)
 ·simp only [E.den, dEq, iEq, sEq, lenD_sl, hml] at h2
  have h2 : i < l.length := by simpa using h2
  have hrow : (mCe k l l.length)[i]? = some [.str (mkT (k + 2 * i)), .int .i64 ((k + 2 * i + 1 : Nat) : Int)] := by
   unfold mCe
   rw [rowsM_get h2, if_pos h2]
  have e1 : arI .add .i64 ((k + 2 * i : Nat) : Int) 1 = ((k + 2 * i + 1 : Nat) : Int) := ar_add (by omega) (by omega)
  have e2 : arI .add .i64 ((k + 2 * i + 1 : Nat) : Int) 1 = ((k + 2 * (i + 1) : Nat) : Int) := by rw [ar_add (by omega) (by omega)]; omega
  refine den_cond (fun _ => ?_) ?_
  ·simp only [E.den, dEq, iEq, sEq, lenD_sl, hml]; simp; omega
  ((first | refine den_call ?_ (c_markText (k + 2 * i) (by omega)) (trivial) ?_ | refine den_callR ?_ (c_markText (k + 2 * i) (by omega)) (trivial) ?_ | refine den_call ?_ (.ofR (c_markText (k + 2 * i) (by omega))) (trivial) ?_); (focus (simp only [VC.den, E.den, dEq, gsH_nil, and_true]; try exact rfl)); (simp only [cA]))
  refine den_ite (fun h3 => ?_) (fun h3 => ?_)
  ·simp only [E.den, dEq, iEq, sEq, hrow, Option.getD_some] at h3
   simp at h3
  refine den_cond (fun _ => ?_) ?_
  ·simp only [E.den, dEq, iEq, sEq, lenD_sl, hml]; simp; omega
  refine den_ite (fun h3 => ?_) (fun h3 => ?_)
  ·simp only [E.den, dEq, iEq, sEq, hrow, Option.getD_some, e1] at h3
   simp at h3
  refine den_next h2 ?_ trivial
  simp only [E.den, dEq, iEq, sEq, e1, e2]
  rw [ar_add (by omega) (by omega)]; rfl
 ·simp only [E.den, dEq, iEq, sEq, lenD_sl, hml] at h2
  obtain rfl : i = l.length := by simp at h2; omega
  exact den_ret rfl
end Go.Proofs.YtimickglpboilaaGreat
/- Copies and answers whose memory is new: nothing in them is older than the call, and all of it may be written. -/
namespace Go.Proofs.YtimickglpboilaaGreat
open Go.RowKit Go
theorem live_free {B : Nat} {w : World} {b o len cap n : Nat} {s : Option Nat} (h : LiveAt B w (.slice (some ⟨b, o, s⟩) len cap) n) (hc : 0 < cap) : B ≤ b ∧ ∀ x y, w.frozen? ⟨b, x, y⟩ = false := by
 obtain ⟨_, h2, cells, T, h3, _⟩ := h b o s len cap rfl hc
 refine ⟨h2, fun x y => ?_⟩
 unfold World.frozen?
 rw [h3]
 simp
theorem nf_flat {w : World} {M : Addr → Prop} {rows : List (List D)} {v : Value} {n B : Nat} (hr : R w M (.sl rows) v) (hn : ∀ r ∈ rows, r.length = n) (hlf : ∀ r ∈ rows, ∀ d ∈ r, leafD d = true) (hl : LiveAt B w v n) : R w (NF w B) (.sl rows) v := by
 have hr0 := hr
 obtain ⟨a, len, cap, rfl, h1, h2, h3, h4, h5⟩ := hr
 rcases a with _ | ⟨b, o, s⟩
 ·have : rows = [] := List.eq_nil_of_length_eq_zero (by have := h4 rfl; omega)
  subst this
  exact ⟨none, len, cap, rfl, h1, h2, h3, h4, fun b o s e => by cases e⟩
 ·refine flat_of hn h1 h2 h3 (h5 b o s rfl).1 fun i j r d hi hj => ?_
  obtain ⟨u, c1, c2, c3⟩ := flat_cells hn hr0 hi hj
  have hlt := (List.getElem?_eq_some_iff.1 hi).1
  obtain ⟨q1, q2⟩ := live_free hl (by omega)
  refine ⟨u, c1, fun hm => ?_, leaf_move (hlf r (List.mem_of_getElem? hi) d (List.mem_of_getElem? hj)) c3⟩
  rcases hm with hm | hm
  ·exact absurd q1 (by simpa using hm)
  ·rw [q2] at hm; cases hm
theorem str_flat (l : List ByteArray) : (∀ r ∈ l.map Enc.cells, r.length = 1) ∧ ∀ r ∈ l.map Enc.cells, ∀ d ∈ r, leafD d = true := by
 constructor
 ·intro r hr; obtain ⟨x, _, rfl⟩ := List.mem_map.1 hr; rfl
 ·intro r hr d hd
  obtain ⟨x, _, rfl⟩ := List.mem_map.1 hr
  simp [cells_str] at hd; subst hd; rfl
theorem need_flat (l : List Need) : (∀ r ∈ l.map Enc.cells, r.length = 4) ∧ ∀ r ∈ l.map Enc.cells, ∀ d ∈ r, leafD d = true := by
 constructor
 ·intro r hr; obtain ⟨x, _, rfl⟩ := List.mem_map.1 hr; rfl
 ·intro r hr d hd
  obtain ⟨x, _, rfl⟩ := List.mem_map.1 hr
  simp [cells_Need] at hd; rcases hd with rfl | rfl | rfl | rfl <;> rfl
/-! The copy of an entry; of entries -/
theorem cR_toEntry (x : Entry) (h : Sm.sm x) : FunR Tryz.prog 18 none [enc x] (enc x) [] [(1, 1), (4, 4)] := by
 refine FunR.ofV vc_laws_toEntry_ok ty_laws_toEntry_ok rt_laws_toEntry_ok rfl ?_ (fun hfit => ?_)
 ·exact ⟨ty_laws_Entry x, trivial⟩
 unfold vc_laws_toEntry
 ((first | refine den_call ?_ (c_laws_toStringS x.recipe (sm_list.1 (h.2.1)).1) (ty_strS _) ?_ | refine den_callR ?_ (c_laws_toStringS x.recipe (sm_list.1 (h.2.1)).1) (ty_strS _) ?_ | refine den_call ?_ (.ofR (c_laws_toStringS x.recipe (sm_list.1 (h.2.1)).1)) (ty_strS _) ?_); (focus (simp only [VC.den, E.den, dEq, gsH_nil, and_true, cells_Entry]; try exact rfl)); (simp only [cA]))
 ((first | refine den_call ?_ (c_laws_toVersion x.ver) (ty_Ver _) ?_ | refine den_callR ?_ (c_laws_toVersion x.ver) (ty_Ver _) ?_ | refine den_call ?_ (.ofR (c_laws_toVersion x.ver)) (ty_Ver _) ?_); (focus (simp only [VC.den, E.den, dEq, gsH_nil, and_true, cells_Entry]; try exact rfl)); (simp only [cA]))
 ((first | refine den_call ?_ (c_laws_toNeedS x.needs (sm_list.1 (h.2.2)).1 (sm_list.1 (h.2.2)).2) (ty_NeedS _) ?_ | refine den_callR ?_ (c_laws_toNeedS x.needs (sm_list.1 (h.2.2)).1 (sm_list.1 (h.2.2)).2) (ty_NeedS _) ?_ | refine den_call ?_ (.ofR (c_laws_toNeedS x.needs (sm_list.1 (h.2.2)).1 (sm_list.1 (h.2.2)).2)) (ty_NeedS _) ?_); (focus (simp only [VC.den, E.den, dEq, gsH_nil, and_true, cells_Entry]; try exact rfl)); (simp only [cA]))
 exact den_ret (by simp [E.den, enc, cells_Entry, cells_Ver])
theorem w_toEntry (x : Entry) (h : Sm.sm x) {w : World} {v : Value} (hr : R w (fun _ => False) (enc x) v) :
  Calls Tryz.prog 18 #[v] w fun e w' => ∃ y0 y1 y2 y3 y4, e = .returned (.agg #[y0, y1, y2, y3, y4]) ∧ Rs w' (NF w' w.heap.size) (Enc.cells x) [y0, y1, y2, y3, y4] ∧ Below w.heap.size w w' := by
 refine ((cR_toEntry x h).2 w _ 0 [v] (rdy0 w) ⟨_, [], rfl, hr, rfl⟩ (fun cs h => by cases h)).mono ?_
 rintro e w' ⟨v', rfl, ⟨cs, rfl, h2⟩, h3, h4, _⟩
 obtain ⟨y0, _, hc, ⟨r01, r02⟩, y1, _, rfl, r1, y2, _, rfl, ⟨r21, r22⟩, y3, _, rfl, ⟨r31, r32⟩, y4, _, rfl, r4, hx⟩ := h2
 have hx : _ = [] := hx
 subst hx
 have hcs : cs = #[y0, y1, y2, y3, y4] := by rw [← Array.toList_inj, hc]
 subst hcs
 subst r01 r21 r31
 obtain ⟨a1, l1, c1, hy1, z1⟩ := (show R w' _ (.sl (x.recipe.map Enc.cells)) y1 from r1)
 obtain ⟨a4, l4, c4, hy4, z4⟩ := (show R w' _ (.sl (x.needs.map Enc.cells)) y4 from r4)
 have e1 := h4.1 (1, 1) (by simp)
 have e4 := h4.1 (4, 4) (by simp)
 have f1 : rtV (.agg #[.string x.name, y1, .int .i64 x.ver.maj, .int .i64 x.ver.min, y4]) (1, 1) = y1 := by
  subst hy1 hy4; rfl
 have f4 : rtV (.agg #[.string x.name, y1, .int .i64 x.ver.maj, .int .i64 x.ver.min, y4]) (4, 4) = y4 := by
  subst hy1 hy4; rfl
 rw [f1] at e1
 rw [f4] at e4
 refine ⟨_, _, _, _, _, rfl, ⟨_, _, rfl, ⟨rfl, r02⟩, _, _, rfl, ?_, _, _, rfl, ⟨rfl, r22⟩, _, _, rfl, ⟨rfl, r32⟩, _, _, rfl, ?_, rfl⟩, h3.to_below⟩
 ·exact nf_flat r1 (str_flat _).1 (str_flat _).2 e1
 ·exact nf_flat r4 (need_flat _).1 (need_flat _).2 e4
theorem own_less {w w' : World} {B g : Nat} {p : Addr} (hf : w'.frozen? p = w.frozen? p) : own (NF w' B) g p → own (NF w B) g p := by
 rintro ((h | h) | h)
 ·exact .inl (.inl h)
 ·exact .inl (.inr (by rw [← hf]; exact h))
 ·exact .inr h
theorem RowN.keepNF {w w' : World} {B g : Nat} {T : TypeId} {len n k : Nat} {rows : List (List D)} (h : RowN w (own (NF w B) g) g T len n k rows) (hb : Below w.heap.size w w') : RowN w' (own (NF w' B) g) g T len n k rows := by
 obtain ⟨C, h1, h2, vs, h3, h4⟩ := h
 exact ⟨C, h1.below hb h1.lt, h2, vs, Rs.keep (Keeps.below hb fun p hp hm => own_less (fro_of_block (hb.block p.block hp)) hm) _ _ h3, h4⟩
theorem RowN.turn {w : World} {M M' : Addr → Prop} {g : Nat} {T : TypeId} {len n k : Nat} {rows : List (List D)} (h : RowN w M g T len n k rows) (hM : ∀ p, M' p → M p) : RowN w M' g T len n k rows := by
 obtain ⟨C, h1, h2, vs, h3, h4⟩ := h
 exact ⟨C, h1, h2, vs, Rs.keep (fun p v hp hn => ⟨hp, fun hm => hn (hM p hm)⟩) _ _ h3, h4⟩
theorem fro_setN (p : Addr) (g : Nat) : ∀ (us : List Value) (w : World) (o : Nat), (setN w g o us).frozen? p = w.frozen? p
 | [], _, _ => rfl
 | u :: r, w, o => by
  unfold setN
  rw [fro_setN p g r, fro_setCell]
theorem f_toEntryS (l : List Entry) (hs : l.length ≤ 1048576) (hx : ∀ k, k < l.length → Sm.sm (nth l k)) (w : World) (v : Value) (hv0 : R w (fun _ => False) (encS l) v) :
  Calls Tryz.prog 6 #[v] w fun e w' => ∃ v', e = .returned v' ∧ R w' (NF w' w.heap.size) (encS l) v' ∧ Below w.heap.size w w' := by
 have hlen := map_len (n := 5) (fun x => rfl) l
 obtain ⟨a, cap, rfl, hml, hel⟩ := arg_slice hlen hv0
 rw [List.length_map] at hml ⊢
 have HE := Lib.hid hel
 clear hel hv0
 have hmk := fun W => run_make_at (P := Tryz.prog) 24 50 (z := .agg #[.string ⟨#[]⟩, .slice none 0 0, .int .i64 0, .int .i64 0, .slice none 0 0]) (size := 5) (bytes := 80) Tryz.underlying24 (by kernel_rfl) .i64 .i64 l.length (by omega) (by omega) W
 go_enter Tryz.func6, Tryz.ntmps6
 go_wp2
 go_loopw [4] (fun i wr => Below w.heap.size w wr ∧ ∃ k : Nat, k ≤ l.length ∧ i = .int .i64 k ∧ RowN wr (own (NF wr w.heap.size) w.heap.size) w.heap.size 50 l.length 5 k (l.map Enc.cells)) (fun i _ => l.length - (intOf i).toNat)
 case atStart => exact ⟨by go_grown, 0, by omega, rfl, RowN.new (RBlk.new _ _ _) (by rw [size_madeCells])⟩
 case round =>
  obtain ⟨hB, k, hk, rfl, hR⟩ := hrel
  have hBs := hB.size
  have hgl := hR.lt
  by_cases hlt : k < l.length
  ·have hrow := get_map l (k := k) (by omega)
   obtain ⟨b, o, us, rfl, hul, hus, hcell⟩ := HE.out k _ hrow
   obtain ⟨u0, u1, u2, u3, u4, rfl⟩ := len_5 hul
   have he0 := cell_keep hB (hcell 0 _ rfl); have he1 := cell_keep hB (hcell 1 _ rfl); have he2 := cell_keep hB (hcell 2 _ rfl); have he3 := cell_keep hB (hcell 3 _ rfl); have he4 := cell_keep hB (hcell 4 _ rfl)
   (try simp only [Nat.add_zero, Nat.mul_one] at he0)
   have hi0 : (0 : Int) ≤ (k : Int) := by omega
   have hi1 : (k : Int) < (l.length : Int) := by omega
   have hus' : R wr (fun _ => False) (enc (nth l k)) (.agg #[u0, u1, u2, u3, u4]) := ⟨_, rfl, Rs.keep (Keeps.below hB fun _ _ h => h) _ _ hus⟩
   have HC := Lib.hid (fun (w0 : World) (hb : Below wr.heap.size wr w0) => w_toEntry (nth l k) (hx k hlt) (R.keep (Keeps.below hb fun _ _ h => h) _ _ hus'))
   have HBK := Lib.hid hR
   clear hR hus hus' hcell
   go_wp2_with fail
   refine (HC.out _ (by go_grown)).mono ?_
   rintro e w1 ⟨y0, y1, y2, y3, y4, rfl, hr1, hb1⟩
   have hR1 := HBK.out.keepNF hb1
   have hr1' : Rs w1 (own (NF w1 w.heap.size) w.heap.size) (Enc.cells (nth l k)) [y0, y1, y2, y3, y4] := Rs.keep (fun p u hp hn => ⟨hp, fun hm => hn (by
    rcases hm with (hm | hm) | hm
    ·exact .inl (by omega)
    ·exact .inr hm
    ·exact .inl (by omega))⟩) _ _ hr1
   have hone := cells_one (ty_Entry (nth l k)) hr1
   have hbk := hR1.blkN
   obtain ⟨hst0, hbk0⟩ := hbk.store (P := Tryz.prog) (o := k * 5) (v := y0) (by have := off_lt (n := 5) (j := 0) hlt (by decide); omega) (hone _ (by simp)); obtain ⟨hst1, hbk1⟩ := hbk0.store (P := Tryz.prog) (o := k * 5 + 1) (v := y1) (by have := off_lt (n := 5) (j := 1) hlt (by decide); omega) (hone _ (by simp)); obtain ⟨hst2, hbk2⟩ := hbk1.store (P := Tryz.prog) (o := k * 5 + 2) (v := y2) (by have := off_lt (n := 5) (j := 2) hlt (by decide); omega) (hone _ (by simp)); obtain ⟨hst3, hbk3⟩ := hbk2.store (P := Tryz.prog) (o := k * 5 + 3) (v := y3) (by have := off_lt (n := 5) (j := 3) hlt (by decide); omega) (hone _ (by simp)); obtain ⟨hst4, hbk4⟩ := hbk3.store (P := Tryz.prog) (o := k * 5 + 4) (v := y4) (by have := off_lt (n := 5) (j := 4) hlt (by decide); omega) (hone _ (by simp))
   have hx := (hR1.step hlt hrow hlen hr1').turn (M' := own (NF (setN w1 w.heap.size (k * 5) [y0, y1, y2, y3, y4]) w.heap.size) w.heap.size) fun p hm => own_less (fro_setN _ _ _ _ _) hm
   have HX := Lib.hid hx
   clear hx hr1 hr1' hR1 hbk hbk0 hbk1 hbk2 hbk3 hbk4
   go_wp2
   exact ⟨⟨by have h2 := bt hB hb1; go_grown, k + 1, by omega, by go_num, HX.out⟩, by simp [intOf]; omega⟩
  ·go_wp2
   go_ret
   obtain rfl : k = l.length := by omega
   refine ⟨_, rfl, ?_, hB⟩
   refine hR.done (by simp) hlen (fun p hp hm => ?_) (by unfold maxLen; omega)
   rcases hm with hm | hm
   ·omega
   ·have := hR.free p.off
    have e : wr.frozen? p = wr.frozen? ⟨w.heap.size, p.off, none⟩ := by
     unfold World.frozen?
     rw [hp]
    rw [e, this] at hm; cases hm
end Go.Proofs.YtimickglpboilaaGreat
/- Marks of entries whose rows lie apart: what each cell holds afterwards. -/
namespace Go.Proofs.YtimickglpboilaaGreat
open Go.RowKit Go
structure SepE (w : World) (b o : Nat) (rb nb : Nat → Nat) (l : List Entry) (u1 u4 : Nat → Value) : Prop where
 c0 : ∀ a, a < l.length → w.cell? ⟨b, o + a * 5, none⟩ = some (.string (nth l a).name) ∧ (nth l a).name.size ≤ maxLen
 c1 : ∀ a, a < l.length → w.cell? ⟨b, o + a * 5 + 1, none⟩ = some (u1 a)
 c2 : ∀ a, a < l.length → w.cell? ⟨b, o + a * 5 + 2, none⟩ = some (.int .i64 (nth l a).ver.maj) ∧ IntKind.i64.min ≤ (nth l a).ver.maj ∧ (nth l a).ver.maj ≤ IntKind.i64.max
 c3 : ∀ a, a < l.length → w.cell? ⟨b, o + a * 5 + 3, none⟩ = some (.int .i64 (nth l a).ver.min) ∧ IntKind.i64.min ≤ (nth l a).ver.min ∧ (nth l a).ver.min ≤ IntKind.i64.max
 c4 : ∀ a, a < l.length → w.cell? ⟨b, o + a * 5 + 4, none⟩ = some (u4 a)
 r1 : ∀ a, a < l.length → R w (fun p => p.block ≠ rb a ∨ w.frozen? p = true) (encS (nth l a).recipe) (u1 a)
 r4 : ∀ a, a < l.length → R w (fun p => p.block ≠ nb a ∨ w.frozen? p = true) (encS (nth l a).needs) (u4 a)
 fr : ∀ x y, w.frozen? ⟨b, x, y⟩ = false
 rbb : ∀ a, a < l.length → rb a ≠ b
 nbb : ∀ a, a < l.length → nb a ≠ b
 rn : ∀ a c, a < l.length → c < l.length → rb a ≠ nb c
 rr : ∀ a c, a < l.length → c < l.length → a ≠ c → rb a ≠ rb c
 nn : ∀ a c, a < l.length → c < l.length → a ≠ c → nb a ≠ nb c
theorem SepE.read {w : World} {b o : Nat} {rb nb : Nat → Nat} {l : List Entry} {u1 u4 : Nat → Value} (h : SepE w b o rb nb l u1 u4) {cap : Nat} (h1 : l.length ≤ cap) (h2 : cap ≤ maxLen) : R w (fun _ => False) (encS l) (.slice (some ⟨b, o, none⟩) l.length cap) := by
 show R w _ (.sl (l.map Enc.cells)) _
 refine flat_of (ent_len l) (by simp) h1 h2 (fun _ => rfl) fun i j r d hi hj => ?_
 have hil : i < l.length := by
  have := (List.getElem?_eq_some_iff.1 hi).1
  simpa using this
 rw [get_map l hil] at hi
 cases hi
 match j, hj with
 | 0, hj => cases hj; exact ⟨_, (h.c0 i hil).1, fun hm => hm, rfl, (h.c0 i hil).2⟩
 | 1, hj => cases hj; exact ⟨_, h.c1 i hil, fun hm => hm, R.zero (h.r1 i hil)⟩
 | 2, hj => cases hj; exact ⟨_, (h.c2 i hil).1, fun hm => hm, rfl, (h.c2 i hil).2⟩
 | 3, hj => cases hj; exact ⟨_, (h.c3 i hil).1, fun hm => hm, rfl, (h.c3 i hil).2⟩
 | 4, hj => cases hj; exact ⟨_, h.c4 i hil, fun hm => hm, R.zero (h.r4 i hil)⟩
noncomputable def mkStr (k n : Nat) : List ByteArray := (List.range n).map fun a => mkT (k + a)
noncomputable def mkNeed (k n : Nat) : List Need := (List.range n).map fun a => ⟨((k + 4 * a : Nat) : Int), mkT (k + 4 * a + 1), ⟨((k + 4 * a + 1 + 1 : Nat) : Int), ((k + 4 * a + 1 + 1 + 1 : Nat) : Int)⟩⟩
theorem mkStr_rows (k : Nat) (l : List ByteArray) : mS k l l.length = (mkStr k l.length).map Enc.cells := by
 unfold mS mkStr rowsM
 rw [List.map_map]
 exact List.map_congr_left fun a ha => by
  rw [if_pos (by simpa using ha)]; rfl
theorem mkNeed_rows (k : Nat) (l : List Need) : mN k l l.length = (mkNeed k l.length).map Enc.cells := by
 unfold mN mkNeed rowsM
 rw [List.map_map]
 exact List.map_congr_left fun a ha => by
  rw [if_pos (by simpa using ha)]; rfl
noncomputable def markE (k : Nat) (l : List Entry) (a : Nat) : Entry :=
 ⟨mkT (k + cntTo l a), mkStr (k + cntTo l a + 1) (nth l a).recipe.length, ⟨((k + cntTo l a + 1 + (nth l a).recipe.length : Nat) : Int), ((k + cntTo l a + 1 + (nth l a).recipe.length : Nat) : Int) + 1⟩, mkNeed (k + cntTo l a + 1 + (nth l a).recipe.length + 2) (nth l a).needs.length⟩
noncomputable def mixL (k : Nat) (l : List Entry) (i : Nat) : List Entry := (List.range l.length).map fun a => if a < i then markE k l a else nth l a
theorem mixL_len (k : Nat) (l : List Entry) (i : Nat) : (mixL k l i).length = l.length := by simp [mixL]
theorem mixL_at {k : Nat} {l : List Entry} {i a : Nat} (h : a < l.length) : nth (mixL k l i) a = if a < i then markE k l a else nth l a := by
 simp [mixL, nth, List.getD_eq_getElem?_getD, h]
theorem mixL_zero (k : Nat) (l : List Entry) : mixL k l 0 = l := by
 apply List.ext_getElem
 ·simp [mixL]
 ·intro i h1 h2
  simp [mixL, nth, List.getD_eq_getElem?_getD, h2]
theorem SepE.step {w w' : World} {b o : Nat} {rb nb : Nat → Nat} {k : Nat} {l : List Entry} {i : Nat} {u1 u4 : Nat → Value} (h : SepE w b o rb nb (mixL k l i) u1 u4) (hi : i < l.length)
  (hk : ∀ p v, w.cell? p = some v → p.block ≠ rb i → p.block ≠ nb i → p ≠ ⟨b, o + i * 5, none⟩ → p ≠ ⟨b, o + i * 5 + 2, none⟩ → p ≠ ⟨b, o + i * 5 + 3, none⟩ → w'.cell? p = some v)
  (hf : ∀ p : Addr, p.block < w.heap.size → w'.frozen? p = w.frozen? p) (hb : b < w.heap.size)
  (q0 : w'.cell? ⟨b, o + i * 5, none⟩ = some (.string (markE k l i).name)) (q0s : (markE k l i).name.size ≤ maxLen)
  (q2 : w'.cell? ⟨b, o + i * 5 + 2, none⟩ = some (.int .i64 (markE k l i).ver.maj)) (q3 : w'.cell? ⟨b, o + i * 5 + 3, none⟩ = some (.int .i64 (markE k l i).ver.min))
  (qi : ((markE k l i).ver.maj : Int) ≤ 9223372036854775806 ∧ 0 ≤ (markE k l i).ver.maj ∧ (markE k l i).ver.min ≤ 9223372036854775807 ∧ 0 ≤ (markE k l i).ver.min)
  (q1 : R w' (fun p => p.block ≠ rb i ∨ w'.frozen? p = true) (encS (markE k l i).recipe) (u1 i)) (q4 : R w' (fun p => p.block ≠ nb i ∨ w'.frozen? p = true) (encS (markE k l i).needs) (u4 i)) : SepE w' b o rb nb (mixL k l (i + 1)) u1 u4 := by
 have hl := mixL_len k l i
 have hl' := mixL_len k l (i + 1)
 have hat : ∀ a, a < l.length → nth (mixL k l (i + 1)) a = if a = i then markE k l i else nth (mixL k l i) a := fun a ha => by
  rw [mixL_at ha, mixL_at ha]
  by_cases e : a = i
  ·subst e; simp
  ·have : a < i + 1 ↔ a < i := by omega
   simp [e, this]
 have hib : rb i ≠ b := h.rbb i (by rw [hl]; exact hi)
 have hin : nb i ≠ b := h.nbb i (by rw [hl]; exact hi)
 have kc : ∀ {a j : Nat} {v : Value}, a ≠ i → j < 5 → w.cell? ⟨b, o + a * 5 + j, none⟩ = some v → w'.cell? ⟨b, o + a * 5 + j, none⟩ = some v := fun {a j v} ha hj hc =>
  hk _ _ hc (fun e => hib e.symm) (fun e => hin e.symm) (fun e => by have := congrArg Addr.off e; simp at this; omega) (fun e => by have := congrArg Addr.off e; simp at this; omega) (fun e => by have := congrArg Addr.off e; simp at this; omega)
 have ki : ∀ {j : Nat} {v : Value}, (j = 1 ∨ j = 4) → w.cell? ⟨b, o + i * 5 + j, none⟩ = some v → w'.cell? ⟨b, o + i * 5 + j, none⟩ = some v := fun {j v} hj hc =>
  hk _ _ hc (fun e => hib e.symm) (fun e => hin e.symm) (fun e => by have := congrArg Addr.off e; simp at this; omega) (fun e => by have := congrArg Addr.off e; simp at this; omega) (fun e => by have := congrArg Addr.off e; simp at this; omega)
 refine ⟨fun a ha => ?_, fun a ha => ?_, fun a ha => ?_, fun a ha => ?_, fun a ha => ?_, fun a ha => ?_, fun a ha => ?_, fun x y => ?_, fun a ha => h.rbb a (by rw [hl]; rw [hl'] at ha; exact ha), fun a ha => h.nbb a (by rw [hl]; rw [hl'] at ha; exact ha), fun a c ha hc => h.rn a c (by rw [hl]; rw [hl'] at ha; exact ha) (by rw [hl]; rw [hl'] at hc; exact hc), fun a c ha hc => h.rr a c (by rw [hl]; rw [hl'] at ha; exact ha) (by rw [hl]; rw [hl'] at hc; exact hc), fun a c ha hc => h.nn a c (by rw [hl]; rw [hl'] at ha; exact ha) (by rw [hl]; rw [hl'] at hc; exact hc)⟩
 all_goals (try rw [hl'] at ha)
 ·rw [hat a ha]
  by_cases e : a = i
  ·subst e; rw [if_pos rfl]; exact ⟨q0, q0s⟩
  ·rw [if_neg e]
   have := h.c0 a (by rw [hl]; exact ha)
   exact ⟨kc (j := 0) e (by omega) this.1, this.2⟩
 ·by_cases e : a = i
  ·subst e; exact ki (.inl rfl) (h.c1 a (by rw [hl]; exact ha))
  ·exact kc e (by omega) (h.c1 a (by rw [hl]; exact ha))
 ·rw [hat a ha]
  by_cases e : a = i
  ·subst e; rw [if_pos rfl]; exact ⟨q2, by rw [i64min]; omega, by rw [i64max]; omega⟩
  ·rw [if_neg e]
   have := h.c2 a (by rw [hl]; exact ha)
   exact ⟨kc e (by omega) this.1, this.2⟩
 ·rw [hat a ha]
  by_cases e : a = i
  ·subst e; rw [if_pos rfl]; exact ⟨q3, by rw [i64min]; omega, by rw [i64max]; omega⟩
  ·rw [if_neg e]
   have := h.c3 a (by rw [hl]; exact ha)
   exact ⟨kc e (by omega) this.1, this.2⟩
 ·by_cases e : a = i
  ·subst e; exact ki (.inr rfl) (h.c4 a (by rw [hl]; exact ha))
  ·exact kc e (by omega) (h.c4 a (by rw [hl]; exact ha))
 ·rw [hat a ha]
  by_cases e : a = i
  ·subst e; rw [if_pos rfl]; exact q1
  ·rw [if_neg e]
   refine R.keep (fun p v hp hn => ?_) _ _ (h.r1 a (by rw [hl]; exact ha))
   have hpb : p.block = rb a := Classical.byContradiction fun hq => hn (.inl hq)
   have d1 := h.rr a i (by rw [hl]; exact ha) (by rw [hl]; exact hi) e
   have d2 := h.rn a i (by rw [hl]; exact ha) (by rw [hl]; exact hi)
   have d3 := h.rbb a (by rw [hl]; exact ha)
   refine ⟨hk p v hp (by rw [hpb]; exact d1) (by rw [hpb]; exact d2) (fun e2 => d3 (by rw [← hpb, e2])) (fun e2 => d3 (by rw [← hpb, e2])) (fun e2 => d3 (by rw [← hpb, e2])), fun hm => hn (hm.imp id fun hq => by rw [← hf p (block_lt_of_cell hp)]; exact hq)⟩
 ·rw [hat a ha]
  by_cases e : a = i
  ·subst e; rw [if_pos rfl]; exact q4
  ·rw [if_neg e]
   refine R.keep (fun p v hp hn => ?_) _ _ (h.r4 a (by rw [hl]; exact ha))
   have hpb : p.block = nb a := Classical.byContradiction fun hq => hn (.inl hq)
   have d1 := h.nn a i (by rw [hl]; exact ha) (by rw [hl]; exact hi) e
   have d2 := h.rn i a (by rw [hl]; exact hi) (by rw [hl]; exact ha)
   have d3 := h.nbb a (by rw [hl]; exact ha)
   refine ⟨hk p v hp (by rw [hpb]; exact d2.symm) (by rw [hpb]; exact d1) (fun e2 => d3 (by rw [← hpb, e2])) (fun e2 => d3 (by rw [← hpb, e2])) (fun e2 => d3 (by rw [← hpb, e2])), fun hm => hn (hm.imp id fun hq => by rw [← hf p (block_lt_of_cell hp)]; exact hq)⟩
 ·rw [hf _ hb]; exact h.fr x y
def NO (w : World) (b : Nat) : Addr → Prop := fun p => p.block ≠ b ∨ w.frozen? p = true ∨ w.heap.size ≤ p.block
theorem no_of {w : World} {b : Nat} {d : D} {v : Value} (h : R w (fun p => p.block ≠ b ∨ w.frozen? p = true) d v) : R w (NO w b) d v := R.less (R.up h) fun p hp => by
 rcases hp with hp | hp | hp
 ·exact .inl (.inl hp)
 ·exact .inl (.inr hp)
 ·exact .inr hp
theorem no_blk {w : World} {b : Nat} {p : Addr} (h : ¬ NO w b p) : p.block = b ∧ w.frozen? p = false ∧ p.block < w.heap.size :=
 ⟨Classical.byContradiction fun e => h (.inl e), by cases hf : w.frozen? p with | false => rfl | true => exact absurd (.inr (.inl hf)) h, Nat.lt_of_not_le fun e => h (.inr (.inr e))⟩
theorem bar_alt {A : Addr → Prop} {w w' : World} {b : Nat} {d : D} {v : Value} (h : R w (fun p => p.block ≠ b ∨ w.frozen? p = true) d v) (ha : Alt A w w') (hA : ∀ p, A p → p.block ≠ b) : R w' (fun p => p.block ≠ b ∨ w'.frozen? p = true) d v :=
 R.keep (ha.keeps (fun p hp => .inl (hA p hp)) fun p hp hm => hm.imp id fun hf => by rw [← ha.fro p hp]; exact hf) _ _ h
theorem no_alt {A : Addr → Prop} {w0 w w' : World} {b : Nat} {d : D} {v : Value} (h : R w (NO w0 b) d v) (hs : w0.heap.size ≤ w.heap.size) (hf : ∀ p, p.block < w0.heap.size → w'.frozen? p = w0.frozen? p) (ha : Alt A w w') (hA : ∀ p, A p → p.block ≠ b) : R w' (fun p => p.block ≠ b ∨ w'.frozen? p = true) d v :=
 R.keep (fun p u hp hn => by
  obtain ⟨q1, q2, q3⟩ := no_blk hn
  exact ⟨ha.keep p u hp fun hq => hA p hq q1, fun hm => hm.elim (fun e => e q1) fun e => by rw [hf p q3, q2] at e; cases e⟩) _ _ h
theorem m_EntryX (l : List Entry) (k : Nat) (w : World) (b o cap : Nat) (rb nb : Nat → Nat) (u1 u4 : Nat → Value) (h : SepE w b o rb nb l u1 u4) (hbw : b < w.heap.size) (hk : k + cntTo l l.length ≤ 1152921504606846970) (hll : l.length ≤ 1152921504606846976) :
  Calls Tryz.prog 10 #[.slice (some ⟨b, o, none⟩) l.length cap, .int .i64 k] w fun e w' => e = .returned (.int .i64 ((k + cntTo l l.length : Nat) : Int)) ∧ Alt (fun p => p.block = b ∨ ∃ a, a < l.length ∧ (p.block = rb a ∨ p.block = nb a)) w w' ∧ SepE w' b o rb nb (mixL k l l.length) u1 u4 := by
 have hmx : (l.length : Int) ≤ 1152921504606846976 := by omega
 have H0 := Lib.hid (show SepE w b o rb nb (mixL k l 0) u1 u4 by rw [mixL_zero]; exact h)
 clear h
 go_enter Tryz.func10, Tryz.ntmps10
 go_wp2
 go_loopw [1, 5] (fun kk ii wr => Alt (fun p => p.block = b ∨ ∃ a, a < l.length ∧ (p.block = rb a ∨ p.block = nb a)) w wr ∧ ∃ i K : Nat, i ≤ l.length ∧ K = k + cntTo l i ∧ kk = .int .i64 (K : Int) ∧ ii = .int .i64 (i : Int) ∧ SepE wr b o rb nb (mixL k l i) u1 u4) (fun _ ii _ => l.length - (intOf ii).toNat)
 case atStart => exact ⟨Alt.refl _ _, 0, k, by omega, rfl, rfl, rfl, H0.out⟩
 case round =>
  obtain ⟨hA, i, K, hi, hK, rfl, rfl, hS⟩ := hrel
  have HA := Lib.hid hA
  have HK := Lib.hid hK
  have HS := Lib.hid hS
  clear hA hS
  by_cases hlt : i < l.length
  ·have hi0 : (0 : Int) ≤ (i : Int) := by omega
   have hi1 : (i : Int) < (l.length : Int) := by omega
   have hcm2 := cntTo_mono l (show i + 1 ≤ l.length by omega)
   simp only [cntTo, cntE] at hcm2
   have hKb : K + 3 + (nth l i).recipe.length + 4 * (nth l i).needs.length ≤ 1152921504606846970 := by omega
   have hml : i < (mixL k l i).length := by rw [mixL_len]; exact hlt
   have hat : nth (mixL k l i) i = nth l i := by rw [mixL_at hlt, if_neg (by omega)]
   have hib : rb i ≠ b := HS.out.rbb i hml
   have hin : nb i ≠ b := HS.out.nbb i hml
   have hrn : rb i ≠ nb i := HS.out.rn i i hml hml
   have HNE := Lib.hid (show rb i ≠ b ∧ nb i ≠ b ∧ rb i ≠ nb i from ⟨hib, hin, hrn⟩)
   have HAT := Lib.hid hat
   have HML := Lib.hid hml
   clear hK hcm2 hib hin hrn hat hml
   go_wp2_with fail
   refine (w_markText K (by omega) _).mono ?_
   rintro e w1 ⟨rfl, hsz1, hb1⟩
   have a1 : Alt (fun p => p.block = rb i ∨ p.block = nb i ∨ p = ⟨b, o + i * 5, none⟩ ∨ p = ⟨b, o + i * 5 + 2, none⟩ ∨ p = ⟨b, o + i * 5 + 3, none⟩) _ w1 := Alt.below hb1
   have hbr := Nat.lt_of_lt_of_le hbw HA.out.size
   have c1 : w1.cell? ⟨b, o + i * 5, none⟩ = some (.string (nth l i).name) := by
    rw [hb1.cell hbr, (HS.out.c0 i HML.out).1, HAT.out]
   have f1 : ∀ x y, w1.frozen? ⟨b, x, y⟩ = false := fun x y => by rw [fro_of_block (hb1.block b hbr)]; exact HS.out.fr x y
   have hf1 := f1 (o + i * 5) none
   have a2 : Alt (fun p => p = ⟨b, o + i * 5, none⟩) w1 (w1.setCell ⟨b, o + i * 5, none⟩ (.string (mkT K))) := Alt.set rfl c1 (.inr (.inl ⟨_, _, rfl, rfl, hsz1⟩))
   have a12 := a1.trans (a2.mono (A' := fun p => p.block = rb i ∨ p.block = nb i ∨ p = ⟨b, o + i * 5, none⟩ ∨ p = ⟨b, o + i * 5 + 2, none⟩ ∨ p = ⟨b, o + i * 5 + 3, none⟩) fun p _ hp => .inr (.inr (.inl hp)))
   have r1 : R (w1.setCell ⟨b, o + i * 5, none⟩ (.string (mkT K))) (NO (w1.setCell ⟨b, o + i * 5, none⟩ (.string (mkT K))) (rb i)) (encS (nth l i).recipe) (u1 i) := by
    have := HS.out.r1 i HML.out
    rw [HAT.out] at this
    exact no_of (bar_alt (bar_alt this (Alt.below (A := fun _ => False) hb1) fun p hp => hp.elim) a2 fun p hp => by rw [hp]; exact fun e => HNE.out.1 e.symm)
   have c2 : (w1.setCell ⟨b, o + i * 5, none⟩ (.string (mkT K))).cell? ⟨b, o + i * 5 + 1, none⟩ = some (u1 i) := a2.keep _ _ (by rw [hb1.cell hbr]; exact HS.out.c1 i HML.out) fun e => by have := congrArg Addr.off e; simp at this
   obtain ⟨aa, ln, cp, hu1, -⟩ := (show R _ _ (.sl ((nth l i).recipe.map Enc.cells)) (u1 i) from r1)
   obtain ⟨K2, hK2⟩ : ∃ K2, K + 1 + (nth l i).recipe.length = K2 := ⟨_, rfl⟩
   have hm2 := m_StringS (nth l i).recipe (K + 1) _ _ (u1 i) r1 (fun p hp => .inr (.inl hp)) (by omega)
   rw [hK2] at hm2
   have q0 := cell_at (v := .string (mkT K)) c1
   have HM2 := Lib.hid hm2
   have HA12 := Lib.hid a12
   have HQ0 := Lib.hid q0
   have HK2 := Lib.hid (show K2 = K + 1 + (nth l i).recipe.length by omega)
   have hK2b : K2 + 2 + 4 * (nth l i).needs.length ≤ 1152921504606846970 := by omega
   have HU1 := Lib.hid hu1
   have HF1 := Lib.hid f1
   have HSZ := Lib.hid hsz1
   clear a1 a2 a12 r1 hm2 hK2 q0 hu1 f1 hsz1
   go_wp2_with fail
   refine HM2.out.mono ?_
   rintro e w3 ⟨rfl, ha3, hr3⟩
   have a2 : Alt (fun p => p = ⟨b, o + i * 5, none⟩) w1 (w1.setCell ⟨b, o + i * 5, none⟩ (.string (mkT K))) := Alt.set rfl c1 (.inr (.inl ⟨_, _, rfl, rfl, HSZ.out⟩))
   have ha3' := ha3.mono (A' := fun p => p.block = rb i) fun p _ hp => (no_blk hp).1
   have hb1' := Nat.lt_of_lt_of_le hbr hb1.size
   have hb2' : b < (w1.setCell ⟨b, o + i * 5, none⟩ (.string (mkT K))).heap.size := by rw [size_setCell]; exact hb1'
   have f3 : ∀ x y, w3.frozen? ⟨b, x, y⟩ = false := fun x y => by rw [ha3.fro _ hb2', fro_setCell]; exact HF1.out x y
   have kb : ∀ {j : Nat} {v : Value}, 0 < j → wr.cell? ⟨b, o + i * 5 + j, none⟩ = some v → w3.cell? ⟨b, o + i * 5 + j, none⟩ = some v := fun {j v} hj hc =>
    ha3'.keep _ _ (a2.keep _ _ (by rw [hb1.cell hbr]; exact hc) fun e => by have := congrArg Addr.off e; simp at this; omega) fun e => HNE.out.1 e.symm
   have c3 : w3.cell? ⟨b, o + i * 5 + 2, none⟩ = some (.int .i64 (nth l i).ver.maj) := kb (by omega) (by have := (HS.out.c2 i HML.out).1; rw [HAT.out] at this; exact this)
   have hf3 := f3 (o + i * 5 + 2) none
   have a4 : Alt (fun p => p = ⟨b, o + i * 5 + 2, none⟩) w3 (w3.setCell ⟨b, o + i * 5 + 2, none⟩ (.int .i64 (K2 : Int))) := Alt.set rfl c3 (.inr (.inr (.inl ⟨_, _, _, rfl, rfl, by rw [i64min]; omega, by rw [i64max]; omega⟩)))
   have c4 : (w3.setCell ⟨b, o + i * 5 + 2, none⟩ (.int .i64 (K2 : Int))).cell? ⟨b, o + i * 5 + 3, none⟩ = some (.int .i64 (nth l i).ver.min) := a4.keep _ _ (kb (by omega) (by have := (HS.out.c3 i HML.out).1; rw [HAT.out] at this; exact this)) fun e => by have := congrArg Addr.off e; simp at this
   have hf4 : (w3.setCell ⟨b, o + i * 5 + 2, none⟩ (.int .i64 (K2 : Int))).frozen? ⟨b, o + i * 5 + 3, none⟩ = false := by rw [fro_setCell]; exact f3 _ _
   have a5 : Alt (fun p => p = ⟨b, o + i * 5 + 3, none⟩) (w3.setCell ⟨b, o + i * 5 + 2, none⟩ (.int .i64 (K2 : Int))) ((w3.setCell ⟨b, o + i * 5 + 2, none⟩ (.int .i64 (K2 : Int))).setCell ⟨b, o + i * 5 + 3, none⟩ (.int .i64 ((K2 : Int) + 1))) := Alt.set rfl c4 (.inr (.inr (.inl ⟨_, _, _, rfl, rfl, by rw [i64min]; omega, by rw [i64max]; omega⟩)))
   have c5 : ((w3.setCell ⟨b, o + i * 5 + 2, none⟩ (.int .i64 (K2 : Int))).setCell ⟨b, o + i * 5 + 3, none⟩ (.int .i64 ((K2 : Int) + 1))).cell? ⟨b, o + i * 5 + 4, none⟩ = some (u4 i) :=
    a5.keep _ _ (a4.keep _ _ (kb (by omega) (HS.out.c4 i HML.out)) fun e => by have := congrArg Addr.off e; simp at this) fun e => by have := congrArg Addr.off e; simp at this
   have r4 : R ((w3.setCell ⟨b, o + i * 5 + 2, none⟩ (.int .i64 (K2 : Int))).setCell ⟨b, o + i * 5 + 3, none⟩ (.int .i64 ((K2 : Int) + 1))) (NO ((w3.setCell ⟨b, o + i * 5 + 2, none⟩ (.int .i64 (K2 : Int))).setCell ⟨b, o + i * 5 + 3, none⟩ (.int .i64 ((K2 : Int) + 1))) (nb i)) (encS (nth l i).needs) (u4 i) := by
    have := HS.out.r4 i HML.out
    rw [HAT.out] at this
    have nbb : ∀ {x : Nat} (p : Addr), p = ⟨b, x, none⟩ → p.block ≠ nb i := fun p hp => by rw [hp]; exact fun e => HNE.out.2.1 e.symm
    exact no_of (bar_alt (bar_alt (bar_alt (bar_alt (bar_alt this (Alt.below (A := fun _ => False) hb1) fun p hp => hp.elim) a2 nbb) ha3' fun p hp => by rw [hp]; exact HNE.out.2.2) a4 nbb) a5 nbb)
   obtain ⟨K5, hK5⟩ : ∃ K5, K2 + 2 + 4 * (nth l i).needs.length = K5 := ⟨_, rfl⟩
   have hm5 := m_NeedS (nth l i).needs (K2 + 2) _ _ (u4 i) r4 (fun p hp => .inr (.inl hp)) (by omega)
   rw [hK5] at hm5
   have HM5 := Lib.hid hm5
   have HA3 := Lib.hid ha3
   have HA3' := Lib.hid ha3'
   have HR3 := Lib.hid hr3
   have HA4 := Lib.hid a4
   have HA5 := Lib.hid a5
   have HQ2 := Lib.hid (cell_at (v := .int .i64 (K2 : Int)) c3)
   have HQ3 := Lib.hid (cell_at (v := .int .i64 ((K2 : Int) + 1)) c4)
   have HK5 := Lib.hid (show K5 = K2 + 2 + 4 * (nth l i).needs.length by omega)
   clear a2 ha3 ha3' hr3 f3 a4 a5 r4 hm5 hK5 kb hb1' hb2'
   go_wp2_with fail
   refine HM5.out.mono ?_
   rintro e w6 ⟨rfl, ha6, hr6⟩
   have ha6' := ha6.mono (A' := fun p => p.block = nb i) fun p _ hp => (no_blk hp).1
   have b36 := ((HA4.out.mono (A' := fun p => p.block = nb i ∨ p = ⟨b, o + i * 5 + 2, none⟩ ∨ p = ⟨b, o + i * 5 + 3, none⟩) fun p _ hp => .inr (.inl hp)).trans (HA5.out.mono fun p _ hp => .inr (.inr hp))).trans (ha6'.mono fun p _ hp => .inl hp)
   have b26 := (HA3'.out.mono (A' := fun p => p.block = rb i ∨ p.block = nb i ∨ p = ⟨b, o + i * 5 + 2, none⟩ ∨ p = ⟨b, o + i * 5 + 3, none⟩) fun p _ hp => .inl hp).trans (b36.mono fun p _ hp => .inr hp)
   have b46 := (HA5.out.mono (A' := fun p => p.block = nb i ∨ p = ⟨b, o + i * 5 + 3, none⟩) fun p _ hp => .inr hp).trans (ha6'.mono fun p _ hp => .inl hp)
   have tot := HA12.out.trans (b26.mono fun p _ hp => by
    rcases hp with hp | hp | hp | hp
    ·exact .inl hp
    ·exact .inr (.inl hp)
    ·exact .inr (.inr (.inr (.inl hp)))
    ·exact .inr (.inr (.inr (.inr hp))))
   have nrb : ∀ x : Nat, ¬ (⟨b, x, none⟩ : Addr).block = rb i := fun x e => HNE.out.1 e.symm
   have nnb : ∀ x : Nat, ¬ (⟨b, x, none⟩ : Addr).block = nb i := fun x e => HNE.out.2.1 e.symm
   have z0 := b26.keep _ _ HQ0.out (by
    rintro (e | e | e | e)
    ·exact nrb _ e
    ·exact nnb _ e
    ·have := congrArg Addr.off e; simp at this
    ·have := congrArg Addr.off e; simp at this)
   have z2 := b46.keep _ _ HQ2.out (by
    rintro (e | e)
    ·exact nnb _ e
    ·have := congrArg Addr.off e; simp at this)
   have z3 := ha6'.keep _ _ HQ3.out (nnb _)
   have hKe := HK.out
   have hK2e := HK2.out
   have hst := HS.out.step hlt (fun p v hp e1 e2 e3 e4 e5 => tot.keep p v hp (by
     rintro (e | e | e | e | e)
     ·exact e1 e
     ·exact e2 e
     ·exact e3 e
     ·exact e4 e
     ·exact e5 e)) tot.fro hbr
    (by rw [z0]; unfold markE; rw [hKe]) (by unfold markE; rw [← hKe]; exact HSZ.out)
    (by rw [z2, hK2e, hKe]; rfl) (by rw [z3, hK2e, hKe]; rfl)
    (by unfold markE; dsimp only; omega)
    (by
     have := no_alt HR3.out HA3.out.size (fun p hp => b26.fro p hp) b36 (fun p hp => by
      rcases hp with hp | hp | hp
      ·rw [hp]; exact HNE.out.2.2.symm
      ·rw [hp]; exact fun e => nrb _ e
      ·rw [hp]; exact fun e => nrb _ e)
     rw [mkStr_rows] at this
     unfold markE
     rw [← hKe]
     exact this)
    (by
     have := no_alt hr6 ha6.size (fun p hp => ha6.fro p hp) (Alt.refl (fun _ => False) w6) fun p hp => hp.elim
     rw [mkNeed_rows] at this
     unfold markE
     rw [← hKe, ← hK2e]
     exact this)
   have HST := Lib.hid hst
   have HT := Lib.hid (HA.out.trans (tot.mono (A' := fun p => p.block = b ∨ ∃ a, a < l.length ∧ (p.block = rb a ∨ p.block = nb a)) fun p _ hp => by
    rcases hp with hp | hp | hp | hp | hp
    ·exact .inr ⟨i, hlt, .inl hp⟩
    ·exact .inr ⟨i, hlt, .inr hp⟩
    ·exact .inl (by rw [hp])
    ·exact .inl (by rw [hp])
    ·exact .inl (by rw [hp])))
   have HKN := Lib.hid (show K5 = k + cntTo l (i + 1) by
    have := HK5.out
    simp only [cntTo, cntE]
    omega)
   clear ha6 ha6' hr6 b36 b26 b46 tot nrb nnb z0 z2 z3 hKe hK2e hst
   go_wp2
   exact ⟨⟨HT.out, i + 1, K5, by omega, HKN.out, by go_num, by go_num, HST.out⟩, by simp [intOf]; omega⟩
  ·go_wp2
   go_ret
   obtain rfl : i = l.length := by omega
   subst hK
   exact ⟨rfl, HA.out, HS.out⟩
end Go.Proofs.YtimickglpboilaaGreat
/- A row of entries under way: each row within lies in a new block of its own, or is empty; in the end the rows lie apart. -/
namespace Go.Proofs.YtimickglpboilaaGreat
open Go.RowKit Go
def RowIn (B : Nat) (w : World) (rows : List (List D)) (u : Value) : Option Nat → Prop
 | some r => B ≤ r ∧ r < w.heap.size ∧ R w (fun p => p.block ≠ r ∨ w.frozen? p = true) (.sl rows) u
 | none => R w (fun _ => True) (.sl rows) u
theorem RowIn.keep {B : Nat} {w w' : World} {rows : List (List D)} {u : Value} {r : Option Nat} (h : RowIn B w rows u r) (hs : w.heap.size ≤ w'.heap.size) (hk : ∀ p v, w.cell? p = some v → r = some p.block → w'.cell? p = some v) (hf : ∀ p : Addr, p.block < w.heap.size → r = some p.block → w'.frozen? p = w.frozen? p) : RowIn B w' rows u r := by
 cases r with
 | none => exact R.keep (fun p v hp hn => absurd trivial hn) _ _ h
 | some r =>
  obtain ⟨h1, h2, h3⟩ := h
  refine ⟨h1, by omega, R.keep (fun p v hp hn => ?_) _ _ h3⟩
  have hpb : p.block = r := Classical.byContradiction fun e => hn (.inl e)
  exact ⟨hk p v hp (by rw [hpb]), fun hm => hn (hm.imp id fun e => by rw [← hf p (block_lt_of_cell hp) (by rw [hpb])]; exact e)⟩
theorem RowIn.low {B B' : Nat} {w : World} {rows : List (List D)} {u : Value} {r : Option Nat} (h : RowIn B w rows u r) (hB : B' ≤ B) : RowIn B' w rows u r := by
 cases r with
 | none => exact h
 | some r => exact ⟨Nat.le_trans hB h.1, h.2⟩
theorem rowIn_of {B n : Nat} {w : World} {M : Addr → Prop} {rows : List (List D)} {u : Value} (hr : R w M (.sl rows) u) (hn : ∀ r ∈ rows, r.length = n) (hlf : ∀ r ∈ rows, ∀ d ∈ r, leafD d = true) (hl : LiveAt B w u n) :
  ∃ r, RowIn B w rows u r ∧ ∀ x, r = some x → ∃ o s len cap, u = .slice (some ⟨x, o, s⟩) len cap ∧ 0 < cap := by
 have hr0 := hr
 obtain ⟨a, len, cap, rfl, h1, h2, h3, h4, h5⟩ := hr
 by_cases hc : 0 < cap
 ·rcases a with _ | ⟨b, o, s⟩
  ·have := h4 rfl; omega
  ·refine ⟨some b, ?_, fun x hx => by cases hx; exact ⟨o, s, len, cap, rfl, hc⟩⟩
   obtain ⟨_, q2, cells, T, q3, _⟩ := hl b o s len cap rfl hc
   refine ⟨q2, (Array.getElem?_eq_some_iff.1 q3).1, flat_of hn h1 h2 h3 (h5 b o s rfl).1 fun i j r d hi hj => ?_⟩
   obtain ⟨v, c1, c2, c3⟩ := flat_cells hn hr0 hi hj
   refine ⟨v, c1, fun hm => ?_, leaf_move (hlf r (List.mem_of_getElem? hi) d (List.mem_of_getElem? hj)) c3⟩
   rcases hm with hm | hm
   ·exact hm rfl
   ·rw [(live_free hl hc).2] at hm; cases hm
 ·refine ⟨none, ?_, fun x hx => by cases hx⟩
  have : rows = [] := List.eq_nil_of_length_eq_zero (by omega)
  subst this
  exact ⟨a, len, cap, rfl, h1, h2, h3, h4, fun b o s e => ⟨(h5 b o s e).1, trivial⟩⟩
structure PreE (B : Nat) (w : World) (b n : Nat) (l : List Entry) (u1 u4 : Nat → Value) (ro no : Nat → Option Nat) : Prop where
 le : n ≤ l.length
 bw : B ≤ b ∧ b < w.heap.size
 c0 : ∀ a, a < n → w.cell? ⟨b, a * 5, none⟩ = some (.string (nth l a).name) ∧ (nth l a).name.size ≤ maxLen
 c1 : ∀ a, a < n → w.cell? ⟨b, a * 5 + 1, none⟩ = some (u1 a)
 c2 : ∀ a, a < n → w.cell? ⟨b, a * 5 + 2, none⟩ = some (.int .i64 (nth l a).ver.maj) ∧ IntKind.i64.min ≤ (nth l a).ver.maj ∧ (nth l a).ver.maj ≤ IntKind.i64.max
 c3 : ∀ a, a < n → w.cell? ⟨b, a * 5 + 3, none⟩ = some (.int .i64 (nth l a).ver.min) ∧ IntKind.i64.min ≤ (nth l a).ver.min ∧ (nth l a).ver.min ≤ IntKind.i64.max
 c4 : ∀ a, a < n → w.cell? ⟨b, a * 5 + 4, none⟩ = some (u4 a)
 r1 : ∀ a, a < n → RowIn B w ((nth l a).recipe.map Enc.cells) (u1 a) (ro a)
 r4 : ∀ a, a < n → RowIn B w ((nth l a).needs.map Enc.cells) (u4 a) (no a)
 fr : ∀ x y, w.frozen? ⟨b, x, y⟩ = false
 rb : ∀ a x, a < n → ro a = some x → x ≠ b
 nb : ∀ a x, a < n → no a = some x → x ≠ b
 rn : ∀ a c x, a < n → c < n → ro a = some x → no c ≠ some x
 rr : ∀ a c x, a < n → c < n → a ≠ c → ro a = some x → ro c ≠ some x
 nn : ∀ a c x, a < n → c < n → a ≠ c → no a = some x → no c ≠ some x
theorem PreE.sep {B : Nat} {w : World} {b : Nat} {l : List Entry} {u1 u4 : Nat → Value} {ro no : Nat → Option Nat} (h : PreE B w b l.length l u1 u4 ro no) :
  SepE w b 0 (fun a => (ro a).getD (w.heap.size + 2 * a)) (fun a => (no a).getD (w.heap.size + 2 * a + 1)) l u1 u4 := by
 have lo : ∀ a x, a < l.length → ro a = some x → x < w.heap.size := fun a x ha e => by have := h.r1 a ha; rw [e] at this; exact this.2.1
 have ln : ∀ a x, a < l.length → no a = some x → x < w.heap.size := fun a x ha e => by have := h.r4 a ha; rw [e] at this; exact this.2.1
 have hb := h.bw.2
 refine ⟨fun a ha => by rw [Nat.zero_add]; exact h.c0 a ha, fun a ha => by rw [Nat.zero_add]; exact h.c1 a ha, fun a ha => by rw [Nat.zero_add]; exact h.c2 a ha, fun a ha => by rw [Nat.zero_add]; exact h.c3 a ha, fun a ha => by rw [Nat.zero_add]; exact h.c4 a ha,
  fun a ha => ?_, fun a ha => ?_, h.fr, fun a ha => ?_, fun a ha => ?_, fun a c ha hc => ?_, fun a c ha hc hne => ?_, fun a c ha hc hne => ?_⟩
 ·have := h.r1 a ha
  cases e : ro a with
  | none => rw [e] at this; exact R.less this fun _ _ => trivial
  | some x => rw [e] at this; exact this.2.2
 ·have := h.r4 a ha
  cases e : no a with
  | none => rw [e] at this; exact R.less this fun _ _ => trivial
  | some x => rw [e] at this; exact this.2.2
 ·cases e : ro a with
  | none => simp only [Option.getD_none]; omega
  | some x => simp only [Option.getD_some]; exact h.rb a x ha e
 ·cases e : no a with
  | none => simp only [Option.getD_none]; omega
  | some x => simp only [Option.getD_some]; exact h.nb a x ha e
 ·cases e : ro a with
  | none => cases e2 : no c with
   | none => simp only [Option.getD_none]; omega
   | some y => have := ln c y hc e2; simp only [Option.getD_none, Option.getD_some]; omega
  | some x => cases e2 : no c with
   | none => have := lo a x ha e; simp only [Option.getD_none, Option.getD_some]; omega
   | some y => simp only [Option.getD_some]; exact fun e3 => h.rn a c x ha hc e (by rw [e2, e3])
 ·cases e : ro a with
  | none => cases e2 : ro c with
   | none => simp only [Option.getD_none]; omega
   | some y => have := lo c y hc e2; simp only [Option.getD_none, Option.getD_some]; omega
  | some x => cases e2 : ro c with
   | none => have := lo a x ha e; simp only [Option.getD_none, Option.getD_some]; omega
   | some y => simp only [Option.getD_some]; exact fun e3 => h.rr a c x ha hc hne e (by rw [e2, e3])
 ·cases e : no a with
  | none => cases e2 : no c with
   | none => simp only [Option.getD_none]; omega
   | some y => have := ln c y hc e2; simp only [Option.getD_none, Option.getD_some]; omega
  | some x => cases e2 : no c with
   | none => have := ln a x ha e; simp only [Option.getD_none, Option.getD_some]; omega
   | some y => simp only [Option.getD_some]; exact fun e3 => h.nn a c x ha hc hne e (by rw [e2, e3])
end Go.Proofs.YtimickglpboilaaGreat
