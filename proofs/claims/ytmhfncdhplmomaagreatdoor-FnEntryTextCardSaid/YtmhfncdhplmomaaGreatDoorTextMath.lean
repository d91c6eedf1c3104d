/- Texts: numerals of three digits, cutting and joining. Plain mathematics over lists of bytes. -/
import Derived.Lib.Split
import Derived.Lib.Join
import Derived.Lib.Atoi
import Derived.Lib.ItoaNum
namespace Go.Proofs.YtmhfncdhplmomaaGreatDoor
set_option linter.unusedVariables false
/-- The decimal digits of a number below a thousand. -/
def dig3 (n : Nat) : List UInt8 :=
  if n < 10 then [UInt8.ofNat (48 + n)] else if n < 100 then [UInt8.ofNat (48 + n / 10), UInt8.ofNat (48 + n % 10)] else [UInt8.ofNat (48 + n / 100), UInt8.ofNat (48 + n / 10 % 10), UInt8.ofNat (48 + n % 10)]
theorem dec3 {n : Nat} (h : n < 1000) : Lib.decDigits n = dig3 n := by
  unfold dig3
  by_cases h1 : n < 10
  · rw [if_pos h1, Lib.decDigits, dif_pos h1]
  · rw [if_neg h1, Lib.decDigits, dif_neg h1]
    by_cases h2 : n < 100
    · rw [if_pos h2, Lib.decDigits, dif_pos (by omega)]; rfl
    · rw [if_neg h2, Lib.decDigits, dif_neg (by omega), Lib.decDigits, dif_pos (by omega), show n / 10 / 10 = n / 100 by omega]; rfl
def isDig (b : UInt8) : Bool := decide (48 ≤ b.toNat ∧ b.toNat ≤ 57)
/-- The number that a reader of four bytes reckons. -/
def rd4 (l : List UInt8) : Int := (l.take 4).foldl (fun n c => 10 * n + (c.toNat : Int) - 48) 0
theorem dig3_facts : ∀ n ∈ List.range 1000, (Lib.atoi (dig3 n) = some (n : Int) ∧ rd4 (dig3 n) = (n : Int) ∧ 0 < (dig3 n).length ∧ (dig3 n).length ≤ 3) ∧ (dig3 n).all isDig = true := by decide +kernel
theorem dig3_atoi {n : Nat} (h : n < 1000) : Lib.atoi (dig3 n) = some (n : Int) := (dig3_facts n (List.mem_range.2 h)).1.1
theorem dig3_rd {n : Nat} (h : n < 1000) : rd4 (dig3 n) = (n : Int) := (dig3_facts n (List.mem_range.2 h)).1.2.1
theorem dig3_pos {n : Nat} (h : n < 1000) : 0 < (dig3 n).length := (dig3_facts n (List.mem_range.2 h)).1.2.2.1
theorem dig3_le {n : Nat} (h : n < 1000) : (dig3 n).length ≤ 3 := (dig3_facts n (List.mem_range.2 h)).1.2.2.2
theorem dig3_dig {n : Nat} (h : n < 1000) : (dig3 n).all isDig = true := (dig3_facts n (List.mem_range.2 h)).2
theorem dig3_inj {n m : Nat} (hn : n < 1000) (hm : m < 1000) (h : dig3 n = dig3 m) : n = m := by
  have h1 := dig3_atoi hn
  have h2 := dig3_atoi hm
  rw [h, h2] at h1
  simp at h1; omega
/-- The number below a thousand that a text writes. -/
def numO (l : List UInt8) : Option Nat := (List.range 1000).find? fun n => decide (dig3 n = l)
theorem numO_some {l : List UInt8} {n : Nat} : numO l = some n ↔ n < 1000 ∧ dig3 n = l := by
  unfold numO
  constructor
  · intro h
    exact ⟨List.mem_range.1 (List.mem_of_find?_eq_some h), by simpa using List.find?_some h⟩
  · rintro ⟨h1, h2⟩
    cases hf : (List.range 1000).find? fun n => decide (dig3 n = l) with
    | none => have := List.find?_eq_none.1 hf n (List.mem_range.2 h1); simp [h2] at this
    | some m =>
      have hm := List.mem_range.1 (List.mem_of_find?_eq_some hf)
      have he : dig3 m = l := by simpa using List.find?_some hf
      rw [dig3_inj hm h1 (he.trans h2.symm)]
theorem numO_none {l : List UInt8} : numO l = none ↔ ∀ n, n < 1000 → dig3 n ≠ l := by
  constructor
  · intro h n hn he
    rw [numO_some.2 ⟨hn, he⟩] at h; cases h
  · intro h
    cases hf : numO l with
    | none => rfl
    | some n => obtain ⟨h1, h2⟩ := numO_some.1 hf; exact absurd h2 (h n h1)
theorem numO_dig {n : Nat} (h : n < 1000) : numO (dig3 n) = some n := numO_some.2 ⟨h, rfl⟩

/-! Cutting -/
theorem prefix_cons_false {c : UInt8} {t l : List UInt8} (h : l.head? ≠ some c) : (c :: t).isPrefixOf l = false := by
  cases l with
  | nil => rfl
  | cons b r =>
    have : c ≠ b := fun e => h (by simp [e])
    simp [List.isPrefixOf, this]
theorem index_none' {c : UInt8} {t : List UInt8} : ∀ {x : List UInt8}, c ∉ x → Lib.index x (c :: t) = -1
  | [], _ => rfl
  | b :: x, h => by
    unfold Lib.index
    rw [prefix_cons_false (by intro e; simp at e; exact h (by simp [e])), index_none' (x := x) (fun e => h (by simp [e]))]
    rfl
theorem index_app {c : UInt8} {t rest : List UInt8} : ∀ {x : List UInt8}, c ∉ x → Lib.index (x ++ ((c :: t) ++ rest)) (c :: t) = x.length
  | [], _ => by
    simp only [List.nil_append, List.cons_append, List.length_nil]
    unfold Lib.index
    have : (c :: t).isPrefixOf (c :: (t ++ rest)) = true := by
      rw [List.isPrefixOf_iff_prefix]
      exact ⟨rest, rfl⟩
    rw [this]; rfl
  | b :: x, h => by
    have hx : c ∉ x := fun e => h (by simp [e])
    have ih := index_app (t := t) (rest := rest) hx
    rw [List.cons_append]
    unfold Lib.index
    rw [prefix_cons_false (by intro e; simp at e; exact h (by simp [e])), ih]
    simp
theorem split_miss {s sep : List UInt8} (h : Lib.index s sep = -1) : Lib.split s sep = [s] := by
  unfold Lib.split
  rw [Lib.count_miss h]; rfl
theorem split_hit {s sep : List UInt8} {i : Nat} (hsep : sep ≠ []) (h : Lib.index s sep = i) : Lib.split s sep = s.take i :: Lib.split (s.drop (i + sep.length)) sep := by
  unfold Lib.split
  rw [Lib.count_hit hsep h, Nat.add_comm 1, Lib.splitK]
  rw [if_neg (by rw [h]; simp), h]
  simp
/-- What is joined is divided again. -/
theorem split_join {c : UInt8} {t : List UInt8} : ∀ {l : List (List UInt8)}, l ≠ [] → (∀ x ∈ l, c ∉ x) → Lib.split (Lib.join l (c :: t)) (c :: t) = l
  | [], h, _ => absurd rfl h
  | [x], _, h => by
    rw [Lib.join_one]
    exact split_miss (index_none' (h x (by simp)))
  | x :: y :: r, _, h => by
    have e : Lib.join (x :: y :: r) (c :: t) = x ++ ((c :: t) ++ Lib.join (y :: r) (c :: t)) := by
      rw [Lib.join_cons, Lib.join_cons]
      simp [Lib.joinTail]
    rw [e, split_hit (by simp) (index_app (h x (by simp)))]
    have ih := split_join (c := c) (t := t) (l := y :: r) (by simp) (fun z hz => h z (by simp [hz]))
    rw [List.take_left', ← List.append_assoc, List.drop_left' (by simp)]
    · rw [ih]
    · rfl
/-- What is divided is joined again. -/
theorem join_split {sep : List UInt8} (hsep : sep ≠ []) : ∀ (n : Nat) (s : List UInt8), s.length ≤ n → Lib.join (Lib.split s sep) sep = s ∧ Lib.split s sep ≠ []
  | n, s, hn => by
    rcases Lib.index_spec s sep with ⟨h, _⟩ | ⟨i, h, h1, h2, _⟩
    · rw [split_miss h]; exact ⟨Lib.join_one _ _, by simp⟩
    · rw [split_hit hsep h]
      have hroom := Lib.index_room s sep (by rw [h]; omega)
      have hpos : 0 < sep.length := List.length_pos_iff.2 hsep
      rw [h] at hroom
      have hlt : (s.drop (i + sep.length)).length < s.length := by simp; omega
      cases n with
      | zero => omega
      | succ n =>
        obtain ⟨q1, q2⟩ := join_split hsep n (s.drop (i + sep.length)) (by omega)
        refine ⟨?_, by simp⟩
        cases hsp : Lib.split (s.drop (i + sep.length)) sep with
        | nil => exact absurd hsp q2
        | cons y r =>
          rw [hsp] at q1
          have e : Lib.join (s.take i :: y :: r) sep = s.take i ++ (sep ++ Lib.join (y :: r) sep) := by
            rw [Lib.join_cons, Lib.join_cons]
            simp [Lib.joinTail]
          rw [e, q1]
          have hocc := Lib.occAt_iff_take s sep i (by omega)
          rw [h2] at hocc
          have hs : (s.drop i).take sep.length = sep := by simpa using hocc.symm
          have e2 : s.drop (i + sep.length) = (s.drop i).drop sep.length := by rw [List.drop_drop]
          rw [e2]
          conv => lhs; rw [show sep ++ (s.drop i).drop sep.length = (s.drop i).take sep.length ++ (s.drop i).drop sep.length by rw [hs]]
          rw [List.take_append_drop, List.take_append_drop]
theorem cut_app {c : UInt8} {t rest x : List UInt8} (h : c ∉ x) : Lib.cut (x ++ ((c :: t) ++ rest)) (c :: t) = (x, rest, true) := by
  unfold Lib.cut
  rw [index_app h, if_pos (by omega)]
  simp
theorem cut_none {c : UInt8} {t x : List UInt8} (h : c ∉ x) : Lib.cut x (c :: t) = (x, [], false) := by
  unfold Lib.cut
  rw [index_none' h]; rfl
theorem cut_back {s sep : List UInt8} (h : (Lib.cut s sep).2.2 = true) : s = (Lib.cut s sep).1 ++ (sep ++ (Lib.cut s sep).2.1) := by
  unfold Lib.cut at *
  split at h
  · rename_i hi
    rw [if_pos hi]
    rcases Lib.index_spec s sep with ⟨h0, _⟩ | ⟨i, h0, h1, h2, _⟩
    · omega
    · have hroom := Lib.index_room s sep hi
      rw [h0] at hroom ⊢
      simp only [Int.toNat_natCast]
      have hocc := Lib.occAt_iff_take s sep i (by omega)
      rw [h2] at hocc
      have hs : (s.drop i).take sep.length = sep := by simpa using hocc.symm
      have e2 : s.drop (i + sep.length) = (s.drop i).drop sep.length := by rw [List.drop_drop]
      rw [e2]
      conv => rhs; rw [show sep ++ (s.drop i).drop sep.length = (s.drop i).take sep.length ++ (s.drop i).drop sep.length by rw [hs]]
      rw [List.take_append_drop, List.take_append_drop]
  · simp at h
end Go.Proofs.YtmhfncdhplmomaaGreatDoor
