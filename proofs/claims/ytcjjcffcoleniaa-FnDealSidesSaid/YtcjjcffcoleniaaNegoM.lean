/- Deals as plain data, over the structures of the new road. No program in sight. -/
import Derived.Test.YtcjjcffcoleniaaBOffer
namespace Go.Proofs.Ytcjjcffcoleniaa
set_option linter.unusedVariables false
set_option linter.unusedSimpArgs false
def lastAt (p : Nat → Bool) : Nat → Option Nat
  | 0 => none
  | n + 1 => if p n then some n else lastAt p n
theorem lastAt_yes {p : Nat → Bool} {n : Nat} (h : p n = true) : lastAt p (n + 1) = some n := by simp [lastAt, h]
theorem lastAt_no {p : Nat → Bool} {n : Nat} (h : p n = false) : lastAt p (n + 1) = lastAt p n := by simp [lastAt, h]
theorem lastAt_none {p : Nat → Bool} (h : ∀ i, p i = false) : ∀ n, lastAt p n = none
  | 0 => rfl
  | n + 1 => by rw [lastAt_no (h n)]; exact lastAt_none h n
theorem lastAt_lt {p : Nat → Bool} {k : Nat} : ∀ {n : Nat}, lastAt p n = some k → k < n ∧ p k = true
  | 0, h => by cases h
  | n + 1, h => by
    by_cases e : p n = true
    · rw [lastAt_yes e] at h; cases h; exact ⟨by omega, e⟩
    · rw [lastAt_no (by simpa using e)] at h; have := lastAt_lt h; exact ⟨by omega, this.2⟩
def hasV (l : List Ver) (v : Ver) : Bool := decide (v ∈ l)
def okO (x : Offer) : Bool := x.ok
/-- What both faces have; nothing where one is none. -/
def bothF (a b : Int) : Nat := if isFaceB a && isFaceB b then a.toNat &&& b.toNat else 0
theorem faceB_nat {n : Nat} (h : n < 64) : isFaceB n = true := by unfold isFaceB; simp; omega
theorem isFaceB_iff {f : Int} : isFaceB f = true ↔ 0 ≤ f ∧ f ≤ 63 := by unfold isFaceB; simp
theorem bothF_lt (a b : Int) : bothF a b < 64 := by
  unfold bothF
  split
  · rename_i h
    simp only [Bool.and_eq_true, isFaceB_iff] at h
    exact and_lt64 (by omega)
  · omega
theorem bothF_face {a b : Int} (ha : isFaceB a = true) (hb : isFaceB b = true) : bothF a b = a.toNat &&& b.toNat := by simp [bothF, ha, hb]
/-- What a start and the first k offers' faces have in common. -/
def faceTo (xs : List Offer) (s : Nat) : Nat → Nat
  | 0 => s
  | k + 1 => bothF (faceTo xs s k) (nth xs k).face
theorem faceTo_lt {xs : List Offer} {s : Nat} (hs : s < 64) : ∀ k, faceTo xs s k < 64
  | 0 => hs
  | _ + 1 => bothF_lt _ _
theorem okO_face {x : Offer} (h : okO x = true) : isFaceB x.face = true := by
  simp [okO, Offer.ok] at h; simp [isFaceB]; omega
theorem faceTo_and {xs : List Offer} {s : Nat} (hs : s < 64) : ∀ {k : Nat}, allTo (fun i => okO (nth xs i)) k = true → faceTo xs s k = faceTo xs 63 k &&& s
  | 0, _ => by simp [faceTo]; rw [Nat.and_comm]; exact (show ∀ n : Fin 64, n.val = n.val &&& 63 by decide +kernel) ⟨s, hs⟩
  | k + 1, h => by
    simp only [allTo, Bool.and_eq_true] at h
    have h1 := okO_face h.2
    simp only [faceTo]
    rw [bothF_face (faceB_nat (faceTo_lt hs k)) h1, bothF_face (faceB_nat (faceTo_lt (by omega) k)) h1, faceTo_and hs h.1]
    simp only [Int.toNat_natCast]
    rw [Nat.and_assoc, Nat.and_comm s, ← Nat.and_assoc]
def afV (v : Ver) : Nat := (afZ v.maj v.min).toNat
theorem afZ_nat (a b : Int) : ∃ n : Nat, afZ a b = n ∧ n < 64 := by
  unfold afZ
  split
  · exact ⟨_, rfl, afN_lt a b 6⟩
  · exact ⟨0, rfl, by omega⟩
theorem afV_eq (v : Ver) : afZ v.maj v.min = (afV v : Int) ∧ afV v < 64 := by
  obtain ⟨n, h, hn⟩ := afZ_nat v.maj v.min
  unfold afV; rw [h]; simp; exact hn
def comV (xs : List Offer) (k : Nat) : Bool := allTo (fun i => hasV (nth xs i).vers (nth (nth xs 0).vers k)) xs.length
/-- The place, in the first offer, of the version of the deal. -/
def dealAt (xs : List Offer) : Option Nat := if xs.length = 0 ∨ allTo (fun i => okO (nth xs i)) xs.length = false then none else lastAt (comV xs) (nth xs 0).vers.length
def dealAs (xs : List Offer) (k : Nat) : Deal := ⟨nth (nth xs 0).vers k, ((faceTo xs 63 xs.length &&& afV (nth (nth xs 0).vers k) : Nat) : Int)⟩
def deal0 : Deal := ⟨⟨0, 0⟩, 0⟩
def dealOf (xs : List Offer) : Deal := match dealAt xs with | some k => dealAs xs k | none => deal0
def dealB (xs : List Offer) : Bool := (dealAt xs).isSome
theorem dealOf_some {xs : List Offer} {k : Nat} (h : dealAt xs = some k) : dealOf xs = dealAs xs k ∧ dealB xs = true := by simp [dealOf, dealB, h]
theorem dealOf_none {xs : List Offer} (h : dealAt xs = none) : dealOf xs = deal0 ∧ dealB xs = false := by simp [dealOf, dealB, h]
end Go.Proofs.Ytcjjcffcoleniaa
