/- Faces: what the program and the reference make of two faces. -/
import Derived.Test.YthoilclddnjjjaaBase
import Derived.Test.YthoilclddnjjjaaFaceMath
import Derived.Test.YthoilclddnjjjaaAF
namespace Go.Proofs.Ythoilclddnjjjaa
open Go.RowKit
set_option maxRecDepth 100000

theorem i64_andNot_nat (a b : Nat) (ha : a < 9223372036854775808) (hb : b < 9223372036854775808) : bits .andNot .i64 (a : Int) (b : Int) = ((a ^^^ (a &&& b) : Nat) : Int) := by
  have hx : a ^^^ (a &&& b) < 2 ^ 63 := Nat.xor_lt_two_pow (by omega) (Nat.and_lt_two_pow _ (by omega))
  have e : (BitVec.ofInt 64 (a : Int) &&& ~~~ BitVec.ofInt 64 (b : Int)) = BitVec.ofInt 64 (a : Int) ^^^ (BitVec.ofInt 64 (a : Int) &&& BitVec.ofInt 64 (b : Int)) := by
    ext i hi
    simp
    exact (by decide : ∀ x y : Bool, (x && !y) = (x ^^ (x && y))) _ _
  show IntKind.i64.wrap ((BitVec.ofInt 64 (a : Int) &&& ~~~ BitVec.ofInt 64 (b : Int)).toNat : Int) = _
  rw [e, BitVec.toNat_xor, BitVec.toNat_and, ofInt_i64 a ha, ofInt_i64 b hb, IntKind.wrap_i64]
  omega
theorem made_step {c : Bool → Bool → Bool} {n m k : Nat} (hk : k < 6) : wrap64 ((madeN c n m k : Int) + wrap64 (2 ^ k)) = ((madeN c n m k + 2 ^ k : Nat) : Int) := by
  have h1 := madeN_lt c n m k
  have h2 : (2 : Nat) ^ k ≤ 2 ^ 5 := Nat.pow_le_pow_right (by omega) (by omega)
  have e0 : (2 : Int) ^ k = ((2 ^ k : Nat) : Int) := by simp
  rw [e0, wrap64_small (n := ((2 ^ k : Nat) : Int)) (by omega) (by omega), wrap64_small (by omega) (by omega)]
  omega
theorem spec_l2Made (how : Int) (c : Bool → Bool → Bool) (hc : how = 0 ∧ c = cBoth ∨ how = 1 ∧ c = cEither ∨ how = 2 ∧ c = cFirst) (n m : Nat) (hn : n < 64) (hm : m < 64) (w : World) :
    Calls Try.prog 70 #[.int .i64 n, .int .i64 m, .int .i64 how] w fun e w' => e = .returned (.int .i64 (madeN c n m 6)) ∧ w = w' := by
  have hfn : isFaceB n = true := by unfold isFaceB; simp; omega
  have hfm : isFaceB m = true := by unfold isFaceB; simp; omega
  rcases hc with ⟨rfl, hc⟩ | ⟨rfl, hc⟩ | ⟨rfl, hc⟩
  all_goals
    have HC := Lib.hid hc
    clear hc
    go_enter Try.func70, Try.ntmps70
    go_wp2_with ((go_at_call 52; refine (spec_IsFace _ _).mono ?_; rintro e w' ⟨rfl, rfl⟩))
    go_loop [7, 8] (fun o i => ∃ k : Nat, k ≤ 6 ∧ i = .int .i64 k ∧ o = .int .i64 (madeN c n m k)) (fun _ i => 6 - (intOf i).toNat)
    case atStart => exact ⟨0, by omega, rfl, rfl⟩
    case round =>
      obtain ⟨k, hk, rfl, rfl⟩ := hrel
      by_cases hlt : k < 6
      · cases hx : n.testBit k <;> cases hy : m.testBit k
        all_goals
          have HX := Lib.hid hx
          have HY := Lib.hid hy
          clear hx hy
          have hx := HX.out
          have hy := HY.out
          go_wp2_with ((go_at_call 60; refine (spec_l2Has _ _ hlt _).mono ?_; rintro e w' ⟨rfl, rfl⟩))
          first
            | exact ⟨⟨k + 1, by omega, by go_num, by rw [made_step hlt, madeN_yes (by rw [HC.out, HX.out, HY.out]; rfl)]⟩, by simp [intOf]; omega⟩
            | exact ⟨⟨k + 1, by omega, by go_num, by rw [madeN_no (by rw [HC.out, HX.out, HY.out]; rfl)]⟩, by simp [intOf]; omega⟩
      · go_wp2
        go_ret
        obtain rfl : k = 6 := by omega
        exact ⟨rfl, rfl⟩
theorem spec_Lacking (n m : Nat) (hn : n < 64) (hm : m < 64) (w : World) :
    Calls Try.prog 47 #[.int .i64 n, .int .i64 m] w fun e w' => e = .returned (.int .i64 ((m ^^^ (m &&& n) : Nat) : Int)) ∧ w = w' := by
  go_enter Try.func47, Try.ntmps47
  go_wp2_with ((go_at_call 70; refine (spec_l2Made 2 cFirst (.inr (.inr ⟨rfl, rfl⟩)) _ _ hm hn _).mono ?_; rintro e w' ⟨rfl, rfl⟩))
  go_ret
  exact ⟨ret_int (by rw [made_first hm hn]), rfl⟩
theorem spec_BothFaces (n m : Nat) (hn : n < 64) (hm : m < 64) (w : World) :
    Calls Try.prog 68 #[.int .i64 n, .int .i64 m] w fun e w' => e = .returned (.int .i64 ((n &&& m : Nat) : Int)) ∧ w = w' := by
  go_enter Try.func68, Try.ntmps68
  go_wp2_with ((go_at_call 70; refine (spec_l2Made 0 cBoth (.inl ⟨rfl, rfl⟩) _ _ hn hm _).mono ?_; rintro e w' ⟨rfl, rfl⟩))
  go_ret
  exact ⟨ret_int (by rw [made_both hn hm]), rfl⟩
theorem afZ_nat (a b : Int) : ∃ n : Nat, afZ a b = n ∧ n < 64 := by
  unfold afZ
  split
  · exact ⟨_, rfl, afN_lt a b 6⟩
  · exact ⟨0, rfl, by omega⟩
def afM (a b : Int) : Nat := (afZ a b).toNat
theorem afM_eq (a b : Int) : afZ a b = (afM a b : Int) ∧ afM a b < 64 := by
  obtain ⟨n, h, hn⟩ := afZ_nat a b
  unfold afM; rw [h]; simp; exact hn
theorem i64_andNot_af (a b c d : Int) : bits .andNot .i64 (afM a b : Int) (afM c d : Int) = ((afM a b ^^^ (afM a b &&& afM c d) : Nat) : Int) :=
  i64_andNot_nat _ _ (by have := (afM_eq a b).2; omega) (by have := (afM_eq c d).2; omega)
theorem impl_AllowedFaceM (a b : Int) (w : World) :
    Calls Try.prog 28 #[.agg #[.int .i64 a, .int .i64 b]] w fun e w' => e = .returned (.int .i64 (afM a b)) ∧ Below w.heap.size w w' := by
  rw [← (afM_eq a b).1]; exact impl_AllowedFace a b w
theorem spec_AllowedFaceM (a b : Int) (w : World) :
    Calls Try.prog 48 #[.agg #[.int .i64 a, .int .i64 b]] w fun e w' => e = .returned (.int .i64 (afM a b)) ∧ Below w.heap.size w w' := by
  rw [← (afM_eq a b).1]; exact spec_AllowedFace a b w
end Go.Proofs.Ythoilclddnjjjaa
