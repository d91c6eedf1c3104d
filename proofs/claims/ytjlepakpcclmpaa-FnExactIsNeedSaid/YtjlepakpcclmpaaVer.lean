/- What the program and the reference compute on versions: walks over plain data. Nothing is assumed but what each theorem says. -/
import Derived.Test.YtjlepakpcclmpaaBase
import Derived.Test.YtjlepakpcclmpaaVerMath
namespace Go.Proofs.Ytjlepakpcclmpaa
open Go.RowKit

theorem spec_IsVersion (a b : Int) (w : World) :
    Calls Try.prog 10 #[.agg #[.int .i64 a, .int .i64 b]] w fun e w' => e = .returned (.bool (isVersionB a b)) ∧ Below w.heap.size w w' := by
  go_enter Try.func10, Try.ntmps10
  go_wp2
  all_goals (go_ret; exact ⟨ret_bool (by unfold isVersionB; simp; try omega), by go_grown⟩)
theorem impl_IsVersion (a b : Int) (w : World) :
    Calls Try.prog 12 #[.agg #[.int .i64 a, .int .i64 b]] w fun e w' => e = .returned (.bool (isVersionB a b)) ∧ Below w.heap.size w w' := by
  go_enter Try.func12, Try.ntmps12
  go_wp2
  all_goals (go_ret; exact ⟨ret_bool (by unfold isVersionB; simp; try omega), by go_grown⟩)
theorem laws_toVersion (a b : Int) (w : World) :
    Calls Try.prog 11 #[.agg #[.int .i64 a, .int .i64 b]] w fun e w' => e = .returned (.agg #[.int .i64 a, .int .i64 b]) ∧ Below w.heap.size w w' := by
  go_enter Try.func11, Try.ntmps11
  go_wp2
  go_returns
  exact ⟨rfl, by go_grown⟩
theorem spec_CompareVersions (a b c d : Int) (w : World) :
    Calls Try.prog 18 #[.agg #[.int .i64 a, .int .i64 b], .agg #[.int .i64 c, .int .i64 d]] w fun e w' => e = .returned (.int .i64 (cmpV a b c d)) ∧ Below w.heap.size w w' := by
  go_enter Try.func18, Try.ntmps18
  go_wp2
  all_goals (go_ret; exact ⟨ret_int (by unfold cmpV; (repeat' split) <;> omega), by go_grown⟩)
theorem impl_CompareVersions (a b c d : Int) (w : World) :
    Calls Try.prog 19 #[.agg #[.int .i64 a, .int .i64 b], .agg #[.int .i64 c, .int .i64 d]] w fun e w' => e = .returned (.int .i64 (cmpV a b c d)) ∧ Below w.heap.size w w' := by
  go_enter Try.func19, Try.ntmps19
  go_wp2
  all_goals (go_ret; exact ⟨ret_int (by unfold cmpV; (repeat' split) <;> omega), by go_grown⟩)
theorem laws_eqVersion (a b c d : Int) (w : World) :
    Calls Try.prog 15 #[.agg #[.int .i64 a, .int .i64 b], .agg #[.int .i64 c, .int .i64 d]] w fun e w' => e = .returned (.bool (decide (a = c ∧ b = d))) ∧ Below w.heap.size w w' := by
  go_enter Try.func15, Try.ntmps15
  go_wp2
  all_goals (go_ret; exact ⟨ret_bool (by simp_all), by go_grown⟩)
theorem spec_Meets (a b c d : Int) (w : World) :
    Calls Try.prog 16 #[.agg #[.int .i64 a, .int .i64 b], .agg #[.int .i64 c, .int .i64 d]] w fun e w' => e = .returned (.bool (decide (a = c ∧ d ≤ b))) ∧ Below w.heap.size w w' := by
  go_enter Try.func16, Try.ntmps16
  go_wp2
  all_goals (go_ret; exact ⟨ret_bool (by simp_all), by go_grown⟩)
theorem impl_Meets (a b c d : Int) (w : World) :
    Calls Try.prog 17 #[.agg #[.int .i64 a, .int .i64 b], .agg #[.int .i64 c, .int .i64 d]] w fun e w' => e = .returned (.bool (decide (a = c ∧ d ≤ b))) ∧ Below w.heap.size w w' := by
  go_enter Try.func17, Try.ntmps17
  by_cases h : a = c
  · subst h
    go_wp2_with (go_at_call 19; refine (impl_CompareVersions _ _ _ _ _).mono ?_; rintro e w1 ⟨rfl, hb⟩)
    all_goals (go_ret; exact ⟨ret_bool (by unfold cmpV; (repeat' split) <;> simp <;> omega), below_two (by simpa using hb)⟩)
  · go_wp2
    all_goals (go_ret; exact ⟨ret_bool (by simp_all), by go_grown⟩)
theorem spec_IsFace (f : Int) (w : World) : Calls Try.prog 28 #[.int .i64 f] w fun e w' => e = .returned (.bool (isFaceB f)) ∧ w = w' := by
  go_enter Try.func28, Try.ntmps28
  go_wp2
  all_goals (go_ret; exact ⟨ret_bool (by unfold isFaceB; simp; try omega), rfl⟩)
theorem impl_IsFace (f : Int) (w : World) : Calls Try.prog 30 #[.int .i64 f] w fun e w' => e = .returned (.bool (isFaceB f)) ∧ w = w' := by
  go_enter Try.func30, Try.ntmps30
  go_wp2
  all_goals (go_ret; exact ⟨ret_bool (by unfold isFaceB; simp; try omega), rfl⟩)
theorem spec_l2Has (n k : Nat) (hk : k < 6) (w : World) :
    Calls Try.prog 32 #[.int .i64 n, .int .i64 k] w fun e w' => e = .returned (.bool (n.testBit k)) ∧ w = w' := by
  go_enter Try.func32, Try.ntmps32
  go_wp2
  go_ret
  exact ⟨ret_bool testBit_tmod, rfl⟩
theorem since_index (k : Nat) (hk : k < 6) (w : World) : (Instr.index 44 (.agg #[.int .i64 1, .int .i64 0, .int .i64 1, .int .i64 0, .int .i64 1, .int .i64 1, .int .i64 1, .int .i64 2, .int .i64 2, .int .i64 0, .int .i64 2, .int .i64 1]) (.int .i64 k)).run Try.prog w = .ok (.agg #[.int .i64 (sinceM k), .int .i64 (sinceN k)]) w := by
  obtain rfl | rfl | rfl | rfl | rfl | rfl : k = 0 ∨ k = 1 ∨ k = 2 ∨ k = 3 ∨ k = 4 ∨ k = 5 := by omega
  all_goals kernel_rfl
theorem impl_SinceOf (k : Nat) (hk : k < 6) (w : World) :
    Calls Try.prog 14 #[.int .i64 k] w fun e w' => e = .returned (.tuple #[.agg #[.int .i64 (sinceM k), .int .i64 (sinceN k)], .bool true]) ∧ Below w.heap.size w w' := by
  have hi := since_index k hk
  go_enter Try.func14, Try.ntmps14
  go_wp2
  go_returns
  exact ⟨rfl, by go_grown⟩
theorem impl_SinceOf_no (k : Int) (hk : k < 0 ∨ 6 ≤ k) (w : World) :
    Calls Try.prog 14 #[.int .i64 k] w fun e w' => e = .returned (.tuple #[.agg #[.int .i64 0, .int .i64 0], .bool false]) ∧ Below w.heap.size w w' := by
  rcases hk with hk | hk
  · go_enter Try.func14, Try.ntmps14
    go_wp2
    all_goals (go_returns; exact ⟨rfl, by go_grown⟩)
  · have hk' : ¬ k < 0 := by omega
    go_enter Try.func14, Try.ntmps14
    go_wp2
    all_goals (go_returns; exact ⟨rfl, by go_grown⟩)
set_option maxHeartbeats 1000000 in
theorem spec_SinceOf_lit (k : Int) (hk : k = 0 ∨ k = 1 ∨ k = 2 ∨ k = 3 ∨ k = 4 ∨ k = 5) (w : World) :
    Calls Try.prog 13 #[.int .i64 k] w fun e w' => e = .returned (.tuple #[.agg #[.int .i64 (sinceM k.toNat), .int .i64 (sinceN k.toNat)], .bool true]) ∧ Below w.heap.size w w' := by
  rcases hk with rfl | rfl | rfl | rfl | rfl | rfl
  all_goals
    go_enter Try.func13, Try.ntmps13
    go_wp2
    go_returns
    exact ⟨rfl, by go_grown⟩
theorem spec_SinceOf (k : Nat) (hk : k < 6) (w : World) :
    Calls Try.prog 13 #[.int .i64 k] w fun e w' => e = .returned (.tuple #[.agg #[.int .i64 (sinceM k), .int .i64 (sinceN k)], .bool true]) ∧ Below w.heap.size w w' := by
  have h := spec_SinceOf_lit k (by omega) w
  rwa [Int.toNat_natCast] at h
theorem spec_SinceOf_no (k : Int) (hk : k < 0 ∨ 6 ≤ k) (w : World) :
    Calls Try.prog 13 #[.int .i64 k] w fun e w' => e = .returned (.tuple #[.agg #[.int .i64 0, .int .i64 0], .bool false]) ∧ Below w.heap.size w w' := by
  rcases hk with hk | hk
  · go_enter Try.func13, Try.ntmps13
    go_wp2
    all_goals (go_returns; exact ⟨rfl, by go_grown⟩)
  · have hk' : ¬ k < 0 := by omega
    go_enter Try.func13, Try.ntmps13
    go_wp2
    all_goals (go_returns; exact ⟨rfl, by go_grown⟩)
end Go.Proofs.Ytjlepakpcclmpaa
