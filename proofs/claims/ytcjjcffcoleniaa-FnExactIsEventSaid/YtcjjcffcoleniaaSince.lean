/- SinceOf of the program and of the reference. Nothing is assumed but what each theorem says. -/
import Derived.Test.YtcjjcffcoleniaaBase
import Derived.Test.YtcjjcffcoleniaaVerMath
namespace Go.Proofs.Ytcjjcffcoleniaa
open Go.RowKit

theorem since_index (k : Nat) (hk : k < 6) (w : World) : (Instr.index 177 (.agg #[.int .i64 1, .int .i64 0, .int .i64 1, .int .i64 0, .int .i64 1, .int .i64 1, .int .i64 1, .int .i64 2, .int .i64 2, .int .i64 0, .int .i64 2, .int .i64 1]) (.int .i64 k)).run Try.prog w = .ok (.agg #[.int .i64 (sinceM k), .int .i64 (sinceN k)]) w := by
  obtain rfl | rfl | rfl | rfl | rfl | rfl : k = 0 ∨ k = 1 ∨ k = 2 ∨ k = 3 ∨ k = 4 ∨ k = 5 := by omega
  all_goals kernel_rfl
theorem impl_SinceOf (k : Nat) (hk : k < 6) (w : World) :
    Calls Try.prog 70 #[.int .i64 k] w fun e w' => e = .returned (.tuple #[.agg #[.int .i64 (sinceM k), .int .i64 (sinceN k)], .bool true]) ∧ Below w.heap.size w w' := by
  have hi := since_index k hk
  go_enter Try.func70, Try.ntmps70
  go_wp2
  go_returns
  exact ⟨rfl, by go_grown⟩
theorem impl_SinceOf_no (k : Int) (hk : k < 0 ∨ 6 ≤ k) (w : World) :
    Calls Try.prog 70 #[.int .i64 k] w fun e w' => e = .returned (.tuple #[.agg #[.int .i64 0, .int .i64 0], .bool false]) ∧ Below w.heap.size w w' := by
  rcases hk with hk | hk
  · go_enter Try.func70, Try.ntmps70
    go_wp2
    all_goals (go_returns; exact ⟨rfl, by go_grown⟩)
  · have hk' : ¬ k < 0 := by omega
    go_enter Try.func70, Try.ntmps70
    go_wp2
    all_goals (go_returns; exact ⟨rfl, by go_grown⟩)
theorem sinceCells_at (k : Nat) (hk : k < 6) : ([.int .i64 1, .int .i64 0, .int .i64 1, .int .i64 0, .int .i64 1, .int .i64 1, .int .i64 1, .int .i64 2, .int .i64 2, .int .i64 0, .int .i64 2, .int .i64 1] : List Value)[k * 2]? = some (.int .i64 (sinceM k)) ∧
    ([.int .i64 1, .int .i64 0, .int .i64 1, .int .i64 0, .int .i64 1, .int .i64 1, .int .i64 1, .int .i64 2, .int .i64 2, .int .i64 0, .int .i64 2, .int .i64 1] : List Value)[k * 2 + 1]? = some (.int .i64 (sinceN k)) := by
  obtain rfl | rfl | rfl | rfl | rfl | rfl : k = 0 ∨ k = 1 ∨ k = 2 ∨ k = 3 ∨ k = 4 ∨ k = 5 := by omega
  all_goals exact ⟨rfl, rfl⟩
theorem spec_SinceOf (k : Nat) (hk : k < 6) (w : World) :
    Calls Try.prog 138 #[.int .i64 k] w fun e w' => e = .returned (.tuple #[.agg #[.int .i64 (sinceM k), .int .i64 (sinceN k)], .bool true]) ∧ Below w.heap.size w w' := by
  obtain ⟨hs0, hs1⟩ := sinceCells_at k hk
  have hk1 : (k : Int) < 6 := by omega
  go_enter Try.func138, Try.ntmps138
  go_wp2
  go_returns
  exact ⟨rfl, by go_grown⟩
theorem spec_SinceOf_no (k : Int) (hk : k < 0 ∨ 6 ≤ k) (w : World) :
    Calls Try.prog 138 #[.int .i64 k] w fun e w' => e = .returned (.tuple #[.agg #[.int .i64 0, .int .i64 0], .bool false]) ∧ Below w.heap.size w w' := by
  rcases hk with hk | hk
  · go_enter Try.func138, Try.ntmps138
    go_wp2
    all_goals (go_returns; exact ⟨rfl, by go_grown⟩)
  · have hk' : ¬ k < 0 := by omega
    go_enter Try.func138, Try.ntmps138
    go_wp2
    all_goals (go_returns; exact ⟨rfl, by go_grown⟩)
end Go.Proofs.Ytcjjcffcoleniaa
