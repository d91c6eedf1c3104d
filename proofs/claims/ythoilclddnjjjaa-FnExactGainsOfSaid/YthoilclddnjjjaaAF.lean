/- AllowedFace and LeastVersion: the loops over the six abilities, walked. -/
import Derived.Test.YthoilclddnjjjaaVer
import Derived.Test.YthoilclddnjjjaaSince
import Derived.StillTailTactics
namespace Go.Proofs.Ythoilclddnjjjaa
open Go.RowKit
set_option maxRecDepth 100000

theorem or_step {a b : Int} {k : Nat} (hk : k < 6) : bits .or .i64 (afN a b k : Int) (wrap64 (2 ^ k)) = ((afN a b k + 2 ^ k : Nat) : Int) := by
  have h1 := afN_lt a b k
  have h2 : (2 : Nat) ^ k ≤ 2 ^ 5 := Nat.pow_le_pow_right (by omega) (by omega)
  have e : (wrap64 (2 ^ k) : Int) = ((2 ^ k : Nat) : Int) := by
    have e0 : (2 : Int) ^ k = ((2 ^ k : Nat) : Int) := by simp
    rw [e0, wrap64_small (by omega) (by omega)]
  rw [e, i64_or_nat _ _ (by omega) (by omega), afN_or]

theorem impl_AllowedFace (a b : Int) (w : World) :
    Calls Try.prog 28 #[.agg #[.int .i64 a, .int .i64 b]] w fun e w' => e = .returned (.int .i64 (afZ a b)) ∧ Below w.heap.size w w' := by
  by_cases hv : isVersionB a b = true
  · go_enter Try.func28, Try.ntmps28
    go_wp2_with (go_at_call 26; refine (impl_IsVersion _ _ _).mono ?_; rintro e w1 ⟨rfl, hb⟩)
    go_loopw [3, 10] (fun o i wr => Below (w.heap.size + 1) (w.alloc (.cells #[.int .i64 a, .int .i64 b] 25)) wr ∧ ∃ k : Nat, k ≤ 6 ∧ i = .int .i64 k ∧ o = .int .i64 (afN a b k)) (fun _ i _ => 6 - (intOf i).toNat)
    case atStart => exact ⟨by simpa using hb, 0, by omega, rfl, rfl⟩
    case round =>
      obtain ⟨hbr, k, hk, rfl, rfl⟩ := hrel
      have hc0 : wr.cell? ⟨w.heap.size, 0, none⟩ = some (.int .i64 a) := by rw [hbr.cell (by simp)]; simp
      have hc1 : wr.cell? ⟨w.heap.size, 1, none⟩ = some (.int .i64 b) := by rw [hbr.cell (by simp)]; simp
      have hz : w.heap.size < wr.heap.size := by have := hbr.size; simp at this; omega
      by_cases hlt : k < 6
      · go_wp2_with (first | (go_at_call 58; refine (impl_SinceOf _ (by omega) _).mono ?_; rintro e w1 ⟨rfl, hb1⟩; obtain ⟨hc1, hf1⟩ := bcell hb1; have hz1 : w.heap.size < w1.heap.size := by have := hb1.size; omega) | (go_at_call 29; refine (impl_CompareVersions _ _ _ _ _).mono ?_; rintro e w2 ⟨rfl, hb2⟩))
        · exact ⟨⟨below_then1 (below_then hbr hb1 (by omega)) hb2 (by omega), k + 1, by omega, by go_num, by rw [or_step hlt, afN_yes (by simpa [allows] using ‹_›)]⟩, by simp [intOf]; omega⟩
        · exact ⟨⟨below_then1 (below_then hbr hb1 (by omega)) hb2 (by omega), k + 1, by omega, by go_num, by rw [afN_no (by simpa [allows] using ‹_›)]⟩, by simp [intOf]; omega⟩
      · go_wp2
        go_ret
        obtain rfl : k = 6 := by omega
        exact ⟨ret_int (by simp [afZ, hv]), below_one hbr⟩
  · have hv' : isVersionB a b = false := by simpa using hv
    clear hv
    go_enter Try.func28, Try.ntmps28
    go_wp2_with (go_at_call 26; refine (impl_IsVersion _ _ _).mono ?_; rintro e w1 ⟨rfl, hb⟩)
    go_returns
    exact ⟨ret_int (by simp [afZ, hv']), below_one (by simpa using hb)⟩
theorem add_step {a b : Int} {k : Nat} (hk : k < 6) : wrap64 ((afN a b k : Int) + wrap64 (2 ^ k)) = ((afN a b k + 2 ^ k : Nat) : Int) := by
  have h1 := afN_lt a b k
  have h2 : (2 : Nat) ^ k ≤ 2 ^ 5 := Nat.pow_le_pow_right (by omega) (by omega)
  have e0 : (2 : Int) ^ k = ((2 ^ k : Nat) : Int) := by simp
  rw [e0, wrap64_small (n := ((2 ^ k : Nat) : Int)) (by omega) (by omega), wrap64_small (by omega) (by omega)]
  omega
theorem spec_AllowedFace (a b : Int) (w : World) :
    Calls Try.prog 48 #[.agg #[.int .i64 a, .int .i64 b]] w fun e w' => e = .returned (.int .i64 (afZ a b)) ∧ Below w.heap.size w w' := by
  by_cases hv : isVersionB a b = true
  · go_enter Try.func48, Try.ntmps48
    go_wp2
    go_loopw [3, 4] (fun o i wr => Below (w.heap.size + 1) (w.alloc (.cells #[.int .i64 a, .int .i64 b] 25)) wr ∧ ∃ k : Nat, k ≤ 6 ∧ i = .int .i64 k ∧ o = .int .i64 (afN a b k)) (fun _ i _ => 6 - (intOf i).toNat)
    case atStart => exact ⟨Below.refl _ _, 0, by omega, rfl, rfl⟩
    case round =>
      obtain ⟨hbr, k, hk, rfl, rfl⟩ := hrel
      have hc0 : wr.cell? ⟨w.heap.size, 0, none⟩ = some (.int .i64 a) := by rw [hbr.cell (by simp)]; simp
      have hc1 : wr.cell? ⟨w.heap.size, 1, none⟩ = some (.int .i64 b) := by rw [hbr.cell (by simp)]; simp
      have hz : w.heap.size < wr.heap.size := by have := hbr.size; simp at this; omega
      by_cases hlt : k < 6
      · go_wp2_with (first | (go_at_call 50; refine (spec_IsVersion _ _ _).mono ?_; rintro e w4 ⟨rfl, hb4⟩; obtain ⟨hc4, hf4⟩ := bcell hb4; (try simp only [World.size_alloc] at hc4 hf4); (try simp only [World.size_setCell] at hc4 hf4); have hz4 : w.heap.size < w4.heap.size := (by have := hb4.size; (try simp only [World.size_alloc] at this) <;> (try simp only [World.size_setCell] at this) <;> omega)) | (go_at_call 59; refine (spec_SinceOf _ (by omega) _).mono ?_; rintro e w5 ⟨rfl, hb5⟩; obtain ⟨hc5, hf5⟩ := bcell hb5; (try simp only [World.size_alloc] at hc5 hf5); (try simp only [World.size_setCell] at hc5 hf5); have hz5 : w.heap.size < w5.heap.size := (by have := hb5.size; (try simp only [World.size_alloc] at this) <;> (try simp only [World.size_setCell] at this) <;> omega)) | (go_at_call 51; refine (spec_CompareVersions _ _ _ _ _).mono ?_; rintro e w6 ⟨rfl, hb6⟩; obtain ⟨hc6, hf6⟩ := bcell hb6; (try simp only [World.size_alloc] at hc6 hf6); (try simp only [World.size_setCell] at hc6 hf6)))
        · exact ⟨⟨below_then1 (below_then (below_then hbr hb4 (by omega)) hb5 (by omega)) hb6 (by omega), k + 1, by omega, by go_num, by rw [add_step hlt, afN_yes (by simpa [allows] using ‹_›)]⟩, by simp [intOf]; omega⟩
        · exact ⟨⟨below_then1 (below_then (below_then hbr hb4 (by omega)) hb5 (by omega)) hb6 (by omega), k + 1, by omega, by go_num, by rw [afN_no (by simpa [allows] using ‹_›)]⟩, by simp [intOf]; omega⟩
      · go_wp2
        go_ret
        obtain rfl : k = 6 := by omega
        exact ⟨ret_int (by simp [afZ, hv]), below_one hbr⟩
  · have hv' : isVersionB a b = false := by simpa using hv
    clear hv
    go_enter Try.func48, Try.ntmps48
    go_wp2
    refine wp_loop_once ?_
    go_wp2_with (go_at_call 50; refine (spec_IsVersion _ _ _).mono ?_; rintro e w1 ⟨rfl, hb⟩)
    go_ret
    exact ⟨ret_int (by simp [afZ, hv']), below_one (by simpa using hb)⟩
theorem and_bit {n k : Nat} (hn : n < 64) : bits .and .i64 ((n : Int) / 2 ^ k) 1 = if n.testBit k then 1 else 0 := by
  have e : (n : Int) / 2 ^ k = ((n / 2 ^ k : Nat) : Int) := by simp
  have h2 : n / 2 ^ k ≤ n := Nat.div_le_self _ _
  rw [e, show (1 : Int) = ((1 : Nat) : Int) from rfl, i64_and_nat _ _ (by omega) (by omega), and_one, ← testBit_div]
  rcases Nat.mod_two_eq_zero_or_one (n / 2 ^ k) with h | h <;> simp [h]

theorem impl_LeastVersion (n : Nat) (hn : n < 64) (w : World) :
    Calls Try.prog 23 #[.int .i64 n] w fun e w' => e = .returned (.tuple #[.agg #[.int .i64 (lvN n 6).1, .int .i64 (lvN n 6).2], .bool true]) ∧ Below w.heap.size w w' := by
  have hf : isFaceB n = true := by unfold isFaceB; simp; omega
  go_enter Try.func23, Try.ntmps23
  go_wp2_with (go_at_call 25; refine (impl_IsFace _ _).mono ?_; rintro e w1 ⟨rfl, rfl⟩)
  go_loopw [12] (fun i wr => Below (w.heap.size + 1) (w.alloc (.cells #[.int .i64 0, .int .i64 0] 25)) wr ∧ ∃ k : Nat, k ≤ 6 ∧ i = .int .i64 k ∧ Blk wr (w.heap.size + 1) 25 #[.int .i64 (lvN n k).1, .int .i64 (lvN n k).2]) (fun i _ => 6 - (intOf i).toNat)
  case atStart => exact ⟨(Below.refl _ _).alloc (by simp) _, 0, by omega, rfl, by simpa [lvN] using Blk.new (w.alloc (.cells #[.int .i64 0, .int .i64 0] 25)) 25 #[.int .i64 0, .int .i64 0]⟩
  case round =>
    obtain ⟨hbr, k, hk, rfl, hbk⟩ := hrel
    have hk0 := hbk; have hk0_0 := hk0.cell 0; have hk0_f0 := hk0.frozen 0; have hk0_1 := hk0.cell 1; have hk0_f1 := hk0.frozen 1; simp at hk0_0 hk0_1
    have hz := hbk.lt
    by_cases hlt : k < 6
    · have hab := and_bit (k := k) hn
      by_cases ht : n.testBit k = true
      · rw [if_pos ht] at hab
        go_wp2_with (first | (go_at_call 58; refine (impl_SinceOf _ (by omega) _).mono ?_; rintro e w3 ⟨rfl, hb3⟩; obtain ⟨hc3, hf3⟩ := bcell hb3; (try simp only [World.size_alloc] at hc3 hf3); (try simp only [World.size_setCell] at hc3 hf3); have hz3 : w.heap.size + 1 < w3.heap.size := (by have := hb3.size; (try simp only [World.size_alloc] at this) <;> (try simp only [World.size_setCell] at this) <;> omega)) | (go_at_call 29; refine (impl_CompareVersions _ _ _ _ _).mono ?_; rintro e w4 ⟨rfl, hb4⟩; obtain ⟨hc4, hf4⟩ := bcell hb4; (try simp only [World.size_alloc] at hc4 hf4); (try simp only [World.size_setCell] at hc4 hf4); have hz4 : w.heap.size + 1 < w4.heap.size := (by have := hb4.size; (try simp only [World.size_alloc] at this) <;> (try simp only [World.size_setCell] at this) <;> omega); have hz4b : w3.heap.size < w4.heap.size := (by have := hb4.size; (try simp only [World.size_alloc] at this) <;> (try simp only [World.size_setCell] at this) <;> omega); have hq := ((hbk.below hb3 hz).alloc (.cells #[.int .i64 (sinceM k), .int .i64 (sinceN k)] 25)).below hb4 (by rw [World.size_alloc]; omega); have hq_0 := hq.cell 0; have hq_f0 := hq.frozen 0; have hq_1 := hq.cell 1; have hq_f1 := hq.frozen 1; simp at hq_0 hq_1))
        · have h1 := below_then1 (below_then hbr hb3 (by omega)) hb4 (by omega)
          have h2 := ((((hbk.below hb3 hz).alloc _).below hb4 (by simp; omega)).set_ 0 (.int .i64 (sinceM k))).set_ 1 (.int .i64 (sinceN k))
          exact ⟨⟨(h1.setCell (p := ⟨w.heap.size + 1, 0, none⟩) (by simp) _).setCell (p := ⟨w.heap.size + 1, 1, none⟩) (by simp) _, k + 1, by omega, by go_num, by rw [lvN_yes ht ‹_›]; simpa using h2⟩, by simp [intOf]; omega⟩
        · have h1 := below_then1 (below_then hbr hb3 (by omega)) hb4 (by omega)
          have h2 := (((hbk.below hb3 hz).alloc _).below hb4 (by simp; omega))
          exact ⟨⟨h1, k + 1, by omega, by go_num, by rw [lvN_no' ‹_›]; exact h2⟩, by simp [intOf]; omega⟩
      · have ht' : n.testBit k = false := by simpa using ht
        rw [if_neg ht] at hab
        go_wp2_with (first | (go_at_call 58; refine (impl_SinceOf _ (by omega) _).mono ?_; rintro e w3 ⟨rfl, hb3⟩; obtain ⟨hc3, hf3⟩ := bcell hb3; (try simp only [World.size_alloc] at hc3 hf3); (try simp only [World.size_setCell] at hc3 hf3); have hz3 : w.heap.size + 1 < w3.heap.size := (by have := hb3.size; (try simp only [World.size_alloc] at this) <;> (try simp only [World.size_setCell] at this) <;> omega)))
        have h1 := below_then hbr hb3 (by omega)
        have h2 := ((hbk.below hb3 hz).alloc (.cells #[.int .i64 (sinceM k), .int .i64 (sinceN k)] 25))
        exact ⟨⟨h1.alloc (by omega) _, k + 1, by omega, by go_num, by rw [lvN_no ht']; exact h2⟩, by simp [intOf]; omega⟩
    · have hlt' : ¬ ((k : Int) < 6) := by omega
      have hr0 := (Blk.new w 25 #[.int .i64 0, .int .i64 0]).below hbr (Nat.lt_succ_self _); have hr0_0 := hr0.cell 0; have hr0_f0 := hr0.frozen 0; have hr0_1 := hr0.cell 1; have hr0_f1 := hr0.frozen 1; simp at hr0_0 hr0_1
      go_wp2
      obtain rfl : k = 6 := by omega
      refine bodyPost_ret (results_blk_tmp rfl _ _ _ rfl ((hr0.set_ 0 (.int .i64 (lvN n 6).1)).set_ 1 (.int .i64 (lvN n 6).2)) Try.underlying25 rfl (by kernel_rfl)) rfl ?_
      exact ⟨rfl, (((below_one hbr)).setCell (p := ⟨w.heap.size, 0, none⟩) (by simp) _).setCell (p := ⟨w.heap.size, 1, none⟩) (by simp) _⟩
theorem impl_LeastVersion_no (f : Int) (hf : isFaceB f = false) (w : World) :
    Calls Try.prog 23 #[.int .i64 f] w fun e w' => e = .returned (.tuple #[.agg #[.int .i64 0, .int .i64 0], .bool false]) ∧ Below w.heap.size w w' := by
  go_enter Try.func23, Try.ntmps23
  go_wp2_with ((go_at_call 25; refine (impl_IsFace _ _).mono ?_; rintro e w' ⟨rfl, rfl⟩))
  go_returns
  exact ⟨rfl, by go_grown⟩

theorem spec_LeastVersion (n : Nat) (hn : n < 64) (w : World) :
    Calls Try.prog 24 #[.int .i64 n] w fun e w' => e = .returned (.tuple #[.agg #[.int .i64 (lvN n 6).1, .int .i64 (lvN n 6).2], .bool true]) ∧ Below w.heap.size w w' := by
  have hf : isFaceB n = true := by unfold isFaceB; simp; omega
  go_enter Try.func24, Try.ntmps24
  go_wp2
  go_loopw [5] (fun i wr => Below (w.heap.size + 1) (w.alloc (.cells #[.int .i64 0, .int .i64 0] 25)) wr ∧ ∃ k : Nat, k ≤ 6 ∧ i = .int .i64 k ∧ Blk wr (w.heap.size + 1) 25 #[.int .i64 (lvN n k).1, .int .i64 (lvN n k).2]) (fun i _ => 6 - (intOf i).toNat)
  case atStart => exact ⟨(Below.refl _ _).alloc (by simp) _, 0, by omega, rfl, by simpa [lvN] using Blk.new (w.alloc (.cells #[.int .i64 0, .int .i64 0] 25)) 25 #[.int .i64 0, .int .i64 0]⟩
  case round =>
    obtain ⟨hbr, k, hk, rfl, hbk⟩ := hrel
    have hk0 := hbk; have hk0_0 := hk0.cell 0; have hk0_f0 := hk0.frozen 0; have hk0_1 := hk0.cell 1; have hk0_f1 := hk0.frozen 1; simp at hk0_0 hk0_1
    have hz := hbk.lt
    by_cases hlt : k < 6
    · by_cases ht : n.testBit k = true
      · go_wp2_with (first | (go_at_call 52; refine (spec_IsFace _ _).mono ?_; rintro e w' ⟨rfl, rfl⟩) | (go_at_call 60; refine (spec_l2Has _ _ hlt _).mono ?_; rintro e w' ⟨rfl, rfl⟩) | (go_at_call 59; refine (spec_SinceOf _ (by omega) _).mono ?_; rintro e w3 ⟨rfl, hb3⟩; obtain ⟨hc3, hf3⟩ := bcell hb3; (try simp only [World.size_alloc] at hc3 hf3); (try simp only [World.size_setCell] at hc3 hf3); have hz3 : w.heap.size + 1 < w3.heap.size := (by have := hb3.size; (try simp only [World.size_alloc] at this) <;> (try simp only [World.size_setCell] at this) <;> omega)) | (go_at_call 51; refine (spec_CompareVersions _ _ _ _ _).mono ?_; rintro e w4 ⟨rfl, hb4⟩; obtain ⟨hc4, hf4⟩ := bcell hb4; (try simp only [World.size_alloc] at hc4 hf4); (try simp only [World.size_setCell] at hc4 hf4); have hz4 : w.heap.size + 1 < w4.heap.size := (by have := hb4.size; (try simp only [World.size_alloc] at this) <;> (try simp only [World.size_setCell] at this) <;> omega); have hz4b : w3.heap.size < w4.heap.size := (by have := hb4.size; (try simp only [World.size_alloc] at this) <;> (try simp only [World.size_setCell] at this) <;> omega); have hq := ((hbk.below hb3 hz).alloc (.cells #[.int .i64 (sinceM k), .int .i64 (sinceN k)] 25)).below hb4 (by rw [World.size_alloc]; omega); have hq_0 := hq.cell 0; have hq_f0 := hq.frozen 0; have hq_1 := hq.cell 1; have hq_f1 := hq.frozen 1; simp at hq_0 hq_1))
        · have h1 := below_then1 (below_then hbr hb3 (by omega)) hb4 (by omega)
          have h2 := ((((hbk.below hb3 hz).alloc _).below hb4 (by simp; omega)).set_ 0 (.int .i64 (sinceM k))).set_ 1 (.int .i64 (sinceN k))
          exact ⟨⟨(h1.setCell (p := ⟨w.heap.size + 1, 0, none⟩) (by simp) _).setCell (p := ⟨w.heap.size + 1, 1, none⟩) (by simp) _, k + 1, by omega, by go_num, by rw [lvN_yes ht ‹_›]; simpa using h2⟩, by simp [intOf]; omega⟩
        · have h1 := below_then1 (below_then hbr hb3 (by omega)) hb4 (by omega)
          have h2 := (((hbk.below hb3 hz).alloc _).below hb4 (by simp; omega))
          exact ⟨⟨h1, k + 1, by omega, by go_num, by rw [lvN_no' ‹_›]; exact h2⟩, by simp [intOf]; omega⟩
      · have ht' : n.testBit k = false := by simpa using ht
        clear ht
        go_wp2_with (first | (go_at_call 52; refine (spec_IsFace _ _).mono ?_; rintro e w' ⟨rfl, rfl⟩) | (go_at_call 60; refine (spec_l2Has _ _ hlt _).mono ?_; rintro e w' ⟨rfl, rfl⟩) | (go_at_call 59; refine (spec_SinceOf _ (by omega) _).mono ?_; rintro e w3 ⟨rfl, hb3⟩; obtain ⟨hc3, hf3⟩ := bcell hb3; (try simp only [World.size_alloc] at hc3 hf3); (try simp only [World.size_setCell] at hc3 hf3); have hz3 : w.heap.size + 1 < w3.heap.size := (by have := hb3.size; (try simp only [World.size_alloc] at this) <;> (try simp only [World.size_setCell] at this) <;> omega)))
        have h1 := below_then hbr hb3 (by omega)
        have h2 := ((hbk.below hb3 hz).alloc (.cells #[.int .i64 (sinceM k), .int .i64 (sinceN k)] 25))
        exact ⟨⟨h1.alloc (by omega) _, k + 1, by omega, by go_num, by rw [lvN_no ht']; exact h2⟩, by simp [intOf]; omega⟩
    · have hlt' : ¬ ((k : Int) < 6) := by omega
      have hr0 := (Blk.new w 25 #[.int .i64 0, .int .i64 0]).below hbr (Nat.lt_succ_self _); have hr0_0 := hr0.cell 0; have hr0_f0 := hr0.frozen 0; have hr0_1 := hr0.cell 1; have hr0_f1 := hr0.frozen 1; simp at hr0_0 hr0_1
      go_wp2_with ((go_at_call 52; refine (spec_IsFace _ _).mono ?_; rintro e w' ⟨rfl, rfl⟩))
      (refine region_still_tail 3 (by kernel_rfl) (by kernel_rfl) ?_; simp only [List.take_succ_cons, List.take_zero, List.drop_succ_cons, List.drop_zero]; (repeat still_step)); still_call (still_of (spec_IsFace _ _)); (repeat still_step); refine wpStill_nil ?_
      go_wp2
      obtain rfl : k = 6 := by omega
      refine bodyPost_ret (results_blk_tmp rfl _ _ _ rfl ((hr0.set_ 0 (.int .i64 (lvN n 6).1)).set_ 1 (.int .i64 (lvN n 6).2)) Try.underlying25 rfl (by kernel_rfl)) rfl ?_
      exact ⟨by simp [hf], (((below_one hbr)).setCell (p := ⟨w.heap.size, 0, none⟩) (by simp) _).setCell (p := ⟨w.heap.size, 1, none⟩) (by simp) _ |>.drew⟩
theorem spec_LeastVersion_no (f : Int) (hf : isFaceB f = false) (w : World) :
    Calls Try.prog 24 #[.int .i64 f] w fun e w' => e = .returned (.tuple #[.agg #[.int .i64 0, .int .i64 0], .bool false]) ∧ Below w.heap.size w w' := by
  go_enter Try.func24, Try.ntmps24
  go_wp2
  refine wp_loop_once ?_
  go_wp2_with ((go_at_call 52; refine (spec_IsFace _ _).mono ?_; rintro e w' ⟨rfl, rfl⟩))
  (refine region_still_tail 3 (by kernel_rfl) (by kernel_rfl) ?_; simp only [List.take_succ_cons, List.take_zero, List.drop_succ_cons, List.drop_zero]; (repeat still_step)); still_call (still_of (spec_IsFace _ _)); (repeat still_step); refine wpStill_nil ?_
  go_wp2
  go_returns
  exact ⟨by simp [hf], by go_grown⟩
end Go.Proofs.Ythoilclddnjjjaa
