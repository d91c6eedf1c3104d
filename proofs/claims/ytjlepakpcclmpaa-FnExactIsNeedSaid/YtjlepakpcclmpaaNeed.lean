/- What the program and the reference say of a need. Nothing is assumed but what each theorem says. -/
import Derived.Test.YtjlepakpcclmpaaVer
import Derived.Test.YtjlepakpcclmpaaName
import Derived.Test.YtjlepakpcclmpaaNeedMath
namespace Go.Proofs.Ytjlepakpcclmpaa
open Go.RowKit

theorem data_nil {s : ByteArray} : s.toList = [] ↔ s.data.toList = [] := by
  rw [ByteArray.toList_eq]
/-- What a size counter comes to: never below -1, never above what it was. -/
theorem laws_szNeed (f a b n : Int) (s : ByteArray) (hs : s.size ≤ maxLen) (h0 : 0 ≤ n) (hn : n ≤ 1048576) (w : World) :
    Calls Try.prog 20 #[.agg #[.int .i64 f, .string s, .int .i64 a, .int .i64 b], .int .i64 n] w fun e w' => e = .returned (.int .i64 (if n - (s.size : Int) < 0 then -1 else n - (s.size : Int))) ∧ Below w.heap.size w w' := by
  unfold maxLen at hs
  by_cases h : n - (s.size : Int) < 0
  · go_enter Try.func20, Try.ntmps20
    go_wp2
    go_ret
    exact ⟨rfl, by go_grown⟩
  · go_enter Try.func20, Try.ntmps20
    go_wp2
    go_ret
    exact ⟨rfl, by go_grown⟩
theorem laws_toNeed (f a b : Int) (s : ByteArray) (w : World) :
    Calls Try.prog 22 #[.agg #[.int .i64 f, .string s, .int .i64 a, .int .i64 b]] w fun e w' => e = .returned (.agg #[.int .i64 f, .string s, .int .i64 a, .int .i64 b]) ∧ Below w.heap.size w w' := by
  go_enter Try.func22, Try.ntmps22
  go_wp2_with fail
  refine (laws_toVersion _ _ _).mono ?_; rintro e w1 ⟨rfl, hb1⟩
  obtain ⟨hc1, hf1⟩ := bcell hb1
  simp only [World.size_alloc] at hc1 hf1
  go_wp2_with fail
  have hB : Below w.heap.size w w1 := bt (by go_grown) hb1
  have hr : Blk w1 (w.heap.size + 1) 39 #[.int .i64 0, .string ⟨#[]⟩, .int .i64 0, .int .i64 0] := by
    have h := ((Blk.new (w.alloc _) 39 #[.int .i64 0, .string ⟨#[]⟩, .int .i64 0, .int .i64 0]).alloc _).below hb1 (by simp)
    simpa using h
  refine bodyPost_ret (results_blk rfl _ _ _ rfl ((((((hr.far (p := ⟨w.heap.size + 1 + 1, 2, none⟩) (by simp) (.int .i64 a)).far (p := ⟨w.heap.size + 1 + 1, 3, none⟩) (by simp) (.int .i64 b)).set_ 0 (.int .i64 f)).set_ 1 (.string s)).set_ 2 (.int .i64 a)).set_ 3 (.int .i64 b)) Try.underlying39 rfl (by kernel_rfl)) rfl ?_
  exact ⟨rfl, by go_grown⟩
theorem impl_IsNeed (f a b : Int) (s : ByteArray) (hs : s.size ≤ maxLen) (w : World) :
    Calls Try.prog 23 #[.agg #[.int .i64 f, .string s, .int .i64 a, .int .i64 b]] w fun e w' => e = .returned (.bool (needB f s.data.toList a b)) ∧ Below w.heap.size w w' := by
  by_cases hf : isFaceB f = true
  · by_cases h0 : f = 0
    · subst h0
      go_enter Try.func23, Try.ntmps23
      go_wp2_with ((go_at_call 30; refine (impl_IsFace _ _).mono ?_; rintro e w' ⟨rfl, rfl⟩))
      go_ret
      exact ⟨ret_bool (by simp [needB]), by go_grown⟩
    · have h0' : (f != 0) = true := by simpa using h0
      by_cases hs0 : s.toList = []
      · have hfin : needB f s.data.toList a b = isVersionB a b := by simp [needB, hf, h0, data_nil.1 hs0]
        have HF := Lib.hid hfin
        clear hfin h0
        go_enter Try.func23, Try.ntmps23
        go_wp2_with (first | (go_at_call 30; refine (impl_IsFace _ _).mono ?_; rintro e w' ⟨rfl, rfl⟩) | (go_at_call 12; refine (impl_IsVersion _ _ _).mono ?_; rintro e w1 ⟨rfl, hb1⟩; obtain ⟨hc1, hf1⟩ := bcell hb1; (try simp only [World.size_alloc] at hc1 hf1); (try simp only [World.size_setCell] at hc1 hf1)))
        go_ret
        exact ⟨ret_bool HF.out.symm, below_one (by simpa using hb1)⟩
      · have hs1 : ¬ s.data.toList = [] := fun h => hs0 (data_nil.2 h)
        by_cases hn : nameB s.data.toList = true
        · have hfin : needB f s.data.toList a b = isVersionB a b := by simp [needB, hf, h0, hn]
          have HF := Lib.hid hfin
          clear hfin h0 hs1
          go_enter Try.func23, Try.ntmps23
          go_wp2_with (first | (go_at_call 30; refine (impl_IsFace _ _).mono ?_; rintro e w' ⟨rfl, rfl⟩) | (go_at_call 31; refine (impl_IsName _ hs _).mono ?_; rintro e w' ⟨rfl, rfl⟩) | (go_at_call 12; refine (impl_IsVersion _ _ _).mono ?_; rintro e w1 ⟨rfl, hb1⟩; obtain ⟨hc1, hf1⟩ := bcell hb1; (try simp only [World.size_alloc] at hc1 hf1); (try simp only [World.size_setCell] at hc1 hf1)))
          go_ret
          exact ⟨ret_bool HF.out.symm, below_one (by simpa using hb1)⟩
        · have hn' : nameB s.data.toList = false := by simpa using hn
          have hfin : needB f s.data.toList a b = false := by simp only [needB, hn', hs1, decide_false, Bool.or_false, Bool.and_false, Bool.false_and]
          have HF := Lib.hid hfin
          clear hfin h0 hn hs1
          go_enter Try.func23, Try.ntmps23
          go_wp2_with (first | (go_at_call 30; refine (impl_IsFace _ _).mono ?_; rintro e w' ⟨rfl, rfl⟩) | (go_at_call 31; refine (impl_IsName _ hs _).mono ?_; rintro e w' ⟨rfl, rfl⟩))
          go_ret
          exact ⟨ret_bool HF.out.symm, by go_grown⟩
  · have hf' : isFaceB f = false := by simpa using hf
    go_enter Try.func23, Try.ntmps23
    go_wp2_with ((go_at_call 30; refine (impl_IsFace _ _).mono ?_; rintro e w' ⟨rfl, rfl⟩))
    go_ret
    exact ⟨ret_bool (by simp [needB, hf']), by go_grown⟩
theorem spec_IsNeed (f a b : Int) (s : ByteArray) (hs : s.size ≤ maxLen) (w : World) :
    Calls Try.prog 21 #[.agg #[.int .i64 f, .string s, .int .i64 a, .int .i64 b]] w fun e w' => e = .returned (.bool (needB f s.data.toList a b)) ∧ Below w.heap.size w w' := by
  by_cases hf : isFaceB f = true
  · by_cases h0 : f = 0
    · subst h0
      go_enter Try.func21, Try.ntmps21
      go_wp2_with ((go_at_call 28; refine (spec_IsFace _ _).mono ?_; rintro e w' ⟨rfl, rfl⟩))
      go_ret
      exact ⟨ret_bool (by simp [needB]), by go_grown⟩
    · have h0' : (f != 0) = true := by simpa using h0
      by_cases hs0 : s.toList = []
      · have hfin : needB f s.data.toList a b = isVersionB a b := by simp [needB, hf, h0, data_nil.1 hs0]
        have HF := Lib.hid hfin
        clear hfin h0
        go_enter Try.func21, Try.ntmps21
        go_wp2_with (first | (go_at_call 28; refine (spec_IsFace _ _).mono ?_; rintro e w' ⟨rfl, rfl⟩) | (go_at_call 10; refine (spec_IsVersion _ _ _).mono ?_; rintro e w1 ⟨rfl, hb1⟩; obtain ⟨hc1, hf1⟩ := bcell hb1; (try simp only [World.size_alloc] at hc1 hf1); (try simp only [World.size_setCell] at hc1 hf1)))
        go_ret
        exact ⟨ret_bool HF.out.symm, below_one (by simpa using hb1)⟩
      · have hs1 : ¬ s.data.toList = [] := fun h => hs0 (data_nil.2 h)
        by_cases hn : nameB s.data.toList = true
        · have hfin : needB f s.data.toList a b = isVersionB a b := by simp [needB, hf, h0, hn]
          have HF := Lib.hid hfin
          clear hfin h0 hs1
          go_enter Try.func21, Try.ntmps21
          go_wp2_with (first | (go_at_call 28; refine (spec_IsFace _ _).mono ?_; rintro e w' ⟨rfl, rfl⟩) | (go_at_call 29; refine (spec_IsName _ hs _).mono ?_; rintro e w' ⟨rfl, rfl⟩) | (go_at_call 10; refine (spec_IsVersion _ _ _).mono ?_; rintro e w1 ⟨rfl, hb1⟩; obtain ⟨hc1, hf1⟩ := bcell hb1; (try simp only [World.size_alloc] at hc1 hf1); (try simp only [World.size_setCell] at hc1 hf1)))
          go_ret
          exact ⟨ret_bool HF.out.symm, below_one (by simpa using hb1)⟩
        · have hn' : nameB s.data.toList = false := by simpa using hn
          have hfin : needB f s.data.toList a b = false := by simp only [needB, hn', hs1, decide_false, Bool.or_false, Bool.and_false, Bool.false_and]
          have HF := Lib.hid hfin
          clear hfin h0 hn hs1
          go_enter Try.func21, Try.ntmps21
          go_wp2_with (first | (go_at_call 28; refine (spec_IsFace _ _).mono ?_; rintro e w' ⟨rfl, rfl⟩) | (go_at_call 29; refine (spec_IsName _ hs _).mono ?_; rintro e w' ⟨rfl, rfl⟩))
          go_ret
          exact ⟨ret_bool HF.out.symm, by go_grown⟩
  · have hf' : isFaceB f = false := by simpa using hf
    go_enter Try.func21, Try.ntmps21
    go_wp2_with ((go_at_call 28; refine (spec_IsFace _ _).mono ?_; rintro e w' ⟨rfl, rfl⟩))
    go_ret
    exact ⟨ret_bool (by simp [needB, hf']), by go_grown⟩
end Go.Proofs.Ytjlepakpcclmpaa
