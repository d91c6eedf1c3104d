/- What the program and the reference say of a name: walks over a string. Nothing is assumed but what each theorem says. -/
import Derived.Test.YtjlepakpcclmpaaBase
import Derived.Test.YtjlepakpcclmpaaNameMath
namespace Go.Proofs.Ytjlepakpcclmpaa
open Go.RowKit

theorem spec_l1Letter (n : Int) (f : Bool) (w : World) :
    Calls Try.prog 33 #[.int .u8 n, .bool f] w fun e w' => e = .returned (.bool (letterZ n f)) ∧ w = w' := by
  cases f
  all_goals
    go_enter Try.func33, Try.ntmps33
    go_wp2
    all_goals (go_ret; exact ⟨ret_bool (by unfold letterZ lowZ digZ; simp_all <;> omega), rfl⟩)
theorem len_list (s : ByteArray) : s.data.toList.length = s.size := by simp
theorem nameB_at {s : ByteArray} {k : Nat} (h : nameTo s.data.toList k = true) (hk : k = s.size) : nameB s.data.toList = (decide (0 < s.size) && decide (s.size ≤ 8)) := by
  subst hk
  unfold nameB
  rw [len_list, h, Bool.and_true]
theorem beq_cast_zero (k : Nat) : (((k : Int) == 0) : Bool) = (k == 0) := by
  rw [Bool.eq_iff_iff]; simp
theorem spec_IsName (s : ByteArray) (hs : s.size ≤ maxLen) (w : World) :
    Calls Try.prog 29 #[.string s] w fun e w' => e = .returned (.bool (nameB s.data.toList)) ∧ w = w' := by
  unfold maxLen at hs
  go_enter Try.func29, Try.ntmps29
  go_wp2
  go_loop [3] (fun i => ∃ k : Nat, k ≤ s.size ∧ i = .int .i64 k ∧ nameTo s.data.toList k = true) (fun i => s.size - (intOf i).toNat)
  case atStart => exact ⟨0, Nat.zero_le _, rfl, rfl⟩
  case round =>
    obtain ⟨k, hk, rfl, hn⟩ := hrel
    have HN := Lib.hid hn
    clear hn
    by_cases hlt : k < s.size
    · go_wp2_with ((go_at_call 33; refine (spec_l1Letter _ _ _).mono ?_; rintro e w' ⟨rfl, rfl⟩))
      · go_ret
        have hb : letterZ (s[k].toNat : Int) (k == 0) = false := by
          have h := ‹(!letterZ (s[k].toNat : Int) ((k : Int) == 0)) = true›
          rw [beq_cast_zero] at h; simpa using h
        exact ⟨ret_bool (nameB_no (nameTo_bad hlt hb) (by rw [len_list]; omega)).symm, rfl⟩
      · have hb : letterZ (s[k].toNat : Int) (k == 0) = true := by
          have h := ‹(!letterZ (s[k].toNat : Int) ((k : Int) == 0)) = false›
          rw [beq_cast_zero] at h; simpa using h
        exact ⟨⟨k + 1, by omega, by go_num, nameTo_yes hlt HN.out hb⟩, by simp [intOf]; omega⟩
    · go_wp2
      all_goals
        go_ret
        have e : nameB s.data.toList = (decide (0 < s.size) && decide (s.size ≤ 8)) := nameB_at HN.out (by omega)
        exact ⟨ret_bool (by rw [e, Bool.eq_iff_iff]; simp only [Bool.and_eq_true, decide_eq_true_eq, Bool.false_eq_true, true_iff, false_iff]; omega), rfl⟩
theorem impl_IsName (s : ByteArray) (hs : s.size ≤ maxLen) (w : World) :
    Calls Try.prog 31 #[.string s] w fun e w' => e = .returned (.bool (nameB s.data.toList)) ∧ w = w' := by
  unfold maxLen at hs
  by_cases h0 : s.size < 1
  · go_enter Try.func31, Try.ntmps31
    go_wp2
    all_goals (go_ret; exact ⟨ret_bool (by unfold nameB; simp; omega), rfl⟩)
  by_cases h8 : 8 < s.size
  · go_enter Try.func31, Try.ntmps31
    go_wp2
    all_goals (go_ret; exact ⟨ret_bool (by unfold nameB; simp; omega), rfl⟩)
  have hp : 0 < s.size := by omega
  by_cases hl : lowZ (s[0].toNat : Int) = true
  · have hl' := hl
    unfold lowZ at hl'
    simp at hl'
    obtain ⟨hl1, hl2⟩ := hl'
    have HL := Lib.hid hl
    clear hl
    go_enter Try.func31, Try.ntmps31
    go_wp2
    go_loop [3] (fun i => ∃ k : Nat, k ≤ s.size ∧ i = .int .i64 k ∧ nameTo s.data.toList k = true) (fun i => s.size - (intOf i).toNat)
    case atStart => exact ⟨0, Nat.zero_le _, rfl, rfl⟩
    case round =>
      obtain ⟨k, hk, rfl, hn⟩ := hrel
      have HN := Lib.hid hn
      clear hn
      by_cases hlt : k < s.size
      · have HY : Hid (letterZ (s[k].toNat : Int) false = true → letterZ (s[k].toNat : Int) (k == 0) = true) := Lib.hid (by
          by_cases e : k = 0
          · subst e; intro _; simp [letterZ, HL.out]
          · have : (k == 0) = false := by simpa using e
            rw [this]; exact id)
        have HX : Hid (letterZ (s[k].toNat : Int) false = false → letterZ (s[k].toNat : Int) (k == 0) = false) := Lib.hid (by
          intro h; unfold letterZ at h ⊢; simp at h ⊢; simp [h])
        go_wp2
        all_goals first
          | (go_ret
             have hb : letterZ (s[k].toNat : Int) false = false := by unfold letterZ lowZ digZ; simp; omega
             exact ⟨ret_bool (nameB_no (nameTo_bad hlt (HX.out hb)) (by rw [len_list]; omega)).symm, rfl⟩)
          | (have hb : letterZ (s[k].toNat : Int) false = true := by unfold letterZ lowZ digZ; simp; omega
             exact ⟨⟨k + 1, by omega, by go_num, nameTo_yes hlt HN.out (HY.out hb)⟩, by simp [intOf]; omega⟩)
      · go_wp2
        go_ret
        have e : nameB s.data.toList = (decide (0 < s.size) && decide (s.size ≤ 8)) := nameB_at HN.out (by omega)
        exact ⟨ret_bool (by rw [e, Bool.eq_iff_iff]; simp only [Bool.and_eq_true, decide_eq_true_eq, Bool.false_eq_true, true_iff, false_iff]; omega), rfl⟩
  · have hl' : lowZ (s[0].toNat : Int) = false := by simpa using hl
    have HB := Lib.hid (nameB_no (nameTo_bad (k := 0) hp (by simp [letterZ, hl'])) (by rw [len_list]; omega) : nameB s.data.toList = false)
    have hl2 : (s[0].toNat : Int) < 97 ∨ 122 < (s[0].toNat : Int) := by
      unfold lowZ at hl'; simp at hl'; omega
    clear hl hl'
    rcases hl2 with hl2 | hl2
    · go_enter Try.func31, Try.ntmps31
      go_wp2
      all_goals (go_ret; exact ⟨ret_bool HB.out.symm, rfl⟩)
    · have hl3 : ¬ (s[0].toNat : Int) < 97 := by omega
      go_enter Try.func31, Try.ntmps31
      go_wp2
      all_goals (go_ret; exact ⟨ret_bool HB.out.symm, rfl⟩)
end Go.Proofs.Ytjlepakpcclmpaa
