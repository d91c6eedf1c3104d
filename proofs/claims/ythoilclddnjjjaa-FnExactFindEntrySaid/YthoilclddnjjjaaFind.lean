/- FindEntry of the program and of the reference. -/
import Derived.Test.YthoilclddnjjjaaData
import Derived.Test.YthoilclddnjjjaaQuiet
import Derived.Test.YthoilclddnjjjaaRow
import Derived.Test.YthoilclddnjjjaaFirstMath
import Derived.OwnWalk
namespace Go.Proofs.Ythoilclddnjjjaa
open Go.RowKit
set_option maxRecDepth 100000
set_option linter.unusedVariables false

def findE (l : List Entry) (nm : ByteArray) : Int := firstAt (fun i => eqB (nth l i).name nm) l.length
theorem impl_FindEntry (l : List Entry) (nm : ByteArray) (a : Option Addr) (len cap : Nat) (w : World) (hl : Sl w (· < w.heap.size) a len cap l) :
    Calls Try.prog 34 #[.slice a len cap, .string nm] w fun e w' => e = .returned (.int .i64 (findE l nm)) ∧ Below w.heap.size w w' := by
  have HL := Lib.hid hl.len_eq
  have hm := hl.2.1
  have hm' := hl.2.2.1
  unfold maxLen at hm'
  go_enter Try.func34, Try.ntmps34
  go_wp2
  go_loopw [9] (fun i wr => Below w.heap.size w wr ∧ ∃ k : Nat, k ≤ len ∧ i = .int .i64 k ∧ ∀ i, i < k → eqB (nth l i).name nm = false) (fun i _ => len - (intOf i).toNat)
  case atStart => exact ⟨Below.refl _ _, 0, by omega, rfl, fun i h => absurd h (by omega)⟩
  case round =>
    obtain ⟨hB, k, hk, rfl, hv⟩ := hrel
    have HV := Lib.hid hv
    clear hv
    have hBs := hB.size
    by_cases hlt : k < len
    · obtain ⟨b, o, a1, n1, c1, a4, n4, c4, rfl, hb, hbs, hc0, hc1, hc2, hc3, hc4, hr⟩ := hl.rEntry hlt
      have he0 := keep_cell hB hc0; have he1 := keep_cell hB hc1; have he2 := keep_cell hB hc2; have he3 := keep_cell hB hc3; have he4 := keep_cell hB hc4
      have hi0 : (0 : Int) ≤ (k : Int) := by omega
      have hi1 : (k : Int) < (len : Int) := by omega
      by_cases hq : eqB (nth l k).name nm = true
      · have hz : ((nth l k).name.toList == nm.toList) = true := by rw [str_eqB]; exact hq
        have HR := Lib.hid (show findE l nm = k from firstAt_some hq HV.out (by rw [← HL.out]; exact hlt))
        go_wp2
        go_ret
        exact ⟨ret_int HR.out.symm, by go_grown⟩
      · have hq' : eqB (nth l k).name nm = false := by simpa using hq
        have hz : ((nth l k).name.toList == nm.toList) = false := by rw [str_eqB]; exact hq'
        have HR := Lib.hid (show ∀ i, i < k + 1 → eqB (nth l i).name nm = false from fun i hi => by
          by_cases e : i = k
          · subst e; exact hq'
          · exact HV.out i (by omega))
        go_wp2
        exact ⟨⟨by go_grown, k + 1, by omega, by go_num, HR.out⟩, by simp [intOf]; omega⟩
    · go_wp2
      go_ret
      obtain rfl : k = len := by omega
      exact ⟨ret_int (by unfold findE; rw [firstAt_none (by rw [← HL.out]; exact HV.out)]), hB⟩

theorem spec_FindEntry (l : List Entry) (nm : ByteArray) (a : Option Addr) (len cap : Nat) (w : World) (hl : Sl w (· < w.heap.size) a len cap l) :
    Calls Try.prog 32 #[.slice a len cap, .string nm] w fun e w' => e = .returned (.int .i64 (findE l nm)) ∧ Below w.heap.size w w' := by
  have HL := Lib.hid hl.len_eq
  have hm := hl.2.1
  have hm' := hl.2.2.1
  unfold maxLen at hm'
  go_enter Try.func32, Try.ntmps32
  go_wp2
  go_loopw [9] (fun i wr => Below w.heap.size w wr ∧ ∃ k : Nat, k ≤ len ∧ i = .int .i64 k ∧ ∀ i, i < k → eqB (nth l i).name nm = false) (fun i _ => len - (intOf i).toNat)
  case atStart => exact ⟨Below.refl _ _, 0, by omega, rfl, fun i h => absurd h (by omega)⟩
  case round =>
    obtain ⟨hB, k, hk, rfl, hv⟩ := hrel
    have HV := Lib.hid hv
    clear hv
    have hBs := hB.size
    by_cases hlt : k < len
    · obtain ⟨b, o, a1, n1, c1, a4, n4, c4, rfl, hb, hbs, hc0, hc1, hc2, hc3, hc4, hr⟩ := hl.rEntry hlt
      have he0 := keep_cell hB hc0; have he1 := keep_cell hB hc1; have he2 := keep_cell hB hc2; have he3 := keep_cell hB hc3; have he4 := keep_cell hB hc4
      have hi0 : (0 : Int) ≤ (k : Int) := by omega
      have hi1 : (k : Int) < (len : Int) := by omega
      by_cases hq : eqB (nth l k).name nm = true
      · have hz : ((nth l k).name.toList == nm.toList) = true := by rw [str_eqB]; exact hq
        have HR := Lib.hid (show findE l nm = k from firstAt_some hq HV.out (by rw [← HL.out]; exact hlt))
        go_wp2
        go_ret
        exact ⟨ret_int HR.out.symm, by go_grown⟩
      · have hq' : eqB (nth l k).name nm = false := by simpa using hq
        have hz : ((nth l k).name.toList == nm.toList) = false := by rw [str_eqB]; exact hq'
        have HR := Lib.hid (show ∀ i, i < k + 1 → eqB (nth l i).name nm = false from fun i hi => by
          by_cases e : i = k
          · subst e; exact hq'
          · exact HV.out i (by omega))
        go_wp2
        exact ⟨⟨by go_grown, k + 1, by omega, by go_num, HR.out⟩, by simp [intOf]; omega⟩
    · go_wp2
      go_ret
      obtain rfl : k = len := by omega
      exact ⟨ret_int (by unfold findE; rw [firstAt_none (by rw [← HL.out]; exact HV.out)]), hB⟩

end Go.Proofs.Ythoilclddnjjjaa
