/- The reference's cursor: how it is made. -/
import Derived.Test.YthoafgehfgblaaaBase
import Derived.Test.YthoafgehfgblaaaBUse
namespace Go.Proofs.Ythoafgehfgblaaa
open Go.RowKit
set_option linter.unusedVariables false
set_option linter.unusedSimpArgs false
set_option maxRecDepth 100000
set_option linter.unusedSectionVars false
variable [GC]
def byteAt (rows : List (List D)) (k : Nat) : Int := match rows[k]? with
  | some [.int _ n] => n
  | _ => 0
def seedStep (h c : Int) : Int := bits .and .i64 (wrap64 (wrap64 (wrap64 (h * 167) + c) + 29)) 1073741823
def seedTo (rows : List (List D)) : Nat → Int
  | 0 => wrap64 (739391 + wrap64 (3 * rows.length))
  | k + 1 => seedStep (seedTo rows k) (byteAt rows k)
theorem l1New_walk (rows : List (List D)) (hty : ∀ r ∈ rows, ∃ n, r = [.int .u8 n]) (a : Option Addr) (cap : Nat) (w : World) (hl : rows.length ≤ maxLen) (hr : ∀ k, k < rows.length → ∃ b o, a = some ⟨b, o, none⟩ ∧ w.cell? ⟨b, o + k, none⟩ = some (.int .u8 (byteAt rows k)) ∧ 0 ≤ byteAt rows k ∧ byteAt rows k ≤ 255) :
    Calls Try.prog 49 #[.slice a rows.length cap] w fun e w' => ∃ h : Int, ∃ n : Nat, n = min rows.length 4000 ∧ h = seedTo rows n ∧ e = .returned (.pointer (some ⟨w.heap.size, 0, none⟩)) ∧ w'.heap[w.heap.size]? = some (.cells #[.slice a rows.length cap, .int .i64 0, .int .i64 h] 107 (0, 0)) ∧ Below w.heap.size w w' := by
  go_enter Try.func49, Try.ntmps49
  go_wp2_with fail
  go_loop [3, 4] (fun h i => ∃ k : Nat, k ≤ rows.length ∧ k ≤ 4000 ∧ i = .int .i64 k ∧ h = .int .i64 (seedTo rows k)) (fun _ i => 4001 - (intOf i).toNat)
  case atStart => exact ⟨0, by omega, by omega, rfl, rfl⟩
  case round =>
    obtain ⟨k, hk, hk', rfl, rfl⟩ := hrel
    by_cases hlt : k < rows.length
    · obtain ⟨b, o, rfl, hc, hb⟩ := hr k hlt
      by_cases h4 : k < 4000
      · go_wp2
        exact ⟨⟨k + 1, by omega, by omega, by simp, rfl⟩, by simp [intOf]; omega⟩
      · obtain rfl : k = 4000 := by omega
        go_wp2
        go_ret
        refine ⟨rfl, ?_, by go_grown⟩
        exact heap_alloc_new _ _
    · obtain rfl : k = rows.length := by omega
      go_wp2
      go_ret
      refine ⟨rfl, ?_, by go_grown⟩
      exact heap_alloc_new _ _
theorem seedTo_in (rows : List (List D)) : ∀ n, IntKind.i64.min ≤ seedTo rows n ∧ seedTo rows n ≤ IntKind.i64.max
  | 0 => by
    have e : IntKind.i64.min = -9223372036854775808 ∧ IntKind.i64.max = 9223372036854775807 := by decide
    rw [e.1, e.2]; unfold seedTo wrap64; omega
  | n + 1 => by
    show IntKind.i64.min ≤ IntKind.i64.wrap _ ∧ IntKind.i64.wrap _ ≤ IntKind.i64.max
    exact wrap_within _ _
theorem c_spec_l1New (rows : List (List D)) (hty : ∀ r ∈ rows, ∃ n, r = [.int .u8 n]) : FunN Try.prog 49 [.sl rows] [.sl rows, .int .i64 0, .int .i64 (seedTo rows (min rows.length 4000))] := by
  refine ⟨by kernel_rfl, fun w M vs hM0 hr => ?_⟩
  have hM := hM0.1
  obtain ⟨v, q, rfl, hv, rfl⟩ := hr
  have hv' := hv
  obtain ⟨a, len, cap, rfl, hlen, hlc, hcm, hnone, hcells⟩ := hv
  subst hlen
  refine (l1New_walk rows hty a cap w (by omega) fun k hk => ?_).mono ?_
  · rcases a with _ | ⟨b, o, s⟩
    · have := hnone rfl; omega
    · obtain ⟨hs, hrw⟩ := hcells b o s rfl
      have hs := hs (by omega); subst hs
      have hk' : rows[k]? = some rows[k] := List.getElem?_eq_getElem hk
      obtain ⟨n, hn⟩ := hty rows[k] (List.getElem_mem hk)
      have hg := hrw.get (n := 1) (fun r hr => by obtain ⟨m, rfl⟩ := hty r hr; rfl) hk'
      rw [hn] at hg
      obtain ⟨⟨u, h1, _, h2, h3⟩, _⟩ := hg
      subst h2
      have hb : byteAt rows k = n := by unfold byteAt; rw [hk', hn]
      rw [hb]
      refine ⟨b, o, rfl, by simpa using h1, ?_⟩
      have e : IntKind.u8.min = 0 ∧ IntKind.u8.max = 255 := by decide
      rw [e.1, e.2] at h3; exact h3
  · rintro e w' ⟨h, n, rfl, rfl, rfl, hblk, hb⟩
    refine ⟨w.heap.size, _, _, rfl, Nat.le_refl _, hblk, ?_, hb⟩
    refine ⟨_, _, rfl, R.keep (Keeps.below hb fun p hp h => ?_) _ _ hv', _, _, rfl, ⟨rfl, by decide⟩, _, _, rfl, ⟨rfl, seedTo_in _ _⟩, rfl⟩
    rcases h with h | h
    · exact h
    · omega
end Go.Proofs.Ythoafgehfgblaaa
