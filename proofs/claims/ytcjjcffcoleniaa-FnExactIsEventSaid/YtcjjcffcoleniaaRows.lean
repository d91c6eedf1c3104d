/-
  No cell of these rows narrows 'for every input' (looked for: loops, veiled, ifaces, maps, wideKeys, modest, calm, conditions, laid).
  DERIVED. THE GIVEN ROWS OF THIS SEAT. 12 by the template 'for every input the law returns true; each argument reads behind the call as it read before'; 0 by the template 'total and deterministic' (their statements: YtcjjcffcoleniaaTotals.lean).
  GIVEN WITH THE SEED: the statements are not yours to turn. If you find one false, say at which input.
  Laid BY PROGRAM, IN A SANDBOX (cutbox-rows.mjs): the forced cells as the released guide's own fill.sh prints them over the translation 2f4157d22e9cc2e5… (all of the seat's roots in one cut). By AI agents, Wed Nov 11 2026. No macro, syntax, notation, axiom, sorry.
-/
import Derived.Test.YtcjjcffcoleniaaChecked
import GoSem.Claim
import GoSem.ClaimJoined
import GoSem.ClaimMapViews
import Derived.JoinedTies
import Derived.KernelRfl
namespace Go.Proofs.Ytcjjcffcoleniaa
/- THE CELL 'sum', in the pinned program and in every row, IS THE sha256 OF THE DUMP (.gsa) THAT YtcjjcffcoleniaaProg.lean LOADS. Nothing in Lean hashes anything: it is a label: what it is worth is what the hold of that sum in a sandbox is worth. -/
noncomputable def Try.pinned : Pinned := { name := "ytcjjcffcoleniaa", sum := "2f4157d22e9cc2e531f0d2fa98641fa4ea3ef6f02f3555a20599fe8599986d1f", checked := Try.checked }
namespace Rows
def none {H : Type} : Left H := { results := [], args := [] }

/-- 'laws.FnDeal': WHATEVER THE INPUT: true; the input reads as it did. -/
def fnDealSpec : ChangeSpec := { name := "fnDeal", fn := fun _ => fun
  | [d] => { results := [.lit (.bool true)], args := [d] }
  | _ => none }
def fnDealRow : OpenClaim := { program := "ytcjjcffcoleniaa", sum := "2f4157d22e9cc2e531f0d2fa98641fa4ea3ef6f02f3555a20599fe8599986d1f", func := "loop.example/g03016/laws.FnDeal", spec := "fnDeal", apart := false }
def FnDealSaid : Prop := fnDealRow.holds Try.pinned (OpenSpec.ofChange fnDealSpec)

/-- ITS FALSE NEIGHBOUR: 'it returns false'. Refute it at one input. -/
def fnDealWrong : ChangeSpec := { name := "fnDeal", fn := fun _ => fun
  | [d] => { results := [.lit (.bool false)], args := [d] }
  | _ => none }
def FnDealWrongFalsely : Prop := fnDealRow.holds Try.pinned (OpenSpec.ofChange fnDealWrong)

/-- 'laws.FnDealMore': WHATEVER THE INPUT: true; the input reads as it did. -/
def fnDealMoreSpec : ChangeSpec := { name := "fnDealMore", fn := fun _ => fun
  | [d] => { results := [.lit (.bool true)], args := [d] }
  | _ => none }
def fnDealMoreRow : OpenClaim := { program := "ytcjjcffcoleniaa", sum := "2f4157d22e9cc2e531f0d2fa98641fa4ea3ef6f02f3555a20599fe8599986d1f", func := "loop.example/g03016/laws.FnDealMore", spec := "fnDealMore", apart := false }
def FnDealMoreSaid : Prop := fnDealMoreRow.holds Try.pinned (OpenSpec.ofChange fnDealMoreSpec)

/-- ITS FALSE NEIGHBOUR: 'it returns false'. Refute it at one input. -/
def fnDealMoreWrong : ChangeSpec := { name := "fnDealMore", fn := fun _ => fun
  | [d] => { results := [.lit (.bool false)], args := [d] }
  | _ => none }
def FnDealMoreWrongFalsely : Prop := fnDealMoreRow.holds Try.pinned (OpenSpec.ofChange fnDealMoreWrong)

/-- 'laws.FnExactNegotiate': WHATEVER THE INPUT: true; the input reads as it did. -/
def fnExactNegotiateSpec : ChangeSpec := { name := "fnExactNegotiate", fn := fun _ => fun
  | [d1, d2] => { results := [.lit (.bool true)], args := [d1, d2] }
  | _ => none }
def fnExactNegotiateRow : OpenClaim := { program := "ytcjjcffcoleniaa", sum := "2f4157d22e9cc2e531f0d2fa98641fa4ea3ef6f02f3555a20599fe8599986d1f", func := "loop.example/g03016/laws.FnExactNegotiate", spec := "fnExactNegotiate", apart := false }
def FnExactNegotiateSaid : Prop := fnExactNegotiateRow.holds Try.pinned (OpenSpec.ofChange fnExactNegotiateSpec)

/-- ITS FALSE NEIGHBOUR: 'it returns false'. Refute it at one input. -/
def fnExactNegotiateWrong : ChangeSpec := { name := "fnExactNegotiate", fn := fun _ => fun
  | [d1, d2] => { results := [.lit (.bool false)], args := [d1, d2] }
  | _ => none }
def FnExactNegotiateWrongFalsely : Prop := fnExactNegotiateRow.holds Try.pinned (OpenSpec.ofChange fnExactNegotiateWrong)

/-- 'laws.FnDealSides': WHATEVER THE INPUT: true; the input reads as it did. -/
def fnDealSidesSpec : ChangeSpec := { name := "fnDealSides", fn := fun _ => fun
  | [d] => { results := [.lit (.bool true)], args := [d] }
  | _ => none }
def fnDealSidesRow : OpenClaim := { program := "ytcjjcffcoleniaa", sum := "2f4157d22e9cc2e531f0d2fa98641fa4ea3ef6f02f3555a20599fe8599986d1f", func := "loop.example/g03016/laws.FnDealSides", spec := "fnDealSides", apart := false }
def FnDealSidesSaid : Prop := fnDealSidesRow.holds Try.pinned (OpenSpec.ofChange fnDealSidesSpec)

/-- ITS FALSE NEIGHBOUR: 'it returns false'. Refute it at one input. -/
def fnDealSidesWrong : ChangeSpec := { name := "fnDealSides", fn := fun _ => fun
  | [d] => { results := [.lit (.bool false)], args := [d] }
  | _ => none }
def FnDealSidesWrongFalsely : Prop := fnDealSidesRow.holds Try.pinned (OpenSpec.ofChange fnDealSidesWrong)

/-- 'laws.FnExactNegotiateAll': WHATEVER THE INPUT: true; the input reads as it did. -/
def fnExactNegotiateAllSpec : ChangeSpec := { name := "fnExactNegotiateAll", fn := fun _ => fun
  | [d] => { results := [.lit (.bool true)], args := [d] }
  | _ => none }
def fnExactNegotiateAllRow : OpenClaim := { program := "ytcjjcffcoleniaa", sum := "2f4157d22e9cc2e531f0d2fa98641fa4ea3ef6f02f3555a20599fe8599986d1f", func := "loop.example/g03016/laws.FnExactNegotiateAll", spec := "fnExactNegotiateAll", apart := false }
def FnExactNegotiateAllSaid : Prop := fnExactNegotiateAllRow.holds Try.pinned (OpenSpec.ofChange fnExactNegotiateAllSpec)

/-- ITS FALSE NEIGHBOUR: 'it returns false'. Refute it at one input. -/
def fnExactNegotiateAllWrong : ChangeSpec := { name := "fnExactNegotiateAll", fn := fun _ => fun
  | [d] => { results := [.lit (.bool false)], args := [d] }
  | _ => none }
def FnExactNegotiateAllWrongFalsely : Prop := fnExactNegotiateAllRow.holds Try.pinned (OpenSpec.ofChange fnExactNegotiateAllWrong)

/-- 'laws.FnExactIsEntry': WHATEVER THE INPUT: true; the input reads as it did. -/
def fnExactIsEntrySpec : ChangeSpec := { name := "fnExactIsEntry", fn := fun _ => fun
  | [d] => { results := [.lit (.bool true)], args := [d] }
  | _ => none }
def fnExactIsEntryRow : OpenClaim := { program := "ytcjjcffcoleniaa", sum := "2f4157d22e9cc2e531f0d2fa98641fa4ea3ef6f02f3555a20599fe8599986d1f", func := "loop.example/g03016/laws.FnExactIsEntry", spec := "fnExactIsEntry", apart := false }
def FnExactIsEntrySaid : Prop := fnExactIsEntryRow.holds Try.pinned (OpenSpec.ofChange fnExactIsEntrySpec)

/-- ITS FALSE NEIGHBOUR: 'it returns false'. Refute it at one input. -/
def fnExactIsEntryWrong : ChangeSpec := { name := "fnExactIsEntry", fn := fun _ => fun
  | [d] => { results := [.lit (.bool false)], args := [d] }
  | _ => none }
def FnExactIsEntryWrongFalsely : Prop := fnExactIsEntryRow.holds Try.pinned (OpenSpec.ofChange fnExactIsEntryWrong)

/-- 'laws.FnExactServes': WHATEVER THE INPUT: true; the input reads as it did. -/
def fnExactServesSpec : ChangeSpec := { name := "fnExactServes", fn := fun _ => fun
  | [d1, d2] => { results := [.lit (.bool true)], args := [d1, d2] }
  | _ => none }
def fnExactServesRow : OpenClaim := { program := "ytcjjcffcoleniaa", sum := "2f4157d22e9cc2e531f0d2fa98641fa4ea3ef6f02f3555a20599fe8599986d1f", func := "loop.example/g03016/laws.FnExactServes", spec := "fnExactServes", apart := false }
def FnExactServesSaid : Prop := fnExactServesRow.holds Try.pinned (OpenSpec.ofChange fnExactServesSpec)

/-- ITS FALSE NEIGHBOUR: 'it returns false'. Refute it at one input. -/
def fnExactServesWrong : ChangeSpec := { name := "fnExactServes", fn := fun _ => fun
  | [d1, d2] => { results := [.lit (.bool false)], args := [d1, d2] }
  | _ => none }
def FnExactServesWrongFalsely : Prop := fnExactServesRow.holds Try.pinned (OpenSpec.ofChange fnExactServesWrong)

/-- 'laws.FnExactIsEvent': WHATEVER THE INPUT: true; the input reads as it did. -/
def fnExactIsEventSpec : ChangeSpec := { name := "fnExactIsEvent", fn := fun _ => fun
  | [d] => { results := [.lit (.bool true)], args := [d] }
  | _ => none }
def fnExactIsEventRow : OpenClaim := { program := "ytcjjcffcoleniaa", sum := "2f4157d22e9cc2e531f0d2fa98641fa4ea3ef6f02f3555a20599fe8599986d1f", func := "loop.example/g03016/laws.FnExactIsEvent", spec := "fnExactIsEvent", apart := false }
def FnExactIsEventSaid : Prop := fnExactIsEventRow.holds Try.pinned (OpenSpec.ofChange fnExactIsEventSpec)

/-- ITS FALSE NEIGHBOUR: 'it returns false'. Refute it at one input. -/
def fnExactIsEventWrong : ChangeSpec := { name := "fnExactIsEvent", fn := fun _ => fun
  | [d] => { results := [.lit (.bool false)], args := [d] }
  | _ => none }
def FnExactIsEventWrongFalsely : Prop := fnExactIsEventRow.holds Try.pinned (OpenSpec.ofChange fnExactIsEventWrong)

/-- 'laws.FnExactIsRegistry': WHATEVER THE INPUT: true; the input reads as it did. -/
def fnExactIsRegistrySpec : ChangeSpec := { name := "fnExactIsRegistry", fn := fun _ => fun
  | [d] => { results := [.lit (.bool true)], args := [d] }
  | _ => none }
def fnExactIsRegistryRow : OpenClaim := { program := "ytcjjcffcoleniaa", sum := "2f4157d22e9cc2e531f0d2fa98641fa4ea3ef6f02f3555a20599fe8599986d1f", func := "loop.example/g03016/laws.FnExactIsRegistry", spec := "fnExactIsRegistry", apart := false }
def FnExactIsRegistrySaid : Prop := fnExactIsRegistryRow.holds Try.pinned (OpenSpec.ofChange fnExactIsRegistrySpec)

/-- ITS FALSE NEIGHBOUR: 'it returns false'. Refute it at one input. -/
def fnExactIsRegistryWrong : ChangeSpec := { name := "fnExactIsRegistry", fn := fun _ => fun
  | [d] => { results := [.lit (.bool false)], args := [d] }
  | _ => none }
def FnExactIsRegistryWrongFalsely : Prop := fnExactIsRegistryRow.holds Try.pinned (OpenSpec.ofChange fnExactIsRegistryWrong)

/-- 'laws.FnExactProviderOf': WHATEVER THE INPUT: true; the input reads as it did. -/
def fnExactProviderOfSpec : ChangeSpec := { name := "fnExactProviderOf", fn := fun _ => fun
  | [d1, d2, d3] => { results := [.lit (.bool true)], args := [d1, d2, d3] }
  | _ => none }
def fnExactProviderOfRow : OpenClaim := { program := "ytcjjcffcoleniaa", sum := "2f4157d22e9cc2e531f0d2fa98641fa4ea3ef6f02f3555a20599fe8599986d1f", func := "loop.example/g03016/laws.FnExactProviderOf", spec := "fnExactProviderOf", apart := false }
def FnExactProviderOfSaid : Prop := fnExactProviderOfRow.holds Try.pinned (OpenSpec.ofChange fnExactProviderOfSpec)

/-- ITS FALSE NEIGHBOUR: 'it returns false'. Refute it at one input. -/
def fnExactProviderOfWrong : ChangeSpec := { name := "fnExactProviderOf", fn := fun _ => fun
  | [d1, d2, d3] => { results := [.lit (.bool false)], args := [d1, d2, d3] }
  | _ => none }
def FnExactProviderOfWrongFalsely : Prop := fnExactProviderOfRow.holds Try.pinned (OpenSpec.ofChange fnExactProviderOfWrong)

/-- 'laws.FnMoreEntries': WHATEVER THE INPUT: true; the input reads as it did. -/
def fnMoreEntriesSpec : ChangeSpec := { name := "fnMoreEntries", fn := fun _ => fun
  | [d] => { results := [.lit (.bool true)], args := [d] }
  | _ => none }
def fnMoreEntriesRow : OpenClaim := { program := "ytcjjcffcoleniaa", sum := "2f4157d22e9cc2e531f0d2fa98641fa4ea3ef6f02f3555a20599fe8599986d1f", func := "loop.example/g03016/laws.FnMoreEntries", spec := "fnMoreEntries", unfollowed := true, recurses := true, apart := false }
def FnMoreEntriesSaid : Prop := fnMoreEntriesRow.holds Try.pinned (OpenSpec.ofChange fnMoreEntriesSpec)

/-- ITS FALSE NEIGHBOUR: 'it returns false'. Refute it at one input. -/
def fnMoreEntriesWrong : ChangeSpec := { name := "fnMoreEntries", fn := fun _ => fun
  | [d] => { results := [.lit (.bool false)], args := [d] }
  | _ => none }
def FnMoreEntriesWrongFalsely : Prop := fnMoreEntriesRow.holds Try.pinned (OpenSpec.ofChange fnMoreEntriesWrong)

/-- 'laws.FnExactSameHost': WHATEVER THE INPUT: true; the input reads as it did. -/
def fnExactSameHostSpec : ChangeSpec := { name := "fnExactSameHost", fn := fun _ => fun
  | [d1, d2] => { results := [.lit (.bool true)], args := [d1, d2] }
  | _ => none }
def fnExactSameHostRow : OpenClaim := { program := "ytcjjcffcoleniaa", sum := "2f4157d22e9cc2e531f0d2fa98641fa4ea3ef6f02f3555a20599fe8599986d1f", func := "loop.example/g03016/laws.FnExactSameHost", spec := "fnExactSameHost", apart := false }
def FnExactSameHostSaid : Prop := fnExactSameHostRow.holds Try.pinned (OpenSpec.ofChange fnExactSameHostSpec)

/-- ITS FALSE NEIGHBOUR: 'it returns false'. Refute it at one input. -/
def fnExactSameHostWrong : ChangeSpec := { name := "fnExactSameHost", fn := fun _ => fun
  | [d1, d2] => { results := [.lit (.bool false)], args := [d1, d2] }
  | _ => none }
def FnExactSameHostWrongFalsely : Prop := fnExactSameHostRow.holds Try.pinned (OpenSpec.ofChange fnExactSameHostWrong)

/- THE SECOND FORM. 'bulk': how many values and letters a reading holds, each counted each time it is reached (what is shared counts as often as it is met; a slice's spare places count too). A statement '..UptoSaid' is the law's where the arguments, and the package variables that the reading takes, are together of bulk at most 1048576: NARROWER than '..Said'. Prove '..Said' where nothing that the law and all that it calls make is longer than what came in: it says more and counts as full. Else prove '..UptoSaid'. A law counts once. -/
mutual
def uptoBulk {H : Type} : DataW H → Nat
  | .lit (.string bytes) => bytes.length + 1
  | .lit _ => 1
  | .nil => 1
  | .ptr d => uptoBulk d + 1
  | .slice elems spare => uptoBulkAll elems + uptoBulkAll spare + 1
  | .agg parts => uptoBulkAll parts + 1
  | .iface _ d => uptoBulk d + 1
  | .map entries => uptoBulkEntries entries + 1
  | .held _ => 1
def uptoBulkAll {H : Type} : List (DataW H) → Nat
  | [] => 0
  | d :: r => uptoBulk d + uptoBulkAll r
def uptoBulkEntries {H : Type} : List (Lit × DataW H) → Nat
  | [] => 0
  | x :: r => uptoBulkEntry x + uptoBulkEntries r
def uptoBulkEntry {H : Type} : Lit × DataW H → Nat
  | (.string bytes, d) => bytes.length + uptoBulk d + 1
  | (_, d) => uptoBulk d + 1
 end
def uptoSmall : (H : Type) → List (DataW H) → Bool := fun _ ds => decide (uptoBulkAll ds ≤ 1048576)
def OpenSpec.upto (s : _root_.Go.ChangeSpec) : _root_.Go.OpenSpec := { _root_.Go.OpenSpec.ofChange s with cond := some uptoSmall }

/-- 'laws.FnDeal', WHERE WHAT IT READS IS OF BULK AT MOST 1048576: true; the input reads as it did. -/
def fnDealUptoRow : OpenClaim := { program := "ytcjjcffcoleniaa", sum := "2f4157d22e9cc2e531f0d2fa98641fa4ea3ef6f02f3555a20599fe8599986d1f", func := "loop.example/g03016/laws.FnDeal", spec := "fnDeal", apart := false, narrowed := true }
def FnDealUptoSaid : Prop := fnDealUptoRow.holds Try.pinned (OpenSpec.upto fnDealSpec)

/-- 'laws.FnDealMore', WHERE WHAT IT READS IS OF BULK AT MOST 1048576: true; the input reads as it did. -/
def fnDealMoreUptoRow : OpenClaim := { program := "ytcjjcffcoleniaa", sum := "2f4157d22e9cc2e531f0d2fa98641fa4ea3ef6f02f3555a20599fe8599986d1f", func := "loop.example/g03016/laws.FnDealMore", spec := "fnDealMore", apart := false, narrowed := true }
def FnDealMoreUptoSaid : Prop := fnDealMoreUptoRow.holds Try.pinned (OpenSpec.upto fnDealMoreSpec)

/-- 'laws.FnExactNegotiate', WHERE WHAT IT READS IS OF BULK AT MOST 1048576: true; the input reads as it did. -/
def fnExactNegotiateUptoRow : OpenClaim := { program := "ytcjjcffcoleniaa", sum := "2f4157d22e9cc2e531f0d2fa98641fa4ea3ef6f02f3555a20599fe8599986d1f", func := "loop.example/g03016/laws.FnExactNegotiate", spec := "fnExactNegotiate", apart := false, narrowed := true }
def FnExactNegotiateUptoSaid : Prop := fnExactNegotiateUptoRow.holds Try.pinned (OpenSpec.upto fnExactNegotiateSpec)

/-- 'laws.FnDealSides', WHERE WHAT IT READS IS OF BULK AT MOST 1048576: true; the input reads as it did. -/
def fnDealSidesUptoRow : OpenClaim := { program := "ytcjjcffcoleniaa", sum := "2f4157d22e9cc2e531f0d2fa98641fa4ea3ef6f02f3555a20599fe8599986d1f", func := "loop.example/g03016/laws.FnDealSides", spec := "fnDealSides", apart := false, narrowed := true }
def FnDealSidesUptoSaid : Prop := fnDealSidesUptoRow.holds Try.pinned (OpenSpec.upto fnDealSidesSpec)

/-- 'laws.FnExactNegotiateAll', WHERE WHAT IT READS IS OF BULK AT MOST 1048576: true; the input reads as it did. -/
def fnExactNegotiateAllUptoRow : OpenClaim := { program := "ytcjjcffcoleniaa", sum := "2f4157d22e9cc2e531f0d2fa98641fa4ea3ef6f02f3555a20599fe8599986d1f", func := "loop.example/g03016/laws.FnExactNegotiateAll", spec := "fnExactNegotiateAll", apart := false, narrowed := true }
def FnExactNegotiateAllUptoSaid : Prop := fnExactNegotiateAllUptoRow.holds Try.pinned (OpenSpec.upto fnExactNegotiateAllSpec)

/-- 'laws.FnExactIsEntry', WHERE WHAT IT READS IS OF BULK AT MOST 1048576: true; the input reads as it did. -/
def fnExactIsEntryUptoRow : OpenClaim := { program := "ytcjjcffcoleniaa", sum := "2f4157d22e9cc2e531f0d2fa98641fa4ea3ef6f02f3555a20599fe8599986d1f", func := "loop.example/g03016/laws.FnExactIsEntry", spec := "fnExactIsEntry", apart := false, narrowed := true }
def FnExactIsEntryUptoSaid : Prop := fnExactIsEntryUptoRow.holds Try.pinned (OpenSpec.upto fnExactIsEntrySpec)

/-- 'laws.FnExactServes', WHERE WHAT IT READS IS OF BULK AT MOST 1048576: true; the input reads as it did. -/
def fnExactServesUptoRow : OpenClaim := { program := "ytcjjcffcoleniaa", sum := "2f4157d22e9cc2e531f0d2fa98641fa4ea3ef6f02f3555a20599fe8599986d1f", func := "loop.example/g03016/laws.FnExactServes", spec := "fnExactServes", apart := false, narrowed := true }
def FnExactServesUptoSaid : Prop := fnExactServesUptoRow.holds Try.pinned (OpenSpec.upto fnExactServesSpec)

/-- 'laws.FnExactIsEvent', WHERE WHAT IT READS IS OF BULK AT MOST 1048576: true; the input reads as it did. -/
def fnExactIsEventUptoRow : OpenClaim := { program := "ytcjjcffcoleniaa", sum := "2f4157d22e9cc2e531f0d2fa98641fa4ea3ef6f02f3555a20599fe8599986d1f", func := "loop.example/g03016/laws.FnExactIsEvent", spec := "fnExactIsEvent", apart := false, narrowed := true }
def FnExactIsEventUptoSaid : Prop := fnExactIsEventUptoRow.holds Try.pinned (OpenSpec.upto fnExactIsEventSpec)

/-- 'laws.FnExactIsRegistry', WHERE WHAT IT READS IS OF BULK AT MOST 1048576: true; the input reads as it did. -/
def fnExactIsRegistryUptoRow : OpenClaim := { program := "ytcjjcffcoleniaa", sum := "2f4157d22e9cc2e531f0d2fa98641fa4ea3ef6f02f3555a20599fe8599986d1f", func := "loop.example/g03016/laws.FnExactIsRegistry", spec := "fnExactIsRegistry", apart := false, narrowed := true }
def FnExactIsRegistryUptoSaid : Prop := fnExactIsRegistryUptoRow.holds Try.pinned (OpenSpec.upto fnExactIsRegistrySpec)

/-- 'laws.FnExactProviderOf', WHERE WHAT IT READS IS OF BULK AT MOST 1048576: true; the input reads as it did. -/
def fnExactProviderOfUptoRow : OpenClaim := { program := "ytcjjcffcoleniaa", sum := "2f4157d22e9cc2e531f0d2fa98641fa4ea3ef6f02f3555a20599fe8599986d1f", func := "loop.example/g03016/laws.FnExactProviderOf", spec := "fnExactProviderOf", apart := false, narrowed := true }
def FnExactProviderOfUptoSaid : Prop := fnExactProviderOfUptoRow.holds Try.pinned (OpenSpec.upto fnExactProviderOfSpec)

/-- 'laws.FnMoreEntries', WHERE WHAT IT READS IS OF BULK AT MOST 1048576: true; the input reads as it did. -/
def fnMoreEntriesUptoRow : OpenClaim := { program := "ytcjjcffcoleniaa", sum := "2f4157d22e9cc2e531f0d2fa98641fa4ea3ef6f02f3555a20599fe8599986d1f", func := "loop.example/g03016/laws.FnMoreEntries", spec := "fnMoreEntries", unfollowed := true, recurses := true, apart := false, narrowed := true }
def FnMoreEntriesUptoSaid : Prop := fnMoreEntriesUptoRow.holds Try.pinned (OpenSpec.upto fnMoreEntriesSpec)

/-- 'laws.FnExactSameHost', WHERE WHAT IT READS IS OF BULK AT MOST 1048576: true; the input reads as it did. -/
def fnExactSameHostUptoRow : OpenClaim := { program := "ytcjjcffcoleniaa", sum := "2f4157d22e9cc2e531f0d2fa98641fa4ea3ef6f02f3555a20599fe8599986d1f", func := "loop.example/g03016/laws.FnExactSameHost", spec := "fnExactSameHost", apart := false, narrowed := true }
def FnExactSameHostUptoSaid : Prop := fnExactSameHostUptoRow.holds Try.pinned (OpenSpec.upto fnExactSameHostSpec)

end Rows
end Go.Proofs.Ytcjjcffcoleniaa
