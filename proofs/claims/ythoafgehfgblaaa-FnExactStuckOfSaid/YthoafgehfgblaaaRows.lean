/-
  No cell of these rows narrows 'for every input' (looked for: loops, veiled, ifaces, maps, wideKeys, modest, calm, conditions, laid).
  DERIVED. THE GIVEN ROWS OF THIS SEAT. 12 by the template 'for every input the law returns true; each argument reads behind the call as it read before'; 0 by the template 'total and deterministic' (their statements: YthoafgehfgblaaaTotals.lean).
  GIVEN WITH THE SEED: the statements are not yours to turn. If you find one false, say at which input.
  Laid BY PROGRAM, IN A SANDBOX (cutbox-rows.mjs): the forced cells as the released guide's own fill.sh prints them over the translation 93ba0d90d6e765f9… (all of the seat's roots in one cut). By AI agents, Wed Nov 11 2026. No macro, syntax, notation, axiom, sorry.
-/
import Derived.Test.YthoafgehfgblaaaChecked
import GoSem.Claim
import GoSem.ClaimJoined
import GoSem.ClaimMapViews
import Derived.JoinedTies
import Derived.KernelRfl
namespace Go.Proofs.Ythoafgehfgblaaa
/- THE CELL 'sum', in the pinned program and in every row, IS THE sha256 OF THE DUMP (.gsa) THAT YthoafgehfgblaaaProg.lean LOADS. Nothing in Lean hashes anything: it is a label: what it is worth is what the hold of that sum in a sandbox is worth. -/
noncomputable def Try.pinned : Pinned := { name := "ythoafgehfgblaaa", sum := "93ba0d90d6e765f9096dfbc2979e839d87958a5bf19c90a5ca4ff635ceee9c42", checked := Try.checked }
namespace Rows
def none {H : Type} : Left H := { results := [], args := [] }

/-- 'laws.FnMoreEntries': WHATEVER THE INPUT: true; the input reads as it did. -/
def fnMoreEntriesSpec : ChangeSpec := { name := "fnMoreEntries", fn := fun _ => fun
  | [d] => { results := [.lit (.bool true)], args := [d] }
  | _ => none }
def fnMoreEntriesRow : OpenClaim := { program := "ythoafgehfgblaaa", sum := "93ba0d90d6e765f9096dfbc2979e839d87958a5bf19c90a5ca4ff635ceee9c42", func := "loop.example/g03016/laws.FnMoreEntries", spec := "fnMoreEntries", unfollowed := true, recurses := true, apart := false }
def FnMoreEntriesSaid : Prop := fnMoreEntriesRow.holds Try.pinned (OpenSpec.ofChange fnMoreEntriesSpec)

/-- ITS FALSE NEIGHBOUR: 'it returns false'. Refute it at one input. -/
def fnMoreEntriesWrong : ChangeSpec := { name := "fnMoreEntries", fn := fun _ => fun
  | [d] => { results := [.lit (.bool false)], args := [d] }
  | _ => none }
def FnMoreEntriesWrongFalsely : Prop := fnMoreEntriesRow.holds Try.pinned (OpenSpec.ofChange fnMoreEntriesWrong)

/-- 'laws.FnLinks': WHATEVER THE INPUT: true; the input reads as it did. -/
def fnLinksSpec : ChangeSpec := { name := "fnLinks", fn := fun _ => fun
  | [d] => { results := [.lit (.bool true)], args := [d] }
  | _ => none }
def fnLinksRow : OpenClaim := { program := "ythoafgehfgblaaa", sum := "93ba0d90d6e765f9096dfbc2979e839d87958a5bf19c90a5ca4ff635ceee9c42", func := "loop.example/g03016/laws.FnLinks", spec := "fnLinks", unfollowed := true, recurses := true, apart := false }
def FnLinksSaid : Prop := fnLinksRow.holds Try.pinned (OpenSpec.ofChange fnLinksSpec)

/-- ITS FALSE NEIGHBOUR: 'it returns false'. Refute it at one input. -/
def fnLinksWrong : ChangeSpec := { name := "fnLinks", fn := fun _ => fun
  | [d] => { results := [.lit (.bool false)], args := [d] }
  | _ => none }
def FnLinksWrongFalsely : Prop := fnLinksRow.holds Try.pinned (OpenSpec.ofChange fnLinksWrong)

/-- 'laws.FnReach': WHATEVER THE INPUT: true; the input reads as it did. -/
def fnReachSpec : ChangeSpec := { name := "fnReach", fn := fun _ => fun
  | [d] => { results := [.lit (.bool true)], args := [d] }
  | _ => none }
def fnReachRow : OpenClaim := { program := "ythoafgehfgblaaa", sum := "93ba0d90d6e765f9096dfbc2979e839d87958a5bf19c90a5ca4ff635ceee9c42", func := "loop.example/g03016/laws.FnReach", spec := "fnReach", unfollowed := true, recurses := true, apart := false }
def FnReachSaid : Prop := fnReachRow.holds Try.pinned (OpenSpec.ofChange fnReachSpec)

/-- ITS FALSE NEIGHBOUR: 'it returns false'. Refute it at one input. -/
def fnReachWrong : ChangeSpec := { name := "fnReach", fn := fun _ => fun
  | [d] => { results := [.lit (.bool false)], args := [d] }
  | _ => none }
def FnReachWrongFalsely : Prop := fnReachRow.holds Try.pinned (OpenSpec.ofChange fnReachWrong)

/-- 'laws.FnOrder': WHATEVER THE INPUT: true; the input reads as it did. -/
def fnOrderSpec : ChangeSpec := { name := "fnOrder", fn := fun _ => fun
  | [d] => { results := [.lit (.bool true)], args := [d] }
  | _ => none }
def fnOrderRow : OpenClaim := { program := "ythoafgehfgblaaa", sum := "93ba0d90d6e765f9096dfbc2979e839d87958a5bf19c90a5ca4ff635ceee9c42", func := "loop.example/g03016/laws.FnOrder", spec := "fnOrder", unfollowed := true, recurses := true, apart := false }
def FnOrderSaid : Prop := fnOrderRow.holds Try.pinned (OpenSpec.ofChange fnOrderSpec)

/-- ITS FALSE NEIGHBOUR: 'it returns false'. Refute it at one input. -/
def fnOrderWrong : ChangeSpec := { name := "fnOrder", fn := fun _ => fun
  | [d] => { results := [.lit (.bool false)], args := [d] }
  | _ => none }
def FnOrderWrongFalsely : Prop := fnOrderRow.holds Try.pinned (OpenSpec.ofChange fnOrderWrong)

/-- 'laws.FnFirstReady': WHATEVER THE INPUT: true; the input reads as it did. -/
def fnFirstReadySpec : ChangeSpec := { name := "fnFirstReady", fn := fun _ => fun
  | [d] => { results := [.lit (.bool true)], args := [d] }
  | _ => none }
def fnFirstReadyRow : OpenClaim := { program := "ythoafgehfgblaaa", sum := "93ba0d90d6e765f9096dfbc2979e839d87958a5bf19c90a5ca4ff635ceee9c42", func := "loop.example/g03016/laws.FnFirstReady", spec := "fnFirstReady", unfollowed := true, recurses := true, apart := false }
def FnFirstReadySaid : Prop := fnFirstReadyRow.holds Try.pinned (OpenSpec.ofChange fnFirstReadySpec)

/-- ITS FALSE NEIGHBOUR: 'it returns false'. Refute it at one input. -/
def fnFirstReadyWrong : ChangeSpec := { name := "fnFirstReady", fn := fun _ => fun
  | [d] => { results := [.lit (.bool false)], args := [d] }
  | _ => none }
def FnFirstReadyWrongFalsely : Prop := fnFirstReadyRow.holds Try.pinned (OpenSpec.ofChange fnFirstReadyWrong)

/-- 'laws.FnStuckWhy': WHATEVER THE INPUT: true; the input reads as it did. -/
def fnStuckWhySpec : ChangeSpec := { name := "fnStuckWhy", fn := fun _ => fun
  | [d] => { results := [.lit (.bool true)], args := [d] }
  | _ => none }
def fnStuckWhyRow : OpenClaim := { program := "ythoafgehfgblaaa", sum := "93ba0d90d6e765f9096dfbc2979e839d87958a5bf19c90a5ca4ff635ceee9c42", func := "loop.example/g03016/laws.FnStuckWhy", spec := "fnStuckWhy", unfollowed := true, recurses := true, apart := false }
def FnStuckWhySaid : Prop := fnStuckWhyRow.holds Try.pinned (OpenSpec.ofChange fnStuckWhySpec)

/-- ITS FALSE NEIGHBOUR: 'it returns false'. Refute it at one input. -/
def fnStuckWhyWrong : ChangeSpec := { name := "fnStuckWhy", fn := fun _ => fun
  | [d] => { results := [.lit (.bool false)], args := [d] }
  | _ => none }
def FnStuckWhyWrongFalsely : Prop := fnStuckWhyRow.holds Try.pinned (OpenSpec.ofChange fnStuckWhyWrong)

/-- 'laws.FnExactMissingOf': WHATEVER THE INPUT: true; the input reads as it did. -/
def fnExactMissingOfSpec : ChangeSpec := { name := "fnExactMissingOf", fn := fun _ => fun
  | [d] => { results := [.lit (.bool true)], args := [d] }
  | _ => none }
def fnExactMissingOfRow : OpenClaim := { program := "ythoafgehfgblaaa", sum := "93ba0d90d6e765f9096dfbc2979e839d87958a5bf19c90a5ca4ff635ceee9c42", func := "loop.example/g03016/laws.FnExactMissingOf", spec := "fnExactMissingOf", unfollowed := true, recurses := true, apart := false }
def FnExactMissingOfSaid : Prop := fnExactMissingOfRow.holds Try.pinned (OpenSpec.ofChange fnExactMissingOfSpec)

/-- ITS FALSE NEIGHBOUR: 'it returns false'. Refute it at one input. -/
def fnExactMissingOfWrong : ChangeSpec := { name := "fnExactMissingOf", fn := fun _ => fun
  | [d] => { results := [.lit (.bool false)], args := [d] }
  | _ => none }
def FnExactMissingOfWrongFalsely : Prop := fnExactMissingOfRow.holds Try.pinned (OpenSpec.ofChange fnExactMissingOfWrong)

/-- 'laws.FnExactLinksOf': WHATEVER THE INPUT: true; the input reads as it did. -/
def fnExactLinksOfSpec : ChangeSpec := { name := "fnExactLinksOf", fn := fun _ => fun
  | [d] => { results := [.lit (.bool true)], args := [d] }
  | _ => none }
def fnExactLinksOfRow : OpenClaim := { program := "ythoafgehfgblaaa", sum := "93ba0d90d6e765f9096dfbc2979e839d87958a5bf19c90a5ca4ff635ceee9c42", func := "loop.example/g03016/laws.FnExactLinksOf", spec := "fnExactLinksOf", apart := false }
def FnExactLinksOfSaid : Prop := fnExactLinksOfRow.holds Try.pinned (OpenSpec.ofChange fnExactLinksOfSpec)

/-- ITS FALSE NEIGHBOUR: 'it returns false'. Refute it at one input. -/
def fnExactLinksOfWrong : ChangeSpec := { name := "fnExactLinksOf", fn := fun _ => fun
  | [d] => { results := [.lit (.bool false)], args := [d] }
  | _ => none }
def FnExactLinksOfWrongFalsely : Prop := fnExactLinksOfRow.holds Try.pinned (OpenSpec.ofChange fnExactLinksOfWrong)

/-- 'laws.FnExactReachOf': WHATEVER THE INPUT: true; the input reads as it did. -/
def fnExactReachOfSpec : ChangeSpec := { name := "fnExactReachOf", fn := fun _ => fun
  | [d1, d2] => { results := [.lit (.bool true)], args := [d1, d2] }
  | _ => none }
def fnExactReachOfRow : OpenClaim := { program := "ythoafgehfgblaaa", sum := "93ba0d90d6e765f9096dfbc2979e839d87958a5bf19c90a5ca4ff635ceee9c42", func := "loop.example/g03016/laws.FnExactReachOf", spec := "fnExactReachOf", unfollowed := true, recurses := true, apart := false }
def FnExactReachOfSaid : Prop := fnExactReachOfRow.holds Try.pinned (OpenSpec.ofChange fnExactReachOfSpec)

/-- ITS FALSE NEIGHBOUR: 'it returns false'. Refute it at one input. -/
def fnExactReachOfWrong : ChangeSpec := { name := "fnExactReachOf", fn := fun _ => fun
  | [d1, d2] => { results := [.lit (.bool false)], args := [d1, d2] }
  | _ => none }
def FnExactReachOfWrongFalsely : Prop := fnExactReachOfRow.holds Try.pinned (OpenSpec.ofChange fnExactReachOfWrong)

/-- 'laws.FnExactNeedersOf': WHATEVER THE INPUT: true; the input reads as it did. -/
def fnExactNeedersOfSpec : ChangeSpec := { name := "fnExactNeedersOf", fn := fun _ => fun
  | [d1, d2] => { results := [.lit (.bool true)], args := [d1, d2] }
  | _ => none }
def fnExactNeedersOfRow : OpenClaim := { program := "ythoafgehfgblaaa", sum := "93ba0d90d6e765f9096dfbc2979e839d87958a5bf19c90a5ca4ff635ceee9c42", func := "loop.example/g03016/laws.FnExactNeedersOf", spec := "fnExactNeedersOf", unfollowed := true, recurses := true, apart := false }
def FnExactNeedersOfSaid : Prop := fnExactNeedersOfRow.holds Try.pinned (OpenSpec.ofChange fnExactNeedersOfSpec)

/-- ITS FALSE NEIGHBOUR: 'it returns false'. Refute it at one input. -/
def fnExactNeedersOfWrong : ChangeSpec := { name := "fnExactNeedersOf", fn := fun _ => fun
  | [d1, d2] => { results := [.lit (.bool false)], args := [d1, d2] }
  | _ => none }
def FnExactNeedersOfWrongFalsely : Prop := fnExactNeedersOfRow.holds Try.pinned (OpenSpec.ofChange fnExactNeedersOfWrong)

/-- 'laws.FnExactStartOrder': WHATEVER THE INPUT: true; the input reads as it did. -/
def fnExactStartOrderSpec : ChangeSpec := { name := "fnExactStartOrder", fn := fun _ => fun
  | [d] => { results := [.lit (.bool true)], args := [d] }
  | _ => none }
def fnExactStartOrderRow : OpenClaim := { program := "ythoafgehfgblaaa", sum := "93ba0d90d6e765f9096dfbc2979e839d87958a5bf19c90a5ca4ff635ceee9c42", func := "loop.example/g03016/laws.FnExactStartOrder", spec := "fnExactStartOrder", apart := false }
def FnExactStartOrderSaid : Prop := fnExactStartOrderRow.holds Try.pinned (OpenSpec.ofChange fnExactStartOrderSpec)

/-- ITS FALSE NEIGHBOUR: 'it returns false'. Refute it at one input. -/
def fnExactStartOrderWrong : ChangeSpec := { name := "fnExactStartOrder", fn := fun _ => fun
  | [d] => { results := [.lit (.bool false)], args := [d] }
  | _ => none }
def FnExactStartOrderWrongFalsely : Prop := fnExactStartOrderRow.holds Try.pinned (OpenSpec.ofChange fnExactStartOrderWrong)

/-- 'laws.FnExactStuckOf': WHATEVER THE INPUT: true; the input reads as it did. -/
def fnExactStuckOfSpec : ChangeSpec := { name := "fnExactStuckOf", fn := fun _ => fun
  | [d] => { results := [.lit (.bool true)], args := [d] }
  | _ => none }
def fnExactStuckOfRow : OpenClaim := { program := "ythoafgehfgblaaa", sum := "93ba0d90d6e765f9096dfbc2979e839d87958a5bf19c90a5ca4ff635ceee9c42", func := "loop.example/g03016/laws.FnExactStuckOf", spec := "fnExactStuckOf", unfollowed := true, recurses := true, apart := false }
def FnExactStuckOfSaid : Prop := fnExactStuckOfRow.holds Try.pinned (OpenSpec.ofChange fnExactStuckOfSpec)

/-- ITS FALSE NEIGHBOUR: 'it returns false'. Refute it at one input. -/
def fnExactStuckOfWrong : ChangeSpec := { name := "fnExactStuckOf", fn := fun _ => fun
  | [d] => { results := [.lit (.bool false)], args := [d] }
  | _ => none }
def FnExactStuckOfWrongFalsely : Prop := fnExactStuckOfRow.holds Try.pinned (OpenSpec.ofChange fnExactStuckOfWrong)

/- THE SECOND FORM. 'bulk': how many values and letters a reading holds, each counted each time it is reached (what is shared counts as often as it is met; a slice's spare places count too). A statement '..UptoSaid' is the law's where the arguments, and the package variables that the reading takes, are together of bulk at most 1048576: NARROWER than '..Said'. Prove '..Said' where nothing that the law and all that it calls make is longer than what came in: it says more and counts as full. Else prove '..UptoSaid'. A law counts once. -/
mutual
def uptoBulk {H : Type} : DataW H → Nat
  | .lit (.string bytes) => bytes.length + 1
  | .lit _ => 1
  | .nil => 1
  | .ptr d => uptoBulk d + 1
  | .slice elems spare => uptoBulkAll elems + uptoBulkAll spare + 1
  | .agg parts => uptoBulkAll parts + 1
  | .iface _ d => uptoBulk d + 1
  | .map entries => uptoBulkEntries entries + 1
  | .held _ => 1
def uptoBulkAll {H : Type} : List (DataW H) → Nat
  | [] => 0
  | d :: r => uptoBulk d + uptoBulkAll r
def uptoBulkEntries {H : Type} : List (Lit × DataW H) → Nat
  | [] => 0
  | x :: r => uptoBulkEntry x + uptoBulkEntries r
def uptoBulkEntry {H : Type} : Lit × DataW H → Nat
  | (.string bytes, d) => bytes.length + uptoBulk d + 1
  | (_, d) => uptoBulk d + 1
 end
def uptoSmall : (H : Type) → List (DataW H) → Bool := fun _ ds => decide (uptoBulkAll ds ≤ 1048576)
def OpenSpec.upto (s : _root_.Go.ChangeSpec) : _root_.Go.OpenSpec := { _root_.Go.OpenSpec.ofChange s with cond := some uptoSmall }

/-- 'laws.FnMoreEntries', WHERE WHAT IT READS IS OF BULK AT MOST 1048576: true; the input reads as it did. -/
def fnMoreEntriesUptoRow : OpenClaim := { program := "ythoafgehfgblaaa", sum := "93ba0d90d6e765f9096dfbc2979e839d87958a5bf19c90a5ca4ff635ceee9c42", func := "loop.example/g03016/laws.FnMoreEntries", spec := "fnMoreEntries", unfollowed := true, recurses := true, apart := false, narrowed := true }
def FnMoreEntriesUptoSaid : Prop := fnMoreEntriesUptoRow.holds Try.pinned (OpenSpec.upto fnMoreEntriesSpec)

/-- 'laws.FnLinks', WHERE WHAT IT READS IS OF BULK AT MOST 1048576: true; the input reads as it did. -/
def fnLinksUptoRow : OpenClaim := { program := "ythoafgehfgblaaa", sum := "93ba0d90d6e765f9096dfbc2979e839d87958a5bf19c90a5ca4ff635ceee9c42", func := "loop.example/g03016/laws.FnLinks", spec := "fnLinks", unfollowed := true, recurses := true, apart := false, narrowed := true }
def FnLinksUptoSaid : Prop := fnLinksUptoRow.holds Try.pinned (OpenSpec.upto fnLinksSpec)

/-- 'laws.FnReach', WHERE WHAT IT READS IS OF BULK AT MOST 1048576: true; the input reads as it did. -/
def fnReachUptoRow : OpenClaim := { program := "ythoafgehfgblaaa", sum := "93ba0d90d6e765f9096dfbc2979e839d87958a5bf19c90a5ca4ff635ceee9c42", func := "loop.example/g03016/laws.FnReach", spec := "fnReach", unfollowed := true, recurses := true, apart := false, narrowed := true }
def FnReachUptoSaid : Prop := fnReachUptoRow.holds Try.pinned (OpenSpec.upto fnReachSpec)

/-- 'laws.FnOrder', WHERE WHAT IT READS IS OF BULK AT MOST 1048576: true; the input reads as it did. -/
def fnOrderUptoRow : OpenClaim := { program := "ythoafgehfgblaaa", sum := "93ba0d90d6e765f9096dfbc2979e839d87958a5bf19c90a5ca4ff635ceee9c42", func := "loop.example/g03016/laws.FnOrder", spec := "fnOrder", unfollowed := true, recurses := true, apart := false, narrowed := true }
def FnOrderUptoSaid : Prop := fnOrderUptoRow.holds Try.pinned (OpenSpec.upto fnOrderSpec)

/-- 'laws.FnFirstReady', WHERE WHAT IT READS IS OF BULK AT MOST 1048576: true; the input reads as it did. -/
def fnFirstReadyUptoRow : OpenClaim := { program := "ythoafgehfgblaaa", sum := "93ba0d90d6e765f9096dfbc2979e839d87958a5bf19c90a5ca4ff635ceee9c42", func := "loop.example/g03016/laws.FnFirstReady", spec := "fnFirstReady", unfollowed := true, recurses := true, apart := false, narrowed := true }
def FnFirstReadyUptoSaid : Prop := fnFirstReadyUptoRow.holds Try.pinned (OpenSpec.upto fnFirstReadySpec)

/-- 'laws.FnStuckWhy', WHERE WHAT IT READS IS OF BULK AT MOST 1048576: true; the input reads as it did. -/
def fnStuckWhyUptoRow : OpenClaim := { program := "ythoafgehfgblaaa", sum := "93ba0d90d6e765f9096dfbc2979e839d87958a5bf19c90a5ca4ff635ceee9c42", func := "loop.example/g03016/laws.FnStuckWhy", spec := "fnStuckWhy", unfollowed := true, recurses := true, apart := false, narrowed := true }
def FnStuckWhyUptoSaid : Prop := fnStuckWhyUptoRow.holds Try.pinned (OpenSpec.upto fnStuckWhySpec)

/-- 'laws.FnExactMissingOf', WHERE WHAT IT READS IS OF BULK AT MOST 1048576: true; the input reads as it did. -/
def fnExactMissingOfUptoRow : OpenClaim := { program := "ythoafgehfgblaaa", sum := "93ba0d90d6e765f9096dfbc2979e839d87958a5bf19c90a5ca4ff635ceee9c42", func := "loop.example/g03016/laws.FnExactMissingOf", spec := "fnExactMissingOf", unfollowed := true, recurses := true, apart := false, narrowed := true }
def FnExactMissingOfUptoSaid : Prop := fnExactMissingOfUptoRow.holds Try.pinned (OpenSpec.upto fnExactMissingOfSpec)

/-- 'laws.FnExactLinksOf', WHERE WHAT IT READS IS OF BULK AT MOST 1048576: true; the input reads as it did. -/
def fnExactLinksOfUptoRow : OpenClaim := { program := "ythoafgehfgblaaa", sum := "93ba0d90d6e765f9096dfbc2979e839d87958a5bf19c90a5ca4ff635ceee9c42", func := "loop.example/g03016/laws.FnExactLinksOf", spec := "fnExactLinksOf", apart := false, narrowed := true }
def FnExactLinksOfUptoSaid : Prop := fnExactLinksOfUptoRow.holds Try.pinned (OpenSpec.upto fnExactLinksOfSpec)

/-- 'laws.FnExactReachOf', WHERE WHAT IT READS IS OF BULK AT MOST 1048576: true; the input reads as it did. -/
def fnExactReachOfUptoRow : OpenClaim := { program := "ythoafgehfgblaaa", sum := "93ba0d90d6e765f9096dfbc2979e839d87958a5bf19c90a5ca4ff635ceee9c42", func := "loop.example/g03016/laws.FnExactReachOf", spec := "fnExactReachOf", unfollowed := true, recurses := true, apart := false, narrowed := true }
def FnExactReachOfUptoSaid : Prop := fnExactReachOfUptoRow.holds Try.pinned (OpenSpec.upto fnExactReachOfSpec)

/-- 'laws.FnExactNeedersOf', WHERE WHAT IT READS IS OF BULK AT MOST 1048576: true; the input reads as it did. -/
def fnExactNeedersOfUptoRow : OpenClaim := { program := "ythoafgehfgblaaa", sum := "93ba0d90d6e765f9096dfbc2979e839d87958a5bf19c90a5ca4ff635ceee9c42", func := "loop.example/g03016/laws.FnExactNeedersOf", spec := "fnExactNeedersOf", unfollowed := true, recurses := true, apart := false, narrowed := true }
def FnExactNeedersOfUptoSaid : Prop := fnExactNeedersOfUptoRow.holds Try.pinned (OpenSpec.upto fnExactNeedersOfSpec)

/-- 'laws.FnExactStartOrder', WHERE WHAT IT READS IS OF BULK AT MOST 1048576: true; the input reads as it did. -/
def fnExactStartOrderUptoRow : OpenClaim := { program := "ythoafgehfgblaaa", sum := "93ba0d90d6e765f9096dfbc2979e839d87958a5bf19c90a5ca4ff635ceee9c42", func := "loop.example/g03016/laws.FnExactStartOrder", spec := "fnExactStartOrder", apart := false, narrowed := true }
def FnExactStartOrderUptoSaid : Prop := fnExactStartOrderUptoRow.holds Try.pinned (OpenSpec.upto fnExactStartOrderSpec)

/-- 'laws.FnExactStuckOf', WHERE WHAT IT READS IS OF BULK AT MOST 1048576: true; the input reads as it did. -/
def fnExactStuckOfUptoRow : OpenClaim := { program := "ythoafgehfgblaaa", sum := "93ba0d90d6e765f9096dfbc2979e839d87958a5bf19c90a5ca4ff635ceee9c42", func := "loop.example/g03016/laws.FnExactStuckOf", spec := "fnExactStuckOf", unfollowed := true, recurses := true, apart := false, narrowed := true }
def FnExactStuckOfUptoSaid : Prop := fnExactStuckOfUptoRow.holds Try.pinned (OpenSpec.upto fnExactStuckOfSpec)

end Rows
end Go.Proofs.Ythoafgehfgblaaa
