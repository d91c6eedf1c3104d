/-
  No cell of these rows narrows 'for every input' (looked for: loops, veiled, ifaces, maps, wideKeys, modest, calm, conditions, laid).
  DERIVED. THE GIVEN ROWS OF THIS SEAT. 7 by the template 'for every input the law returns true; each argument reads behind the call as it read before'; 0 by the template 'total and deterministic' (their statements: YtjlepakpcclmpaaTotals.lean).
  GIVEN WITH THE SEED: the statements are not yours to turn. If you find one false, say at which input.
  Laid BY PROGRAM, IN A SANDBOX (cutbox-rows.mjs): the forced cells as the released guide's own fill.sh prints them over the translation dc39c162693891f0… (all of the seat's roots in one cut). By AI agents, Wed Nov 11 2026. No macro, syntax, notation, axiom, sorry.
-/
import Derived.Test.YtjlepakpcclmpaaChecked
import GoSem.Claim
import GoSem.ClaimJoined
import GoSem.ClaimMapViews
import Derived.JoinedTies
import Derived.KernelRfl
namespace Go.Proofs.Ytjlepakpcclmpaa
/- THE CELL 'sum', in the pinned program and in every row, IS THE sha256 OF THE DUMP (.gsa) THAT YtjlepakpcclmpaaProg.lean LOADS. Nothing in Lean hashes anything: it is a label: what it is worth is what the hold of that sum in a sandbox is worth. -/
noncomputable def Try.pinned : Pinned := { name := "ytjlepakpcclmpaa", sum := "dc39c162693891f0e308db659585df5243435f98d8bc489603467028f1337725", checked := Try.checked }
namespace Rows
def none {H : Type} : Left H := { results := [], args := [] }

/-- 'laws.FnExactIsVersion': WHATEVER THE INPUT: true; the input reads as it did. -/
def fnExactIsVersionSpec : ChangeSpec := { name := "fnExactIsVersion", fn := fun _ => fun
  | [d] => { results := [.lit (.bool true)], args := [d] }
  | _ => none }
def fnExactIsVersionRow : OpenClaim := { program := "ytjlepakpcclmpaa", sum := "dc39c162693891f0e308db659585df5243435f98d8bc489603467028f1337725", func := "loop.example/g03016/laws.FnExactIsVersion", spec := "fnExactIsVersion", apart := false }
def FnExactIsVersionSaid : Prop := fnExactIsVersionRow.holds Try.pinned (OpenSpec.ofChange fnExactIsVersionSpec)

/-- ITS FALSE NEIGHBOUR: 'it returns false'. Refute it at one input. -/
def fnExactIsVersionWrong : ChangeSpec := { name := "fnExactIsVersion", fn := fun _ => fun
  | [d] => { results := [.lit (.bool false)], args := [d] }
  | _ => none }
def FnExactIsVersionWrongFalsely : Prop := fnExactIsVersionRow.holds Try.pinned (OpenSpec.ofChange fnExactIsVersionWrong)

/-- 'laws.FnExactSinceOf': WHATEVER THE INPUT: true; the input reads as it did. -/
def fnExactSinceOfSpec : ChangeSpec := { name := "fnExactSinceOf", fn := fun _ => fun
  | [d] => { results := [.lit (.bool true)], args := [d] }
  | _ => none }
def fnExactSinceOfRow : OpenClaim := { program := "ytjlepakpcclmpaa", sum := "dc39c162693891f0e308db659585df5243435f98d8bc489603467028f1337725", func := "loop.example/g03016/laws.FnExactSinceOf", spec := "fnExactSinceOf", apart := false }
def FnExactSinceOfSaid : Prop := fnExactSinceOfRow.holds Try.pinned (OpenSpec.ofChange fnExactSinceOfSpec)

/-- ITS FALSE NEIGHBOUR: 'it returns false'. Refute it at one input. -/
def fnExactSinceOfWrong : ChangeSpec := { name := "fnExactSinceOf", fn := fun _ => fun
  | [d] => { results := [.lit (.bool false)], args := [d] }
  | _ => none }
def FnExactSinceOfWrongFalsely : Prop := fnExactSinceOfRow.holds Try.pinned (OpenSpec.ofChange fnExactSinceOfWrong)

/-- 'laws.FnExactMeets': WHATEVER THE INPUT: true; the input reads as it did. -/
def fnExactMeetsSpec : ChangeSpec := { name := "fnExactMeets", fn := fun _ => fun
  | [d1, d2] => { results := [.lit (.bool true)], args := [d1, d2] }
  | _ => none }
def fnExactMeetsRow : OpenClaim := { program := "ytjlepakpcclmpaa", sum := "dc39c162693891f0e308db659585df5243435f98d8bc489603467028f1337725", func := "loop.example/g03016/laws.FnExactMeets", spec := "fnExactMeets", apart := false }
def FnExactMeetsSaid : Prop := fnExactMeetsRow.holds Try.pinned (OpenSpec.ofChange fnExactMeetsSpec)

/-- ITS FALSE NEIGHBOUR: 'it returns false'. Refute it at one input. -/
def fnExactMeetsWrong : ChangeSpec := { name := "fnExactMeets", fn := fun _ => fun
  | [d1, d2] => { results := [.lit (.bool false)], args := [d1, d2] }
  | _ => none }
def FnExactMeetsWrongFalsely : Prop := fnExactMeetsRow.holds Try.pinned (OpenSpec.ofChange fnExactMeetsWrong)

/-- 'laws.FnExactCompareVersions': WHATEVER THE INPUT: true; the input reads as it did. -/
def fnExactCompareVersionsSpec : ChangeSpec := { name := "fnExactCompareVersions", fn := fun _ => fun
  | [d1, d2] => { results := [.lit (.bool true)], args := [d1, d2] }
  | _ => none }
def fnExactCompareVersionsRow : OpenClaim := { program := "ytjlepakpcclmpaa", sum := "dc39c162693891f0e308db659585df5243435f98d8bc489603467028f1337725", func := "loop.example/g03016/laws.FnExactCompareVersions", spec := "fnExactCompareVersions", apart := false }
def FnExactCompareVersionsSaid : Prop := fnExactCompareVersionsRow.holds Try.pinned (OpenSpec.ofChange fnExactCompareVersionsSpec)

/-- ITS FALSE NEIGHBOUR: 'it returns false'. Refute it at one input. -/
def fnExactCompareVersionsWrong : ChangeSpec := { name := "fnExactCompareVersions", fn := fun _ => fun
  | [d1, d2] => { results := [.lit (.bool false)], args := [d1, d2] }
  | _ => none }
def FnExactCompareVersionsWrongFalsely : Prop := fnExactCompareVersionsRow.holds Try.pinned (OpenSpec.ofChange fnExactCompareVersionsWrong)

/-- 'laws.FnExactIsNeed': WHATEVER THE INPUT: true; the input reads as it did. -/
def fnExactIsNeedSpec : ChangeSpec := { name := "fnExactIsNeed", fn := fun _ => fun
  | [d] => { results := [.lit (.bool true)], args := [d] }
  | _ => none }
def fnExactIsNeedRow : OpenClaim := { program := "ytjlepakpcclmpaa", sum := "dc39c162693891f0e308db659585df5243435f98d8bc489603467028f1337725", func := "loop.example/g03016/laws.FnExactIsNeed", spec := "fnExactIsNeed", apart := false }
def FnExactIsNeedSaid : Prop := fnExactIsNeedRow.holds Try.pinned (OpenSpec.ofChange fnExactIsNeedSpec)

/-- ITS FALSE NEIGHBOUR: 'it returns false'. Refute it at one input. -/
def fnExactIsNeedWrong : ChangeSpec := { name := "fnExactIsNeed", fn := fun _ => fun
  | [d] => { results := [.lit (.bool false)], args := [d] }
  | _ => none }
def FnExactIsNeedWrongFalsely : Prop := fnExactIsNeedRow.holds Try.pinned (OpenSpec.ofChange fnExactIsNeedWrong)

/-- 'laws.FnExactAllowedFace': WHATEVER THE INPUT: true; the input reads as it did. -/
def fnExactAllowedFaceSpec : ChangeSpec := { name := "fnExactAllowedFace", fn := fun _ => fun
  | [d] => { results := [.lit (.bool true)], args := [d] }
  | _ => none }
def fnExactAllowedFaceRow : OpenClaim := { program := "ytjlepakpcclmpaa", sum := "dc39c162693891f0e308db659585df5243435f98d8bc489603467028f1337725", func := "loop.example/g03016/laws.FnExactAllowedFace", spec := "fnExactAllowedFace", apart := false }
def FnExactAllowedFaceSaid : Prop := fnExactAllowedFaceRow.holds Try.pinned (OpenSpec.ofChange fnExactAllowedFaceSpec)

/-- ITS FALSE NEIGHBOUR: 'it returns false'. Refute it at one input. -/
def fnExactAllowedFaceWrong : ChangeSpec := { name := "fnExactAllowedFace", fn := fun _ => fun
  | [d] => { results := [.lit (.bool false)], args := [d] }
  | _ => none }
def FnExactAllowedFaceWrongFalsely : Prop := fnExactAllowedFaceRow.holds Try.pinned (OpenSpec.ofChange fnExactAllowedFaceWrong)

/-- 'laws.FnExactLeastVersion': WHATEVER THE INPUT: true; the input reads as it did. -/
def fnExactLeastVersionSpec : ChangeSpec := { name := "fnExactLeastVersion", fn := fun _ => fun
  | [d] => { results := [.lit (.bool true)], args := [d] }
  | _ => none }
def fnExactLeastVersionRow : OpenClaim := { program := "ytjlepakpcclmpaa", sum := "dc39c162693891f0e308db659585df5243435f98d8bc489603467028f1337725", func := "loop.example/g03016/laws.FnExactLeastVersion", spec := "fnExactLeastVersion", apart := false }
def FnExactLeastVersionSaid : Prop := fnExactLeastVersionRow.holds Try.pinned (OpenSpec.ofChange fnExactLeastVersionSpec)

/-- ITS FALSE NEIGHBOUR: 'it returns false'. Refute it at one input. -/
def fnExactLeastVersionWrong : ChangeSpec := { name := "fnExactLeastVersion", fn := fun _ => fun
  | [d] => { results := [.lit (.bool false)], args := [d] }
  | _ => none }
def FnExactLeastVersionWrongFalsely : Prop := fnExactLeastVersionRow.holds Try.pinned (OpenSpec.ofChange fnExactLeastVersionWrong)

/- THE SECOND FORM. 'bulk': how many values and letters a reading holds, each counted each time it is reached (what is shared counts as often as it is met; a slice's spare places count too). A statement '..UptoSaid' is the law's where the arguments, and the package variables that the reading takes, are together of bulk at most 1048576: NARROWER than '..Said'. Prove '..Said' where nothing that the law and all that it calls make is longer than what came in: it says more and counts as full. Else prove '..UptoSaid'. A law counts once. -/
mutual
def uptoBulk {H : Type} : DataW H → Nat
  | .lit (.string bytes) => bytes.length + 1
  | .lit _ => 1
  | .nil => 1
  | .ptr d => uptoBulk d + 1
  | .slice elems spare => uptoBulkAll elems + uptoBulkAll spare + 1
  | .agg parts => uptoBulkAll parts + 1
  | .iface _ d => uptoBulk d + 1
  | .map entries => uptoBulkEntries entries + 1
  | .held _ => 1
def uptoBulkAll {H : Type} : List (DataW H) → Nat
  | [] => 0
  | d :: r => uptoBulk d + uptoBulkAll r
def uptoBulkEntries {H : Type} : List (Lit × DataW H) → Nat
  | [] => 0
  | x :: r => uptoBulkEntry x + uptoBulkEntries r
def uptoBulkEntry {H : Type} : Lit × DataW H → Nat
  | (.string bytes, d) => bytes.length + uptoBulk d + 1
  | (_, d) => uptoBulk d + 1
 end
def uptoSmall : (H : Type) → List (DataW H) → Bool := fun _ ds => decide (uptoBulkAll ds ≤ 1048576)
def OpenSpec.upto (s : _root_.Go.ChangeSpec) : _root_.Go.OpenSpec := { _root_.Go.OpenSpec.ofChange s with cond := some uptoSmall }

/-- 'laws.FnExactIsVersion', WHERE WHAT IT READS IS OF BULK AT MOST 1048576: true; the input reads as it did. -/
def fnExactIsVersionUptoRow : OpenClaim := { program := "ytjlepakpcclmpaa", sum := "dc39c162693891f0e308db659585df5243435f98d8bc489603467028f1337725", func := "loop.example/g03016/laws.FnExactIsVersion", spec := "fnExactIsVersion", apart := false, narrowed := true }
def FnExactIsVersionUptoSaid : Prop := fnExactIsVersionUptoRow.holds Try.pinned (OpenSpec.upto fnExactIsVersionSpec)

/-- 'laws.FnExactSinceOf', WHERE WHAT IT READS IS OF BULK AT MOST 1048576: true; the input reads as it did. -/
def fnExactSinceOfUptoRow : OpenClaim := { program := "ytjlepakpcclmpaa", sum := "dc39c162693891f0e308db659585df5243435f98d8bc489603467028f1337725", func := "loop.example/g03016/laws.FnExactSinceOf", spec := "fnExactSinceOf", apart := false, narrowed := true }
def FnExactSinceOfUptoSaid : Prop := fnExactSinceOfUptoRow.holds Try.pinned (OpenSpec.upto fnExactSinceOfSpec)

/-- 'laws.FnExactMeets', WHERE WHAT IT READS IS OF BULK AT MOST 1048576: true; the input reads as it did. -/
def fnExactMeetsUptoRow : OpenClaim := { program := "ytjlepakpcclmpaa", sum := "dc39c162693891f0e308db659585df5243435f98d8bc489603467028f1337725", func := "loop.example/g03016/laws.FnExactMeets", spec := "fnExactMeets", apart := false, narrowed := true }
def FnExactMeetsUptoSaid : Prop := fnExactMeetsUptoRow.holds Try.pinned (OpenSpec.upto fnExactMeetsSpec)

/-- 'laws.FnExactCompareVersions', WHERE WHAT IT READS IS OF BULK AT MOST 1048576: true; the input reads as it did. -/
def fnExactCompareVersionsUptoRow : OpenClaim := { program := "ytjlepakpcclmpaa", sum := "dc39c162693891f0e308db659585df5243435f98d8bc489603467028f1337725", func := "loop.example/g03016/laws.FnExactCompareVersions", spec := "fnExactCompareVersions", apart := false, narrowed := true }
def FnExactCompareVersionsUptoSaid : Prop := fnExactCompareVersionsUptoRow.holds Try.pinned (OpenSpec.upto fnExactCompareVersionsSpec)

/-- 'laws.FnExactIsNeed', WHERE WHAT IT READS IS OF BULK AT MOST 1048576: true; the input reads as it did. -/
def fnExactIsNeedUptoRow : OpenClaim := { program := "ytjlepakpcclmpaa", sum := "dc39c162693891f0e308db659585df5243435f98d8bc489603467028f1337725", func := "loop.example/g03016/laws.FnExactIsNeed", spec := "fnExactIsNeed", apart := false, narrowed := true }
def FnExactIsNeedUptoSaid : Prop := fnExactIsNeedUptoRow.holds Try.pinned (OpenSpec.upto fnExactIsNeedSpec)

/-- 'laws.FnExactAllowedFace', WHERE WHAT IT READS IS OF BULK AT MOST 1048576: true; the input reads as it did. -/
def fnExactAllowedFaceUptoRow : OpenClaim := { program := "ytjlepakpcclmpaa", sum := "dc39c162693891f0e308db659585df5243435f98d8bc489603467028f1337725", func := "loop.example/g03016/laws.FnExactAllowedFace", spec := "fnExactAllowedFace", apart := false, narrowed := true }
def FnExactAllowedFaceUptoSaid : Prop := fnExactAllowedFaceUptoRow.holds Try.pinned (OpenSpec.upto fnExactAllowedFaceSpec)

/-- 'laws.FnExactLeastVersion', WHERE WHAT IT READS IS OF BULK AT MOST 1048576: true; the input reads as it did. -/
def fnExactLeastVersionUptoRow : OpenClaim := { program := "ytjlepakpcclmpaa", sum := "dc39c162693891f0e308db659585df5243435f98d8bc489603467028f1337725", func := "loop.example/g03016/laws.FnExactLeastVersion", spec := "fnExactLeastVersion", apart := false, narrowed := true }
def FnExactLeastVersionUptoSaid : Prop := fnExactLeastVersionUptoRow.holds Try.pinned (OpenSpec.upto fnExactLeastVersionSpec)

end Rows
end Go.Proofs.Ytjlepakpcclmpaa
