/-
  No cell of these rows narrows 'for every input' (looked for: loops, veiled, ifaces, maps, wideKeys, modest, calm, conditions, laid).
  DERIVED. THE GIVEN ROWS OF THIS SEAT. 6 by the template 'for every input the law returns true; each argument reads behind the call as it read before'; 0 by the template 'total and deterministic' (their statements: YtahpbclnkofhfaaGreatTotals.lean).
  GIVEN WITH THE SEED: the statements are not yours to turn. If you find one false, say at which input.
  Laid BY PROGRAM, IN A SANDBOX (cutbox-rows.mjs): the forced cells as the released guide's own fill.sh prints them over the translation 0c1cd8e075f37b57… (all of the seat's roots in one cut). By AI agents, Wed Nov 11 2026. No macro, syntax, notation, axiom, sorry.
-/
import Derived.Test.YtahpbclnkofhfaaGreatChecked
import GoSem.Claim
import GoSem.ClaimJoined
import GoSem.ClaimMapViews
import Derived.JoinedTies
import Derived.KernelRfl
namespace Go.Proofs.YtahpbclnkofhfaaGreat
/- THE CELL 'sum', in the pinned program and in every row, IS THE sha256 OF THE DUMP (.gsa) THAT YtahpbclnkofhfaaGreatProg.lean LOADS. Nothing in Lean hashes anything: it is a label: what it is worth is what the hold of that sum in a sandbox is worth. -/
noncomputable def Tryz.pinned : Pinned := { name := "ytahpbclnkofhfaagreat", sum := "0c1cd8e075f37b57800a1eb945fa9f6cc09337386a40aa0a494c5b2633937b6e", checked := Tryz.checked }
namespace Rows
def none {H : Type} : Left H := { results := [], args := [] }

/-- 'jostlelaw30.RunGaps': WHATEVER THE INPUT: true; the input reads as it did. -/
def runGapsSpec : ChangeSpec := { name := "runGaps", fn := fun _ => fun
  | [d1, d2] => { results := [.lit (.bool true)], args := [d1, d2] }
  | _ => none }
def runGapsRow : OpenClaim := { program := "ytahpbclnkofhfaagreat", sum := "0c1cd8e075f37b57800a1eb945fa9f6cc09337386a40aa0a494c5b2633937b6e", func := "jostle/jostlelaw30.RunGaps", spec := "runGaps", unfollowed := true, recurses := true, apart := false }
def RunGapsSaid : Prop := runGapsRow.holds Tryz.pinned (OpenSpec.ofChange runGapsSpec)

/-- ITS FALSE NEIGHBOUR: 'it returns false'. Refute it at one input. -/
def runGapsWrong : ChangeSpec := { name := "runGaps", fn := fun _ => fun
  | [d1, d2] => { results := [.lit (.bool false)], args := [d1, d2] }
  | _ => none }
def RunGapsWrongFalsely : Prop := runGapsRow.holds Tryz.pinned (OpenSpec.ofChange runGapsWrong)

/-- 'jostlelaw34.TraceOwn': WHATEVER THE INPUT: true; the input reads as it did. -/
def traceOwnSpec : ChangeSpec := { name := "traceOwn", fn := fun _ => fun
  | [d1, d2] => { results := [.lit (.bool true)], args := [d1, d2] }
  | _ => none }
def traceOwnRow : OpenClaim := { program := "ytahpbclnkofhfaagreat", sum := "0c1cd8e075f37b57800a1eb945fa9f6cc09337386a40aa0a494c5b2633937b6e", func := "jostle/jostlelaw34.TraceOwn", spec := "traceOwn", inPlace := ["internal/abi.NoEscape", "internal/bytealg.MakeNoZero"], unfollowed := true, recurses := true, apart := false }
def TraceOwnSaid : Prop := traceOwnRow.holds Tryz.pinned (OpenSpec.ofChange traceOwnSpec)

/-- ITS FALSE NEIGHBOUR: 'it returns false'. Refute it at one input. -/
def traceOwnWrong : ChangeSpec := { name := "traceOwn", fn := fun _ => fun
  | [d1, d2] => { results := [.lit (.bool false)], args := [d1, d2] }
  | _ => none }
def TraceOwnWrongFalsely : Prop := traceOwnRow.holds Tryz.pinned (OpenSpec.ofChange traceOwnWrong)

/-- 'jostlelaw38.ShrinkScripts': WHATEVER THE INPUT: true; the input reads as it did. -/
def shrinkScriptsSpec : ChangeSpec := { name := "shrinkScripts", fn := fun _ => fun
  | [d1, d2, d3] => { results := [.lit (.bool true)], args := [d1, d2, d3] }
  | _ => none }
def shrinkScriptsRow : OpenClaim := { program := "ytahpbclnkofhfaagreat", sum := "0c1cd8e075f37b57800a1eb945fa9f6cc09337386a40aa0a494c5b2633937b6e", func := "jostle/jostlelaw38.ShrinkScripts", spec := "shrinkScripts", unfollowed := true, recurses := true, apart := false }
def ShrinkScriptsSaid : Prop := shrinkScriptsRow.holds Tryz.pinned (OpenSpec.ofChange shrinkScriptsSpec)

/-- ITS FALSE NEIGHBOUR: 'it returns false'. Refute it at one input. -/
def shrinkScriptsWrong : ChangeSpec := { name := "shrinkScripts", fn := fun _ => fun
  | [d1, d2, d3] => { results := [.lit (.bool false)], args := [d1, d2, d3] }
  | _ => none }
def ShrinkScriptsWrongFalsely : Prop := shrinkScriptsRow.holds Tryz.pinned (OpenSpec.ofChange shrinkScriptsWrong)

/-- 'jostlelaw34.TraceParts': WHATEVER THE INPUT: true; the input reads as it did. -/
def tracePartsSpec : ChangeSpec := { name := "traceParts", fn := fun _ => fun
  | [d1, d2, d3] => { results := [.lit (.bool true)], args := [d1, d2, d3] }
  | _ => none }
def tracePartsRow : OpenClaim := { program := "ytahpbclnkofhfaagreat", sum := "0c1cd8e075f37b57800a1eb945fa9f6cc09337386a40aa0a494c5b2633937b6e", func := "jostle/jostlelaw34.TraceParts", spec := "traceParts", inPlace := ["internal/abi.NoEscape", "internal/bytealg.MakeNoZero"], unfollowed := true, recurses := true, apart := false }
def TracePartsSaid : Prop := tracePartsRow.holds Tryz.pinned (OpenSpec.ofChange tracePartsSpec)

/-- ITS FALSE NEIGHBOUR: 'it returns false'. Refute it at one input. -/
def tracePartsWrong : ChangeSpec := { name := "traceParts", fn := fun _ => fun
  | [d1, d2, d3] => { results := [.lit (.bool false)], args := [d1, d2, d3] }
  | _ => none }
def TracePartsWrongFalsely : Prop := tracePartsRow.holds Tryz.pinned (OpenSpec.ofChange tracePartsWrong)

/-- 'jostlelaw34.TraceRuns': WHATEVER THE INPUT: true; the input reads as it did. -/
def traceRunsSpec : ChangeSpec := { name := "traceRuns", fn := fun _ => fun
  | [d1, d2] => { results := [.lit (.bool true)], args := [d1, d2] }
  | _ => none }
def traceRunsRow : OpenClaim := { program := "ytahpbclnkofhfaagreat", sum := "0c1cd8e075f37b57800a1eb945fa9f6cc09337386a40aa0a494c5b2633937b6e", func := "jostle/jostlelaw34.TraceRuns", spec := "traceRuns", inPlace := ["internal/abi.NoEscape", "internal/bytealg.MakeNoZero"], unfollowed := true, recurses := true, apart := false }
def TraceRunsSaid : Prop := traceRunsRow.holds Tryz.pinned (OpenSpec.ofChange traceRunsSpec)

/-- ITS FALSE NEIGHBOUR: 'it returns false'. Refute it at one input. -/
def traceRunsWrong : ChangeSpec := { name := "traceRuns", fn := fun _ => fun
  | [d1, d2] => { results := [.lit (.bool false)], args := [d1, d2] }
  | _ => none }
def TraceRunsWrongFalsely : Prop := traceRunsRow.holds Tryz.pinned (OpenSpec.ofChange traceRunsWrong)

/-- 'jostlelaw40.TallyCounts': WHATEVER THE INPUT: true; the input reads as it did. -/
def tallyCountsSpec : ChangeSpec := { name := "tallyCounts", fn := fun _ => fun
  | [d1, d2] => { results := [.lit (.bool true)], args := [d1, d2] }
  | _ => none }
def tallyCountsRow : OpenClaim := { program := "ytahpbclnkofhfaagreat", sum := "0c1cd8e075f37b57800a1eb945fa9f6cc09337386a40aa0a494c5b2633937b6e", func := "jostle/jostlelaw40.TallyCounts", spec := "tallyCounts", inPlace := ["internal/abi.NoEscape"], unfollowed := true, recurses := true, apart := false }
def TallyCountsSaid : Prop := tallyCountsRow.holds Tryz.pinned (OpenSpec.ofChange tallyCountsSpec)

/-- ITS FALSE NEIGHBOUR: 'it returns false'. Refute it at one input. -/
def tallyCountsWrong : ChangeSpec := { name := "tallyCounts", fn := fun _ => fun
  | [d1, d2] => { results := [.lit (.bool false)], args := [d1, d2] }
  | _ => none }
def TallyCountsWrongFalsely : Prop := tallyCountsRow.holds Tryz.pinned (OpenSpec.ofChange tallyCountsWrong)

/- THE SECOND FORM. 'bulk': how many values and letters a reading holds, each counted each time it is reached (what is shared counts as often as it is met; a slice's spare places count too). A statement '..UptoSaid' is the law's where the arguments, and the package variables that the reading takes, are together of bulk at most 1048576: NARROWER than '..Said'. Prove '..Said' where nothing that the law and all that it calls make is longer than what came in: it says more and counts as full. Else prove '..UptoSaid'. A law counts once. -/
mutual
def uptoBulk {H : Type} : DataW H → Nat
  | .lit (.string bytes) => bytes.length + 1
  | .lit _ => 1
  | .nil => 1
  | .ptr d => uptoBulk d + 1
  | .slice elems spare => uptoBulkAll elems + uptoBulkAll spare + 1
  | .agg parts => uptoBulkAll parts + 1
  | .iface _ d => uptoBulk d + 1
  | .map entries => uptoBulkEntries entries + 1
  | .held _ => 1
def uptoBulkAll {H : Type} : List (DataW H) → Nat
  | [] => 0
  | d :: r => uptoBulk d + uptoBulkAll r
def uptoBulkEntries {H : Type} : List (Lit × DataW H) → Nat
  | [] => 0
  | x :: r => uptoBulkEntry x + uptoBulkEntries r
def uptoBulkEntry {H : Type} : Lit × DataW H → Nat
  | (.string bytes, d) => bytes.length + uptoBulk d + 1
  | (_, d) => uptoBulk d + 1
 end
def uptoSmall : (H : Type) → List (DataW H) → Bool := fun _ ds => decide (uptoBulkAll ds ≤ 1048576)
def OpenSpec.upto (s : _root_.Go.ChangeSpec) : _root_.Go.OpenSpec := { _root_.Go.OpenSpec.ofChange s with cond := some uptoSmall }

/-- 'jostlelaw30.RunGaps', WHERE WHAT IT READS IS OF BULK AT MOST 1048576: true; the input reads as it did. -/
def runGapsUptoRow : OpenClaim := { program := "ytahpbclnkofhfaagreat", sum := "0c1cd8e075f37b57800a1eb945fa9f6cc09337386a40aa0a494c5b2633937b6e", func := "jostle/jostlelaw30.RunGaps", spec := "runGaps", unfollowed := true, recurses := true, apart := false, narrowed := true }
def RunGapsUptoSaid : Prop := runGapsUptoRow.holds Tryz.pinned (OpenSpec.upto runGapsSpec)

/-- 'jostlelaw34.TraceOwn', WHERE WHAT IT READS IS OF BULK AT MOST 1048576: true; the input reads as it did. -/
def traceOwnUptoRow : OpenClaim := { program := "ytahpbclnkofhfaagreat", sum := "0c1cd8e075f37b57800a1eb945fa9f6cc09337386a40aa0a494c5b2633937b6e", func := "jostle/jostlelaw34.TraceOwn", spec := "traceOwn", inPlace := ["internal/abi.NoEscape", "internal/bytealg.MakeNoZero"], unfollowed := true, recurses := true, apart := false, narrowed := true }
def TraceOwnUptoSaid : Prop := traceOwnUptoRow.holds Tryz.pinned (OpenSpec.upto traceOwnSpec)

/-- 'jostlelaw38.ShrinkScripts', WHERE WHAT IT READS IS OF BULK AT MOST 1048576: true; the input reads as it did. -/
def shrinkScriptsUptoRow : OpenClaim := { program := "ytahpbclnkofhfaagreat", sum := "0c1cd8e075f37b57800a1eb945fa9f6cc09337386a40aa0a494c5b2633937b6e", func := "jostle/jostlelaw38.ShrinkScripts", spec := "shrinkScripts", unfollowed := true, recurses := true, apart := false, narrowed := true }
def ShrinkScriptsUptoSaid : Prop := shrinkScriptsUptoRow.holds Tryz.pinned (OpenSpec.upto shrinkScriptsSpec)

/-- 'jostlelaw34.TraceParts', WHERE WHAT IT READS IS OF BULK AT MOST 1048576: true; the input reads as it did. -/
def tracePartsUptoRow : OpenClaim := { program := "ytahpbclnkofhfaagreat", sum := "0c1cd8e075f37b57800a1eb945fa9f6cc09337386a40aa0a494c5b2633937b6e", func := "jostle/jostlelaw34.TraceParts", spec := "traceParts", inPlace := ["internal/abi.NoEscape", "internal/bytealg.MakeNoZero"], unfollowed := true, recurses := true, apart := false, narrowed := true }
def TracePartsUptoSaid : Prop := tracePartsUptoRow.holds Tryz.pinned (OpenSpec.upto tracePartsSpec)

/-- 'jostlelaw34.TraceRuns', WHERE WHAT IT READS IS OF BULK AT MOST 1048576: true; the input reads as it did. -/
def traceRunsUptoRow : OpenClaim := { program := "ytahpbclnkofhfaagreat", sum := "0c1cd8e075f37b57800a1eb945fa9f6cc09337386a40aa0a494c5b2633937b6e", func := "jostle/jostlelaw34.TraceRuns", spec := "traceRuns", inPlace := ["internal/abi.NoEscape", "internal/bytealg.MakeNoZero"], unfollowed := true, recurses := true, apart := false, narrowed := true }
def TraceRunsUptoSaid : Prop := traceRunsUptoRow.holds Tryz.pinned (OpenSpec.upto traceRunsSpec)

/-- 'jostlelaw40.TallyCounts', WHERE WHAT IT READS IS OF BULK AT MOST 1048576: true; the input reads as it did. -/
def tallyCountsUptoRow : OpenClaim := { program := "ytahpbclnkofhfaagreat", sum := "0c1cd8e075f37b57800a1eb945fa9f6cc09337386a40aa0a494c5b2633937b6e", func := "jostle/jostlelaw40.TallyCounts", spec := "tallyCounts", inPlace := ["internal/abi.NoEscape"], unfollowed := true, recurses := true, apart := false, narrowed := true }
def TallyCountsUptoSaid : Prop := tallyCountsUptoRow.holds Tryz.pinned (OpenSpec.upto tallyCountsSpec)

end Rows
end Go.Proofs.YtahpbclnkofhfaaGreat
