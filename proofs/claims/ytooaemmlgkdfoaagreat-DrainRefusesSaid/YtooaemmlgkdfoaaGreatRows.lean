/-
  No cell of these rows narrows 'for every input' (looked for: loops, veiled, ifaces, maps, wideKeys, modest, calm, conditions, laid).
  DERIVED. THE GIVEN ROWS OF THIS SEAT. 4 by the template 'for every input the law returns true; each argument reads behind the call as it read before'; 0 by the template 'total and deterministic' (their statements: YtooaemmlgkdfoaaGreatTotals.lean).
  GIVEN WITH THE SEED: the statements are not yours to turn. If you find one false, say at which input.
  Laid BY PROGRAM, IN A SANDBOX (cutbox-rows.mjs): the forced cells as the released guide's own fill.sh prints them over the translation e6eadc9a4684633b… (all of the seat's roots in one cut). By AI agents, Wed Nov 11 2026. No macro, syntax, notation, axiom, sorry.
-/
import Derived.Test.YtooaemmlgkdfoaaGreatChecked
import GoSem.Claim
import GoSem.ClaimJoined
import GoSem.ClaimMapViews
import Derived.JoinedTies
import Derived.KernelRfl
namespace Go.Proofs.YtooaemmlgkdfoaaGreat
/- THE CELL 'sum', in the pinned program and in every row, IS THE sha256 OF THE DUMP (.gsa) THAT YtooaemmlgkdfoaaGreatProg.lean LOADS. Nothing in Lean hashes anything: it is a label: what it is worth is what the hold of that sum in a sandbox is worth. -/
noncomputable def Tryz.pinned : Pinned := { name := "ytooaemmlgkdfoaagreat", sum := "e6eadc9a4684633b77c75e9007682a6c3359a4b7b880ce97ae7a1f12d096c7b0", checked := Tryz.checked }
namespace Rows
def none {H : Type} : Left H := { results := [], args := [] }

/-- 'jostlelaw22.MviewNone': WHATEVER THE INPUT: true; the input reads as it did. -/
def mviewNoneSpec : ChangeSpec := { name := "mviewNone", fn := fun _ => fun
  | [d] => { results := [.lit (.bool true)], args := [d] }
  | _ => none }
def mviewNoneRow : OpenClaim := { program := "ytooaemmlgkdfoaagreat", sum := "e6eadc9a4684633b77c75e9007682a6c3359a4b7b880ce97ae7a1f12d096c7b0", func := "jostle/jostlelaw22.MviewNone", spec := "mviewNone", unfollowed := true, recurses := true, apart := false }
def MviewNoneSaid : Prop := mviewNoneRow.holds Tryz.pinned (OpenSpec.ofChange mviewNoneSpec)

/-- ITS FALSE NEIGHBOUR: 'it returns false'. Refute it at one input. -/
def mviewNoneWrong : ChangeSpec := { name := "mviewNone", fn := fun _ => fun
  | [d] => { results := [.lit (.bool false)], args := [d] }
  | _ => none }
def MviewNoneWrongFalsely : Prop := mviewNoneRow.holds Tryz.pinned (OpenSpec.ofChange mviewNoneWrong)

/-- 'jostlelaw34.TraceParts': WHATEVER THE INPUT: true; the input reads as it did. -/
def tracePartsSpec : ChangeSpec := { name := "traceParts", fn := fun _ => fun
  | [d1, d2, d3] => { results := [.lit (.bool true)], args := [d1, d2, d3] }
  | _ => none }
def tracePartsRow : OpenClaim := { program := "ytooaemmlgkdfoaagreat", sum := "e6eadc9a4684633b77c75e9007682a6c3359a4b7b880ce97ae7a1f12d096c7b0", func := "jostle/jostlelaw34.TraceParts", spec := "traceParts", inPlace := ["internal/abi.NoEscape", "internal/bytealg.MakeNoZero"], unfollowed := true, recurses := true, apart := false }
def TracePartsSaid : Prop := tracePartsRow.holds Tryz.pinned (OpenSpec.ofChange tracePartsSpec)

/-- ITS FALSE NEIGHBOUR: 'it returns false'. Refute it at one input. -/
def tracePartsWrong : ChangeSpec := { name := "traceParts", fn := fun _ => fun
  | [d1, d2, d3] => { results := [.lit (.bool false)], args := [d1, d2, d3] }
  | _ => none }
def TracePartsWrongFalsely : Prop := tracePartsRow.holds Tryz.pinned (OpenSpec.ofChange tracePartsWrong)

/-- 'jostlelaw31.DrainRefuses': WHATEVER THE INPUT: true; the input reads as it did. -/
def drainRefusesSpec : ChangeSpec := { name := "drainRefuses", fn := fun _ => fun
  | [d] => { results := [.lit (.bool true)], args := [d] }
  | _ => none }
def drainRefusesRow : OpenClaim := { program := "ytooaemmlgkdfoaagreat", sum := "e6eadc9a4684633b77c75e9007682a6c3359a4b7b880ce97ae7a1f12d096c7b0", func := "jostle/jostlelaw31.DrainRefuses", spec := "drainRefuses", unfollowed := true, recurses := true, apart := false }
def DrainRefusesSaid : Prop := drainRefusesRow.holds Tryz.pinned (OpenSpec.ofChange drainRefusesSpec)

/-- ITS FALSE NEIGHBOUR: 'it returns false'. Refute it at one input. -/
def drainRefusesWrong : ChangeSpec := { name := "drainRefuses", fn := fun _ => fun
  | [d] => { results := [.lit (.bool false)], args := [d] }
  | _ => none }
def DrainRefusesWrongFalsely : Prop := drainRefusesRow.holds Tryz.pinned (OpenSpec.ofChange drainRefusesWrong)

/-- 'jostlelaw33.ReportCalls': WHATEVER THE INPUT: true; the input reads as it did. -/
def reportCallsSpec : ChangeSpec := { name := "reportCalls", fn := fun _ => fun
  | [d] => { results := [.lit (.bool true)], args := [d] }
  | _ => none }
def reportCallsRow : OpenClaim := { program := "ytooaemmlgkdfoaagreat", sum := "e6eadc9a4684633b77c75e9007682a6c3359a4b7b880ce97ae7a1f12d096c7b0", func := "jostle/jostlelaw33.ReportCalls", spec := "reportCalls", inPlace := ["internal/abi.NoEscape", "internal/bytealg.MakeNoZero", "internal/bytealg.IndexByteString", "internal/bytealg.IndexString"], unfollowed := true, recurses := true, named := ["internal/bytealg.MaxLen"], apart := false }
def ReportCallsSaid : Prop := reportCallsRow.holds Tryz.pinned (OpenSpec.ofChange reportCallsSpec)

/-- ITS FALSE NEIGHBOUR: 'it returns false'. Refute it at one input. -/
def reportCallsWrong : ChangeSpec := { name := "reportCalls", fn := fun _ => fun
  | [d] => { results := [.lit (.bool false)], args := [d] }
  | _ => none }
def ReportCallsWrongFalsely : Prop := reportCallsRow.holds Tryz.pinned (OpenSpec.ofChange reportCallsWrong)

/- THE SECOND FORM. 'bulk': how many values and letters a reading holds, each counted each time it is reached (what is shared counts as often as it is met; a slice's spare places count too). A statement '..UptoSaid' is the law's where the arguments, and the package variables that the reading takes, are together of bulk at most 1048576: NARROWER than '..Said'. Prove '..Said' where nothing that the law and all that it calls make is longer than what came in: it says more and counts as full. Else prove '..UptoSaid'. A law counts once. -/
mutual
def uptoBulk {H : Type} : DataW H → Nat
  | .lit (.string bytes) => bytes.length + 1
  | .lit _ => 1
  | .nil => 1
  | .ptr d => uptoBulk d + 1
  | .slice elems spare => uptoBulkAll elems + uptoBulkAll spare + 1
  | .agg parts => uptoBulkAll parts + 1
  | .iface _ d => uptoBulk d + 1
  | .map entries => uptoBulkEntries entries + 1
  | .held _ => 1
def uptoBulkAll {H : Type} : List (DataW H) → Nat
  | [] => 0
  | d :: r => uptoBulk d + uptoBulkAll r
def uptoBulkEntries {H : Type} : List (Lit × DataW H) → Nat
  | [] => 0
  | x :: r => uptoBulkEntry x + uptoBulkEntries r
def uptoBulkEntry {H : Type} : Lit × DataW H → Nat
  | (.string bytes, d) => bytes.length + uptoBulk d + 1
  | (_, d) => uptoBulk d + 1
 end
def uptoSmall : (H : Type) → List (DataW H) → Bool := fun _ ds => decide (uptoBulkAll ds ≤ 1048576)
def OpenSpec.upto (s : _root_.Go.ChangeSpec) : _root_.Go.OpenSpec := { _root_.Go.OpenSpec.ofChange s with cond := some uptoSmall }

/-- 'jostlelaw22.MviewNone', WHERE WHAT IT READS IS OF BULK AT MOST 1048576: true; the input reads as it did. -/
def mviewNoneUptoRow : OpenClaim := { program := "ytooaemmlgkdfoaagreat", sum := "e6eadc9a4684633b77c75e9007682a6c3359a4b7b880ce97ae7a1f12d096c7b0", func := "jostle/jostlelaw22.MviewNone", spec := "mviewNone", unfollowed := true, recurses := true, apart := false, narrowed := true }
def MviewNoneUptoSaid : Prop := mviewNoneUptoRow.holds Tryz.pinned (OpenSpec.upto mviewNoneSpec)

/-- 'jostlelaw34.TraceParts', WHERE WHAT IT READS IS OF BULK AT MOST 1048576: true; the input reads as it did. -/
def tracePartsUptoRow : OpenClaim := { program := "ytooaemmlgkdfoaagreat", sum := "e6eadc9a4684633b77c75e9007682a6c3359a4b7b880ce97ae7a1f12d096c7b0", func := "jostle/jostlelaw34.TraceParts", spec := "traceParts", inPlace := ["internal/abi.NoEscape", "internal/bytealg.MakeNoZero"], unfollowed := true, recurses := true, apart := false, narrowed := true }
def TracePartsUptoSaid : Prop := tracePartsUptoRow.holds Tryz.pinned (OpenSpec.upto tracePartsSpec)

/-- 'jostlelaw31.DrainRefuses', WHERE WHAT IT READS IS OF BULK AT MOST 1048576: true; the input reads as it did. -/
def drainRefusesUptoRow : OpenClaim := { program := "ytooaemmlgkdfoaagreat", sum := "e6eadc9a4684633b77c75e9007682a6c3359a4b7b880ce97ae7a1f12d096c7b0", func := "jostle/jostlelaw31.DrainRefuses", spec := "drainRefuses", unfollowed := true, recurses := true, apart := false, narrowed := true }
def DrainRefusesUptoSaid : Prop := drainRefusesUptoRow.holds Tryz.pinned (OpenSpec.upto drainRefusesSpec)

/-- 'jostlelaw33.ReportCalls', WHERE WHAT IT READS IS OF BULK AT MOST 1048576: true; the input reads as it did. -/
def reportCallsUptoRow : OpenClaim := { program := "ytooaemmlgkdfoaagreat", sum := "e6eadc9a4684633b77c75e9007682a6c3359a4b7b880ce97ae7a1f12d096c7b0", func := "jostle/jostlelaw33.ReportCalls", spec := "reportCalls", inPlace := ["internal/abi.NoEscape", "internal/bytealg.MakeNoZero", "internal/bytealg.IndexByteString", "internal/bytealg.IndexString"], unfollowed := true, recurses := true, named := ["internal/bytealg.MaxLen"], apart := false, narrowed := true }
def ReportCallsUptoSaid : Prop := reportCallsUptoRow.holds Tryz.pinned (OpenSpec.upto reportCallsSpec)

end Rows
end Go.Proofs.YtooaemmlgkdfoaaGreat
