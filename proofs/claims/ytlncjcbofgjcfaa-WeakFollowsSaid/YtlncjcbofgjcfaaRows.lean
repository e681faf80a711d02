/-
  No cell of these rows narrows 'for every input' (looked for: loops, veiled, ifaces, maps, wideKeys, modest, calm, conditions, laid).
  DERIVED. THE GIVEN ROWS OF THIS SEAT. 6 by the template 'for every input the law returns true; each argument reads behind the call as it read before'; 0 by the template 'total and deterministic' (their statements: YtlncjcbofgjcfaaTotals.lean).
  GIVEN WITH THE SEED: the statements are not yours to turn. If you find one false, say at which input.
  Laid BY PROGRAM, IN A SANDBOX (cutbox-rows.mjs): the forced cells as the released guide's own fill.sh prints them over the translation 071047f09831422e… (all of the seat's roots in one cut). By AI agents, Wed Nov 11 2026. No macro, syntax, notation, axiom, sorry.
-/
import Derived.Test.YtlncjcbofgjcfaaChecked
import GoSem.Claim
import GoSem.ClaimJoined
import GoSem.ClaimMapViews
import Derived.JoinedTies
import Derived.KernelRfl
namespace Go.Proofs.Ytlncjcbofgjcfaa
/- THE CELL 'sum', in the pinned program and in every row, IS THE sha256 OF THE DUMP (.gsa) THAT YtlncjcbofgjcfaaProg.lean LOADS. Nothing in Lean hashes anything: it is a label: what it is worth is what the hold of that sum in a sandbox is worth. -/
noncomputable def Try.pinned : Pinned := { name := "ytlncjcbofgjcfaa", sum := "071047f09831422ecf382c4c550427e734a76555eea6da1d10446d2f62440d03", checked := Try.checked }
namespace Rows
def none {H : Type} : Left H := { results := [], args := [] }

/-- 'jostlelaw13.BagMins': WHATEVER THE INPUT: true; the input reads as it did. -/
def bagMinsSpec : ChangeSpec := { name := "bagMins", fn := fun _ => fun
  | [d] => { results := [.lit (.bool true)], args := [d] }
  | _ => none }
def bagMinsRow : OpenClaim := { program := "ytlncjcbofgjcfaa", sum := "071047f09831422ecf382c4c550427e734a76555eea6da1d10446d2f62440d03", func := "jostle/jostlelaw13.BagMins", spec := "bagMins", inPlace := ["slices.overlaps[jostle/bag.Pair]"], unfollowed := true, recurses := true, plainKeys := false, apart := false }
def BagMinsSaid : Prop := bagMinsRow.holds Try.pinned (OpenSpec.ofChange bagMinsSpec)

/-- ITS FALSE NEIGHBOUR: 'it returns false'. Refute it at one input. -/
def bagMinsWrong : ChangeSpec := { name := "bagMins", fn := fun _ => fun
  | [d] => { results := [.lit (.bool false)], args := [d] }
  | _ => none }
def BagMinsWrongFalsely : Prop := bagMinsRow.holds Try.pinned (OpenSpec.ofChange bagMinsWrong)

/-- 'jostlelaw13.BagPlays': WHATEVER THE INPUT: true; the input reads as it did. -/
def bagPlaysSpec : ChangeSpec := { name := "bagPlays", fn := fun _ => fun
  | [d] => { results := [.lit (.bool true)], args := [d] }
  | _ => none }
def bagPlaysRow : OpenClaim := { program := "ytlncjcbofgjcfaa", sum := "071047f09831422ecf382c4c550427e734a76555eea6da1d10446d2f62440d03", func := "jostle/jostlelaw13.BagPlays", spec := "bagPlays", inPlace := ["slices.overlaps[jostle/bag.Pair]"], unfollowed := true, recurses := true, plainKeys := false, apart := false }
def BagPlaysSaid : Prop := bagPlaysRow.holds Try.pinned (OpenSpec.ofChange bagPlaysSpec)

/-- ITS FALSE NEIGHBOUR: 'it returns false'. Refute it at one input. -/
def bagPlaysWrong : ChangeSpec := { name := "bagPlays", fn := fun _ => fun
  | [d] => { results := [.lit (.bool false)], args := [d] }
  | _ => none }
def BagPlaysWrongFalsely : Prop := bagPlaysRow.holds Try.pinned (OpenSpec.ofChange bagPlaysWrong)

/-- 'jostlelaw15.LinHistories': WHATEVER THE INPUT: true; the input reads as it did. -/
def linHistoriesSpec : ChangeSpec := { name := "linHistories", fn := fun _ => fun
  | [d] => { results := [.lit (.bool true)], args := [d] }
  | _ => none }
def linHistoriesRow : OpenClaim := { program := "ytlncjcbofgjcfaa", sum := "071047f09831422ecf382c4c550427e734a76555eea6da1d10446d2f62440d03", func := "jostle/jostlelaw15.LinHistories", spec := "linHistories", inPlace := ["slices.overlaps[jostle/bag.Pair]"], unfollowed := true, recurses := true, plainKeys := false, apart := false }
def LinHistoriesSaid : Prop := linHistoriesRow.holds Try.pinned (OpenSpec.ofChange linHistoriesSpec)

/-- ITS FALSE NEIGHBOUR: 'it returns false'. Refute it at one input. -/
def linHistoriesWrong : ChangeSpec := { name := "linHistories", fn := fun _ => fun
  | [d] => { results := [.lit (.bool false)], args := [d] }
  | _ => none }
def LinHistoriesWrongFalsely : Prop := linHistoriesRow.holds Try.pinned (OpenSpec.ofChange linHistoriesWrong)

/-- 'jostlelaw15.LinAlone': WHATEVER THE INPUT: true; the input reads as it did. -/
def linAloneSpec : ChangeSpec := { name := "linAlone", fn := fun _ => fun
  | [d1, d2] => { results := [.lit (.bool true)], args := [d1, d2] }
  | _ => none }
def linAloneRow : OpenClaim := { program := "ytlncjcbofgjcfaa", sum := "071047f09831422ecf382c4c550427e734a76555eea6da1d10446d2f62440d03", func := "jostle/jostlelaw15.LinAlone", spec := "linAlone", inPlace := ["slices.overlaps[jostle/bag.Pair]"], unfollowed := true, recurses := true, plainKeys := false, apart := false }
def LinAloneSaid : Prop := linAloneRow.holds Try.pinned (OpenSpec.ofChange linAloneSpec)

/-- ITS FALSE NEIGHBOUR: 'it returns false'. Refute it at one input. -/
def linAloneWrong : ChangeSpec := { name := "linAlone", fn := fun _ => fun
  | [d1, d2] => { results := [.lit (.bool false)], args := [d1, d2] }
  | _ => none }
def LinAloneWrongFalsely : Prop := linAloneRow.holds Try.pinned (OpenSpec.ofChange linAloneWrong)

/-- 'jostlelaw15.LinPrefixes': WHATEVER THE INPUT: true; the input reads as it did. -/
def linPrefixesSpec : ChangeSpec := { name := "linPrefixes", fn := fun _ => fun
  | [d1, d2] => { results := [.lit (.bool true)], args := [d1, d2] }
  | _ => none }
def linPrefixesRow : OpenClaim := { program := "ytlncjcbofgjcfaa", sum := "071047f09831422ecf382c4c550427e734a76555eea6da1d10446d2f62440d03", func := "jostle/jostlelaw15.LinPrefixes", spec := "linPrefixes", inPlace := ["slices.overlaps[jostle/bag.Pair]"], unfollowed := true, recurses := true, plainKeys := false, apart := false }
def LinPrefixesSaid : Prop := linPrefixesRow.holds Try.pinned (OpenSpec.ofChange linPrefixesSpec)

/-- ITS FALSE NEIGHBOUR: 'it returns false'. Refute it at one input. -/
def linPrefixesWrong : ChangeSpec := { name := "linPrefixes", fn := fun _ => fun
  | [d1, d2] => { results := [.lit (.bool false)], args := [d1, d2] }
  | _ => none }
def LinPrefixesWrongFalsely : Prop := linPrefixesRow.holds Try.pinned (OpenSpec.ofChange linPrefixesWrong)

/-- 'jostlelaw39.WeakFollows': WHATEVER THE INPUT: true; the input reads as it did. -/
def weakFollowsSpec : ChangeSpec := { name := "weakFollows", fn := fun _ => fun
  | [d] => { results := [.lit (.bool true)], args := [d] }
  | _ => none }
def weakFollowsRow : OpenClaim := { program := "ytlncjcbofgjcfaa", sum := "071047f09831422ecf382c4c550427e734a76555eea6da1d10446d2f62440d03", func := "jostle/jostlelaw39.WeakFollows", spec := "weakFollows", inPlace := ["slices.overlaps[jostle/bag.Pair]"], unfollowed := true, recurses := true, plainKeys := false, apart := false }
def WeakFollowsSaid : Prop := weakFollowsRow.holds Try.pinned (OpenSpec.ofChange weakFollowsSpec)

/-- ITS FALSE NEIGHBOUR: 'it returns false'. Refute it at one input. -/
def weakFollowsWrong : ChangeSpec := { name := "weakFollows", fn := fun _ => fun
  | [d] => { results := [.lit (.bool false)], args := [d] }
  | _ => none }
def WeakFollowsWrongFalsely : Prop := weakFollowsRow.holds Try.pinned (OpenSpec.ofChange weakFollowsWrong)

/- THE SECOND FORM. 'bulk': how many values and letters a reading holds, each counted each time it is reached (what is shared counts as often as it is met; a slice's spare places count too). A statement '..UptoSaid' is the law's where the arguments, and the package variables that the reading takes, are together of bulk at most 1048576: NARROWER than '..Said'. Prove '..Said' where nothing that the law and all that it calls make is longer than what came in: it says more and counts as full. Else prove '..UptoSaid'. A law counts once. -/
mutual
def uptoBulk {H : Type} : DataW H → Nat
  | .lit (.string bytes) => bytes.length + 1
  | .lit _ => 1
  | .nil => 1
  | .ptr d => uptoBulk d + 1
  | .slice elems spare => uptoBulkAll elems + uptoBulkAll spare + 1
  | .agg parts => uptoBulkAll parts + 1
  | .iface _ d => uptoBulk d + 1
  | .map entries => uptoBulkEntries entries + 1
  | .held _ => 1
def uptoBulkAll {H : Type} : List (DataW H) → Nat
  | [] => 0
  | d :: r => uptoBulk d + uptoBulkAll r
def uptoBulkEntries {H : Type} : List (Lit × DataW H) → Nat
  | [] => 0
  | x :: r => uptoBulkEntry x + uptoBulkEntries r
def uptoBulkEntry {H : Type} : Lit × DataW H → Nat
  | (.string bytes, d) => bytes.length + uptoBulk d + 1
  | (_, d) => uptoBulk d + 1
 end
def uptoSmall : (H : Type) → List (DataW H) → Bool := fun _ ds => decide (uptoBulkAll ds ≤ 1048576)
def OpenSpec.upto (s : _root_.Go.ChangeSpec) : _root_.Go.OpenSpec := { _root_.Go.OpenSpec.ofChange s with cond := some uptoSmall }

/-- 'jostlelaw13.BagMins', WHERE WHAT IT READS IS OF BULK AT MOST 1048576: true; the input reads as it did. -/
def bagMinsUptoRow : OpenClaim := { program := "ytlncjcbofgjcfaa", sum := "071047f09831422ecf382c4c550427e734a76555eea6da1d10446d2f62440d03", func := "jostle/jostlelaw13.BagMins", spec := "bagMins", inPlace := ["slices.overlaps[jostle/bag.Pair]"], unfollowed := true, recurses := true, plainKeys := false, apart := false, narrowed := true }
def BagMinsUptoSaid : Prop := bagMinsUptoRow.holds Try.pinned (OpenSpec.upto bagMinsSpec)

/-- 'jostlelaw13.BagPlays', WHERE WHAT IT READS IS OF BULK AT MOST 1048576: true; the input reads as it did. -/
def bagPlaysUptoRow : OpenClaim := { program := "ytlncjcbofgjcfaa", sum := "071047f09831422ecf382c4c550427e734a76555eea6da1d10446d2f62440d03", func := "jostle/jostlelaw13.BagPlays", spec := "bagPlays", inPlace := ["slices.overlaps[jostle/bag.Pair]"], unfollowed := true, recurses := true, plainKeys := false, apart := false, narrowed := true }
def BagPlaysUptoSaid : Prop := bagPlaysUptoRow.holds Try.pinned (OpenSpec.upto bagPlaysSpec)

/-- 'jostlelaw15.LinHistories', WHERE WHAT IT READS IS OF BULK AT MOST 1048576: true; the input reads as it did. -/
def linHistoriesUptoRow : OpenClaim := { program := "ytlncjcbofgjcfaa", sum := "071047f09831422ecf382c4c550427e734a76555eea6da1d10446d2f62440d03", func := "jostle/jostlelaw15.LinHistories", spec := "linHistories", inPlace := ["slices.overlaps[jostle/bag.Pair]"], unfollowed := true, recurses := true, plainKeys := false, apart := false, narrowed := true }
def LinHistoriesUptoSaid : Prop := linHistoriesUptoRow.holds Try.pinned (OpenSpec.upto linHistoriesSpec)

/-- 'jostlelaw15.LinAlone', WHERE WHAT IT READS IS OF BULK AT MOST 1048576: true; the input reads as it did. -/
def linAloneUptoRow : OpenClaim := { program := "ytlncjcbofgjcfaa", sum := "071047f09831422ecf382c4c550427e734a76555eea6da1d10446d2f62440d03", func := "jostle/jostlelaw15.LinAlone", spec := "linAlone", inPlace := ["slices.overlaps[jostle/bag.Pair]"], unfollowed := true, recurses := true, plainKeys := false, apart := false, narrowed := true }
def LinAloneUptoSaid : Prop := linAloneUptoRow.holds Try.pinned (OpenSpec.upto linAloneSpec)

/-- 'jostlelaw15.LinPrefixes', WHERE WHAT IT READS IS OF BULK AT MOST 1048576: true; the input reads as it did. -/
def linPrefixesUptoRow : OpenClaim := { program := "ytlncjcbofgjcfaa", sum := "071047f09831422ecf382c4c550427e734a76555eea6da1d10446d2f62440d03", func := "jostle/jostlelaw15.LinPrefixes", spec := "linPrefixes", inPlace := ["slices.overlaps[jostle/bag.Pair]"], unfollowed := true, recurses := true, plainKeys := false, apart := false, narrowed := true }
def LinPrefixesUptoSaid : Prop := linPrefixesUptoRow.holds Try.pinned (OpenSpec.upto linPrefixesSpec)

/-- 'jostlelaw39.WeakFollows', WHERE WHAT IT READS IS OF BULK AT MOST 1048576: true; the input reads as it did. -/
def weakFollowsUptoRow : OpenClaim := { program := "ytlncjcbofgjcfaa", sum := "071047f09831422ecf382c4c550427e734a76555eea6da1d10446d2f62440d03", func := "jostle/jostlelaw39.WeakFollows", spec := "weakFollows", inPlace := ["slices.overlaps[jostle/bag.Pair]"], unfollowed := true, recurses := true, plainKeys := false, apart := false, narrowed := true }
def WeakFollowsUptoSaid : Prop := weakFollowsUptoRow.holds Try.pinned (OpenSpec.upto weakFollowsSpec)

end Rows
end Go.Proofs.Ytlncjcbofgjcfaa
