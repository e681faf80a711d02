/-
  No cell of these rows narrows 'for every input' (looked for: loops, veiled, ifaces, maps, wideKeys, modest, calm, conditions, laid).
  DERIVED. THE GIVEN ROWS OF THIS SEAT. 16 by the template 'for every input the law returns true; each argument reads behind the call as it read before'; 0 by the template 'total and deterministic' (their statements: YtgladmaagpcffaaTotals.lean).
  GIVEN WITH THE SEED: the statements are not yours to turn. If you find one false, say at which input.
  Laid BY PROGRAM, IN A SANDBOX (cutbox-rows.mjs): the forced cells as the released guide's own fill.sh prints them over the translation 3450ee7446ca7b37… (all of the seat's roots in one cut). By AI agents, Wed Nov 11 2026. No macro, syntax, notation, axiom, sorry.
-/
import Derived.Test.YtgladmaagpcffaaChecked
import GoSem.Claim
import GoSem.ClaimJoined
import GoSem.ClaimMapViews
import Derived.JoinedTies
import Derived.KernelRfl
namespace Go.Proofs.Ytgladmaagpcffaa
/- THE CELL 'sum', in the pinned program and in every row, IS THE sha256 OF THE DUMP (.gsa) THAT YtgladmaagpcffaaProg.lean LOADS. Nothing in Lean hashes anything: it is a label: what it is worth is what the hold of that sum in a sandbox is worth. -/
noncomputable def Try.pinned : Pinned := { name := "ytgladmaagpcffaa", sum := "3450ee7446ca7b3781fb79b4e01b04daba88b3389aa3034d24f4fa8641efb1e9", checked := Try.checked }
namespace Rows
def none {H : Type} : Left H := { results := [], args := [] }

/-- 'jostlelaw03.SeqsCounts': WHATEVER THE INPUT: true; the input reads as it did. -/
def seqsCountsSpec : ChangeSpec := { name := "seqsCounts", fn := fun _ => fun
  | [d1, d2, d3] => { results := [.lit (.bool true)], args := [d1, d2, d3] }
  | _ => none }
def seqsCountsRow : OpenClaim := { program := "ytgladmaagpcffaa", sum := "3450ee7446ca7b3781fb79b4e01b04daba88b3389aa3034d24f4fa8641efb1e9", func := "jostle/jostlelaw03.SeqsCounts", spec := "seqsCounts", unfollowed := true, recurses := true, apart := false }
def SeqsCountsSaid : Prop := seqsCountsRow.holds Try.pinned (OpenSpec.ofChange seqsCountsSpec)

/-- ITS FALSE NEIGHBOUR: 'it returns false'. Refute it at one input. -/
def seqsCountsWrong : ChangeSpec := { name := "seqsCounts", fn := fun _ => fun
  | [d1, d2, d3] => { results := [.lit (.bool false)], args := [d1, d2, d3] }
  | _ => none }
def SeqsCountsWrongFalsely : Prop := seqsCountsRow.holds Try.pinned (OpenSpec.ofChange seqsCountsWrong)

/-- 'jostlelaw38.ShrinkLists': WHATEVER THE INPUT: true; the input reads as it did. -/
def shrinkListsSpec : ChangeSpec := { name := "shrinkLists", fn := fun _ => fun
  | [d1, d2, d3] => { results := [.lit (.bool true)], args := [d1, d2, d3] }
  | _ => none }
def shrinkListsRow : OpenClaim := { program := "ytgladmaagpcffaa", sum := "3450ee7446ca7b3781fb79b4e01b04daba88b3389aa3034d24f4fa8641efb1e9", func := "jostle/jostlelaw38.ShrinkLists", spec := "shrinkLists", unfollowed := true, recurses := true, apart := false }
def ShrinkListsSaid : Prop := shrinkListsRow.holds Try.pinned (OpenSpec.ofChange shrinkListsSpec)

/-- ITS FALSE NEIGHBOUR: 'it returns false'. Refute it at one input. -/
def shrinkListsWrong : ChangeSpec := { name := "shrinkLists", fn := fun _ => fun
  | [d1, d2, d3] => { results := [.lit (.bool false)], args := [d1, d2, d3] }
  | _ => none }
def ShrinkListsWrongFalsely : Prop := shrinkListsRow.holds Try.pinned (OpenSpec.ofChange shrinkListsWrong)

/-- 'jostlelaw38.ShrinkRough': WHATEVER THE INPUT: true; the input reads as it did. -/
def shrinkRoughSpec : ChangeSpec := { name := "shrinkRough", fn := fun _ => fun
  | [d1, d2, d3] => { results := [.lit (.bool true)], args := [d1, d2, d3] }
  | _ => none }
def shrinkRoughRow : OpenClaim := { program := "ytgladmaagpcffaa", sum := "3450ee7446ca7b3781fb79b4e01b04daba88b3389aa3034d24f4fa8641efb1e9", func := "jostle/jostlelaw38.ShrinkRough", spec := "shrinkRough", unfollowed := true, recurses := true, apart := false }
def ShrinkRoughSaid : Prop := shrinkRoughRow.holds Try.pinned (OpenSpec.ofChange shrinkRoughSpec)

/-- ITS FALSE NEIGHBOUR: 'it returns false'. Refute it at one input. -/
def shrinkRoughWrong : ChangeSpec := { name := "shrinkRough", fn := fun _ => fun
  | [d1, d2, d3] => { results := [.lit (.bool false)], args := [d1, d2, d3] }
  | _ => none }
def ShrinkRoughWrongFalsely : Prop := shrinkRoughRow.holds Try.pinned (OpenSpec.ofChange shrinkRoughWrong)

/-- 'jostlelaw32.BoundTells': WHATEVER THE INPUT: true; the input reads as it did. -/
def boundTellsSpec : ChangeSpec := { name := "boundTells", fn := fun _ => fun
  | [d] => { results := [.lit (.bool true)], args := [d] }
  | _ => none }
def boundTellsRow : OpenClaim := { program := "ytgladmaagpcffaa", sum := "3450ee7446ca7b3781fb79b4e01b04daba88b3389aa3034d24f4fa8641efb1e9", func := "jostle/jostlelaw32.BoundTells", spec := "boundTells", apart := false }
def BoundTellsSaid : Prop := boundTellsRow.holds Try.pinned (OpenSpec.ofChange boundTellsSpec)

/-- ITS FALSE NEIGHBOUR: 'it returns false'. Refute it at one input. -/
def boundTellsWrong : ChangeSpec := { name := "boundTells", fn := fun _ => fun
  | [d] => { results := [.lit (.bool false)], args := [d] }
  | _ => none }
def BoundTellsWrongFalsely : Prop := boundTellsRow.holds Try.pinned (OpenSpec.ofChange boundTellsWrong)

/-- 'jostlelaw03.SeqsAgain': WHATEVER THE INPUT: true; the input reads as it did. -/
def seqsAgainSpec : ChangeSpec := { name := "seqsAgain", fn := fun _ => fun
  | [d1, d2] => { results := [.lit (.bool true)], args := [d1, d2] }
  | _ => none }
def seqsAgainRow : OpenClaim := { program := "ytgladmaagpcffaa", sum := "3450ee7446ca7b3781fb79b4e01b04daba88b3389aa3034d24f4fa8641efb1e9", func := "jostle/jostlelaw03.SeqsAgain", spec := "seqsAgain", unfollowed := true, recurses := true, apart := false }
def SeqsAgainSaid : Prop := seqsAgainRow.holds Try.pinned (OpenSpec.ofChange seqsAgainSpec)

/-- ITS FALSE NEIGHBOUR: 'it returns false'. Refute it at one input. -/
def seqsAgainWrong : ChangeSpec := { name := "seqsAgain", fn := fun _ => fun
  | [d1, d2] => { results := [.lit (.bool false)], args := [d1, d2] }
  | _ => none }
def SeqsAgainWrongFalsely : Prop := seqsAgainRow.holds Try.pinned (OpenSpec.ofChange seqsAgainWrong)

/-- 'jostlelaw32.BoundWindows': WHATEVER THE INPUT: true; the input reads as it did. -/
def boundWindowsSpec : ChangeSpec := { name := "boundWindows", fn := fun _ => fun
  | [d1, d2] => { results := [.lit (.bool true)], args := [d1, d2] }
  | _ => none }
def boundWindowsRow : OpenClaim := { program := "ytgladmaagpcffaa", sum := "3450ee7446ca7b3781fb79b4e01b04daba88b3389aa3034d24f4fa8641efb1e9", func := "jostle/jostlelaw32.BoundWindows", spec := "boundWindows", apart := false }
def BoundWindowsSaid : Prop := boundWindowsRow.holds Try.pinned (OpenSpec.ofChange boundWindowsSpec)

/-- ITS FALSE NEIGHBOUR: 'it returns false'. Refute it at one input. -/
def boundWindowsWrong : ChangeSpec := { name := "boundWindows", fn := fun _ => fun
  | [d1, d2] => { results := [.lit (.bool false)], args := [d1, d2] }
  | _ => none }
def BoundWindowsWrongFalsely : Prop := boundWindowsRow.holds Try.pinned (OpenSpec.ofChange boundWindowsWrong)

/-- 'jostlelaw38.ShrinkNumbers': WHATEVER THE INPUT: true; the input reads as it did. -/
def shrinkNumbersSpec : ChangeSpec := { name := "shrinkNumbers", fn := fun _ => fun
  | [d1, d2] => { results := [.lit (.bool true)], args := [d1, d2] }
  | _ => none }
def shrinkNumbersRow : OpenClaim := { program := "ytgladmaagpcffaa", sum := "3450ee7446ca7b3781fb79b4e01b04daba88b3389aa3034d24f4fa8641efb1e9", func := "jostle/jostlelaw38.ShrinkNumbers", spec := "shrinkNumbers", unfollowed := true, recurses := true, apart := false }
def ShrinkNumbersSaid : Prop := shrinkNumbersRow.holds Try.pinned (OpenSpec.ofChange shrinkNumbersSpec)

/-- ITS FALSE NEIGHBOUR: 'it returns false'. Refute it at one input. -/
def shrinkNumbersWrong : ChangeSpec := { name := "shrinkNumbers", fn := fun _ => fun
  | [d1, d2] => { results := [.lit (.bool false)], args := [d1, d2] }
  | _ => none }
def ShrinkNumbersWrongFalsely : Prop := shrinkNumbersRow.holds Try.pinned (OpenSpec.ofChange shrinkNumbersWrong)

/-- 'jostlelaw14.RealOrders': WHATEVER THE INPUT: true; the input reads as it did. -/
def realOrdersSpec : ChangeSpec := { name := "realOrders", fn := fun _ => fun
  | [d1, d2] => { results := [.lit (.bool true)], args := [d1, d2] }
  | _ => none }
def realOrdersRow : OpenClaim := { program := "ytgladmaagpcffaa", sum := "3450ee7446ca7b3781fb79b4e01b04daba88b3389aa3034d24f4fa8641efb1e9", func := "jostle/jostlelaw14.RealOrders", spec := "realOrders", unfollowed := true, recurses := true, apart := false }
def RealOrdersSaid : Prop := realOrdersRow.holds Try.pinned (OpenSpec.ofChange realOrdersSpec)

/-- ITS FALSE NEIGHBOUR: 'it returns false'. Refute it at one input. -/
def realOrdersWrong : ChangeSpec := { name := "realOrders", fn := fun _ => fun
  | [d1, d2] => { results := [.lit (.bool false)], args := [d1, d2] }
  | _ => none }
def RealOrdersWrongFalsely : Prop := realOrdersRow.holds Try.pinned (OpenSpec.ofChange realOrdersWrong)

/-- 'jostlelaw03.SeqsNils': WHATEVER THE INPUT: true; the input reads as it did. -/
def seqsNilsSpec : ChangeSpec := { name := "seqsNils", fn := fun _ => fun
  | [d] => { results := [.lit (.bool true)], args := [d] }
  | _ => none }
def seqsNilsRow : OpenClaim := { program := "ytgladmaagpcffaa", sum := "3450ee7446ca7b3781fb79b4e01b04daba88b3389aa3034d24f4fa8641efb1e9", func := "jostle/jostlelaw03.SeqsNils", spec := "seqsNils", unfollowed := true, recurses := true, apart := false }
def SeqsNilsSaid : Prop := seqsNilsRow.holds Try.pinned (OpenSpec.ofChange seqsNilsSpec)

/-- ITS FALSE NEIGHBOUR: 'it returns false'. Refute it at one input. -/
def seqsNilsWrong : ChangeSpec := { name := "seqsNils", fn := fun _ => fun
  | [d] => { results := [.lit (.bool false)], args := [d] }
  | _ => none }
def SeqsNilsWrongFalsely : Prop := seqsNilsRow.holds Try.pinned (OpenSpec.ofChange seqsNilsWrong)

/-- 'jostlelaw14.RealChains': WHATEVER THE INPUT: true; the input reads as it did. -/
def realChainsSpec : ChangeSpec := { name := "realChains", fn := fun _ => fun
  | [d1, d2] => { results := [.lit (.bool true)], args := [d1, d2] }
  | _ => none }
def realChainsRow : OpenClaim := { program := "ytgladmaagpcffaa", sum := "3450ee7446ca7b3781fb79b4e01b04daba88b3389aa3034d24f4fa8641efb1e9", func := "jostle/jostlelaw14.RealChains", spec := "realChains", unfollowed := true, recurses := true, apart := false }
def RealChainsSaid : Prop := realChainsRow.holds Try.pinned (OpenSpec.ofChange realChainsSpec)

/-- ITS FALSE NEIGHBOUR: 'it returns false'. Refute it at one input. -/
def realChainsWrong : ChangeSpec := { name := "realChains", fn := fun _ => fun
  | [d1, d2] => { results := [.lit (.bool false)], args := [d1, d2] }
  | _ => none }
def RealChainsWrongFalsely : Prop := realChainsRow.holds Try.pinned (OpenSpec.ofChange realChainsWrong)

/-- 'jostlelaw03.SeqsKeeps': WHATEVER THE INPUT: true; the input reads as it did. -/
def seqsKeepsSpec : ChangeSpec := { name := "seqsKeeps", fn := fun _ => fun
  | [d1, d2, d3] => { results := [.lit (.bool true)], args := [d1, d2, d3] }
  | _ => none }
def seqsKeepsRow : OpenClaim := { program := "ytgladmaagpcffaa", sum := "3450ee7446ca7b3781fb79b4e01b04daba88b3389aa3034d24f4fa8641efb1e9", func := "jostle/jostlelaw03.SeqsKeeps", spec := "seqsKeeps", unfollowed := true, recurses := true, apart := false }
def SeqsKeepsSaid : Prop := seqsKeepsRow.holds Try.pinned (OpenSpec.ofChange seqsKeepsSpec)

/-- ITS FALSE NEIGHBOUR: 'it returns false'. Refute it at one input. -/
def seqsKeepsWrong : ChangeSpec := { name := "seqsKeeps", fn := fun _ => fun
  | [d1, d2, d3] => { results := [.lit (.bool false)], args := [d1, d2, d3] }
  | _ => none }
def SeqsKeepsWrongFalsely : Prop := seqsKeepsRow.holds Try.pinned (OpenSpec.ofChange seqsKeepsWrong)

/-- 'jostlelaw40.TallyTexts': WHATEVER THE INPUT: true; the input reads as it did. -/
def tallyTextsSpec : ChangeSpec := { name := "tallyTexts", fn := fun _ => fun
  | [d] => { results := [.lit (.bool true)], args := [d] }
  | _ => none }
def tallyTextsRow : OpenClaim := { program := "ytgladmaagpcffaa", sum := "3450ee7446ca7b3781fb79b4e01b04daba88b3389aa3034d24f4fa8641efb1e9", func := "jostle/jostlelaw40.TallyTexts", spec := "tallyTexts", inPlace := ["internal/abi.NoEscape"], unfollowed := true, recurses := true, apart := false }
def TallyTextsSaid : Prop := tallyTextsRow.holds Try.pinned (OpenSpec.ofChange tallyTextsSpec)

/-- ITS FALSE NEIGHBOUR: 'it returns false'. Refute it at one input. -/
def tallyTextsWrong : ChangeSpec := { name := "tallyTexts", fn := fun _ => fun
  | [d] => { results := [.lit (.bool false)], args := [d] }
  | _ => none }
def TallyTextsWrongFalsely : Prop := tallyTextsRow.holds Try.pinned (OpenSpec.ofChange tallyTextsWrong)

/-- 'jostlelaw23.LevelRows': WHATEVER THE INPUT: true; the input reads as it did. -/
def levelRowsSpec : ChangeSpec := { name := "levelRows", fn := fun _ => fun
  | [d1, d2] => { results := [.lit (.bool true)], args := [d1, d2] }
  | _ => none }
def levelRowsRow : OpenClaim := { program := "ytgladmaagpcffaa", sum := "3450ee7446ca7b3781fb79b4e01b04daba88b3389aa3034d24f4fa8641efb1e9", func := "jostle/jostlelaw23.LevelRows", spec := "levelRows", unfollowed := true, recurses := true, apart := false }
def LevelRowsSaid : Prop := levelRowsRow.holds Try.pinned (OpenSpec.ofChange levelRowsSpec)

/-- ITS FALSE NEIGHBOUR: 'it returns false'. Refute it at one input. -/
def levelRowsWrong : ChangeSpec := { name := "levelRows", fn := fun _ => fun
  | [d1, d2] => { results := [.lit (.bool false)], args := [d1, d2] }
  | _ => none }
def LevelRowsWrongFalsely : Prop := levelRowsRow.holds Try.pinned (OpenSpec.ofChange levelRowsWrong)

/-- 'jostlelaw40.TallyEvents': WHATEVER THE INPUT: true; the input reads as it did. -/
def tallyEventsSpec : ChangeSpec := { name := "tallyEvents", fn := fun _ => fun
  | [d] => { results := [.lit (.bool true)], args := [d] }
  | _ => none }
def tallyEventsRow : OpenClaim := { program := "ytgladmaagpcffaa", sum := "3450ee7446ca7b3781fb79b4e01b04daba88b3389aa3034d24f4fa8641efb1e9", func := "jostle/jostlelaw40.TallyEvents", spec := "tallyEvents", inPlace := ["internal/abi.NoEscape"], apart := false }
def TallyEventsSaid : Prop := tallyEventsRow.holds Try.pinned (OpenSpec.ofChange tallyEventsSpec)

/-- ITS FALSE NEIGHBOUR: 'it returns false'. Refute it at one input. -/
def tallyEventsWrong : ChangeSpec := { name := "tallyEvents", fn := fun _ => fun
  | [d] => { results := [.lit (.bool false)], args := [d] }
  | _ => none }
def TallyEventsWrongFalsely : Prop := tallyEventsRow.holds Try.pinned (OpenSpec.ofChange tallyEventsWrong)

/-- 'jostlelaw23.LevelNests': WHATEVER THE INPUT: true; the input reads as it did. -/
def levelNestsSpec : ChangeSpec := { name := "levelNests", fn := fun _ => fun
  | [d1, d2] => { results := [.lit (.bool true)], args := [d1, d2] }
  | _ => none }
def levelNestsRow : OpenClaim := { program := "ytgladmaagpcffaa", sum := "3450ee7446ca7b3781fb79b4e01b04daba88b3389aa3034d24f4fa8641efb1e9", func := "jostle/jostlelaw23.LevelNests", spec := "levelNests", unfollowed := true, recurses := true, apart := false }
def LevelNestsSaid : Prop := levelNestsRow.holds Try.pinned (OpenSpec.ofChange levelNestsSpec)

/-- ITS FALSE NEIGHBOUR: 'it returns false'. Refute it at one input. -/
def levelNestsWrong : ChangeSpec := { name := "levelNests", fn := fun _ => fun
  | [d1, d2] => { results := [.lit (.bool false)], args := [d1, d2] }
  | _ => none }
def LevelNestsWrongFalsely : Prop := levelNestsRow.holds Try.pinned (OpenSpec.ofChange levelNestsWrong)

/-- 'jostlelaw23.LevelWhole': WHATEVER THE INPUT: true; the input reads as it did. -/
def levelWholeSpec : ChangeSpec := { name := "levelWhole", fn := fun _ => fun
  | [d1, d2, d3] => { results := [.lit (.bool true)], args := [d1, d2, d3] }
  | _ => none }
def levelWholeRow : OpenClaim := { program := "ytgladmaagpcffaa", sum := "3450ee7446ca7b3781fb79b4e01b04daba88b3389aa3034d24f4fa8641efb1e9", func := "jostle/jostlelaw23.LevelWhole", spec := "levelWhole", unfollowed := true, recurses := true, apart := false }
def LevelWholeSaid : Prop := levelWholeRow.holds Try.pinned (OpenSpec.ofChange levelWholeSpec)

/-- ITS FALSE NEIGHBOUR: 'it returns false'. Refute it at one input. -/
def levelWholeWrong : ChangeSpec := { name := "levelWhole", fn := fun _ => fun
  | [d1, d2, d3] => { results := [.lit (.bool false)], args := [d1, d2, d3] }
  | _ => none }
def LevelWholeWrongFalsely : Prop := levelWholeRow.holds Try.pinned (OpenSpec.ofChange levelWholeWrong)

/- THE SECOND FORM. 'bulk': how many values and letters a reading holds, each counted each time it is reached (what is shared counts as often as it is met; a slice's spare places count too). A statement '..UptoSaid' is the law's where the arguments, and the package variables that the reading takes, are together of bulk at most 1048576: NARROWER than '..Said'. Prove '..Said' where nothing that the law and all that it calls make is longer than what came in: it says more and counts as full. Else prove '..UptoSaid'. A law counts once. -/
mutual
def uptoBulk {H : Type} : DataW H → Nat
  | .lit (.string bytes) => bytes.length + 1
  | .lit _ => 1
  | .nil => 1
  | .ptr d => uptoBulk d + 1
  | .slice elems spare => uptoBulkAll elems + uptoBulkAll spare + 1
  | .agg parts => uptoBulkAll parts + 1
  | .iface _ d => uptoBulk d + 1
  | .map entries => uptoBulkEntries entries + 1
  | .held _ => 1
def uptoBulkAll {H : Type} : List (DataW H) → Nat
  | [] => 0
  | d :: r => uptoBulk d + uptoBulkAll r
def uptoBulkEntries {H : Type} : List (Lit × DataW H) → Nat
  | [] => 0
  | x :: r => uptoBulkEntry x + uptoBulkEntries r
def uptoBulkEntry {H : Type} : Lit × DataW H → Nat
  | (.string bytes, d) => bytes.length + uptoBulk d + 1
  | (_, d) => uptoBulk d + 1
 end
def uptoSmall : (H : Type) → List (DataW H) → Bool := fun _ ds => decide (uptoBulkAll ds ≤ 1048576)
def OpenSpec.upto (s : _root_.Go.ChangeSpec) : _root_.Go.OpenSpec := { _root_.Go.OpenSpec.ofChange s with cond := some uptoSmall }

/-- 'jostlelaw03.SeqsCounts', WHERE WHAT IT READS IS OF BULK AT MOST 1048576: true; the input reads as it did. -/
def seqsCountsUptoRow : OpenClaim := { program := "ytgladmaagpcffaa", sum := "3450ee7446ca7b3781fb79b4e01b04daba88b3389aa3034d24f4fa8641efb1e9", func := "jostle/jostlelaw03.SeqsCounts", spec := "seqsCounts", unfollowed := true, recurses := true, apart := false, narrowed := true }
def SeqsCountsUptoSaid : Prop := seqsCountsUptoRow.holds Try.pinned (OpenSpec.upto seqsCountsSpec)

/-- 'jostlelaw38.ShrinkLists', WHERE WHAT IT READS IS OF BULK AT MOST 1048576: true; the input reads as it did. -/
def shrinkListsUptoRow : OpenClaim := { program := "ytgladmaagpcffaa", sum := "3450ee7446ca7b3781fb79b4e01b04daba88b3389aa3034d24f4fa8641efb1e9", func := "jostle/jostlelaw38.ShrinkLists", spec := "shrinkLists", unfollowed := true, recurses := true, apart := false, narrowed := true }
def ShrinkListsUptoSaid : Prop := shrinkListsUptoRow.holds Try.pinned (OpenSpec.upto shrinkListsSpec)

/-- 'jostlelaw38.ShrinkRough', WHERE WHAT IT READS IS OF BULK AT MOST 1048576: true; the input reads as it did. -/
def shrinkRoughUptoRow : OpenClaim := { program := "ytgladmaagpcffaa", sum := "3450ee7446ca7b3781fb79b4e01b04daba88b3389aa3034d24f4fa8641efb1e9", func := "jostle/jostlelaw38.ShrinkRough", spec := "shrinkRough", unfollowed := true, recurses := true, apart := false, narrowed := true }
def ShrinkRoughUptoSaid : Prop := shrinkRoughUptoRow.holds Try.pinned (OpenSpec.upto shrinkRoughSpec)

/-- 'jostlelaw32.BoundTells', WHERE WHAT IT READS IS OF BULK AT MOST 1048576: true; the input reads as it did. -/
def boundTellsUptoRow : OpenClaim := { program := "ytgladmaagpcffaa", sum := "3450ee7446ca7b3781fb79b4e01b04daba88b3389aa3034d24f4fa8641efb1e9", func := "jostle/jostlelaw32.BoundTells", spec := "boundTells", apart := false, narrowed := true }
def BoundTellsUptoSaid : Prop := boundTellsUptoRow.holds Try.pinned (OpenSpec.upto boundTellsSpec)

/-- 'jostlelaw03.SeqsAgain', WHERE WHAT IT READS IS OF BULK AT MOST 1048576: true; the input reads as it did. -/
def seqsAgainUptoRow : OpenClaim := { program := "ytgladmaagpcffaa", sum := "3450ee7446ca7b3781fb79b4e01b04daba88b3389aa3034d24f4fa8641efb1e9", func := "jostle/jostlelaw03.SeqsAgain", spec := "seqsAgain", unfollowed := true, recurses := true, apart := false, narrowed := true }
def SeqsAgainUptoSaid : Prop := seqsAgainUptoRow.holds Try.pinned (OpenSpec.upto seqsAgainSpec)

/-- 'jostlelaw32.BoundWindows', WHERE WHAT IT READS IS OF BULK AT MOST 1048576: true; the input reads as it did. -/
def boundWindowsUptoRow : OpenClaim := { program := "ytgladmaagpcffaa", sum := "3450ee7446ca7b3781fb79b4e01b04daba88b3389aa3034d24f4fa8641efb1e9", func := "jostle/jostlelaw32.BoundWindows", spec := "boundWindows", apart := false, narrowed := true }
def BoundWindowsUptoSaid : Prop := boundWindowsUptoRow.holds Try.pinned (OpenSpec.upto boundWindowsSpec)

/-- 'jostlelaw38.ShrinkNumbers', WHERE WHAT IT READS IS OF BULK AT MOST 1048576: true; the input reads as it did. -/
def shrinkNumbersUptoRow : OpenClaim := { program := "ytgladmaagpcffaa", sum := "3450ee7446ca7b3781fb79b4e01b04daba88b3389aa3034d24f4fa8641efb1e9", func := "jostle/jostlelaw38.ShrinkNumbers", spec := "shrinkNumbers", unfollowed := true, recurses := true, apart := false, narrowed := true }
def ShrinkNumbersUptoSaid : Prop := shrinkNumbersUptoRow.holds Try.pinned (OpenSpec.upto shrinkNumbersSpec)

/-- 'jostlelaw14.RealOrders', WHERE WHAT IT READS IS OF BULK AT MOST 1048576: true; the input reads as it did. -/
def realOrdersUptoRow : OpenClaim := { program := "ytgladmaagpcffaa", sum := "3450ee7446ca7b3781fb79b4e01b04daba88b3389aa3034d24f4fa8641efb1e9", func := "jostle/jostlelaw14.RealOrders", spec := "realOrders", unfollowed := true, recurses := true, apart := false, narrowed := true }
def RealOrdersUptoSaid : Prop := realOrdersUptoRow.holds Try.pinned (OpenSpec.upto realOrdersSpec)

/-- 'jostlelaw03.SeqsNils', WHERE WHAT IT READS IS OF BULK AT MOST 1048576: true; the input reads as it did. -/
def seqsNilsUptoRow : OpenClaim := { program := "ytgladmaagpcffaa", sum := "3450ee7446ca7b3781fb79b4e01b04daba88b3389aa3034d24f4fa8641efb1e9", func := "jostle/jostlelaw03.SeqsNils", spec := "seqsNils", unfollowed := true, recurses := true, apart := false, narrowed := true }
def SeqsNilsUptoSaid : Prop := seqsNilsUptoRow.holds Try.pinned (OpenSpec.upto seqsNilsSpec)

/-- 'jostlelaw14.RealChains', WHERE WHAT IT READS IS OF BULK AT MOST 1048576: true; the input reads as it did. -/
def realChainsUptoRow : OpenClaim := { program := "ytgladmaagpcffaa", sum := "3450ee7446ca7b3781fb79b4e01b04daba88b3389aa3034d24f4fa8641efb1e9", func := "jostle/jostlelaw14.RealChains", spec := "realChains", unfollowed := true, recurses := true, apart := false, narrowed := true }
def RealChainsUptoSaid : Prop := realChainsUptoRow.holds Try.pinned (OpenSpec.upto realChainsSpec)

/-- 'jostlelaw03.SeqsKeeps', WHERE WHAT IT READS IS OF BULK AT MOST 1048576: true; the input reads as it did. -/
def seqsKeepsUptoRow : OpenClaim := { program := "ytgladmaagpcffaa", sum := "3450ee7446ca7b3781fb79b4e01b04daba88b3389aa3034d24f4fa8641efb1e9", func := "jostle/jostlelaw03.SeqsKeeps", spec := "seqsKeeps", unfollowed := true, recurses := true, apart := false, narrowed := true }
def SeqsKeepsUptoSaid : Prop := seqsKeepsUptoRow.holds Try.pinned (OpenSpec.upto seqsKeepsSpec)

/-- 'jostlelaw40.TallyTexts', WHERE WHAT IT READS IS OF BULK AT MOST 1048576: true; the input reads as it did. -/
def tallyTextsUptoRow : OpenClaim := { program := "ytgladmaagpcffaa", sum := "3450ee7446ca7b3781fb79b4e01b04daba88b3389aa3034d24f4fa8641efb1e9", func := "jostle/jostlelaw40.TallyTexts", spec := "tallyTexts", inPlace := ["internal/abi.NoEscape"], unfollowed := true, recurses := true, apart := false, narrowed := true }
def TallyTextsUptoSaid : Prop := tallyTextsUptoRow.holds Try.pinned (OpenSpec.upto tallyTextsSpec)

/-- 'jostlelaw23.LevelRows', WHERE WHAT IT READS IS OF BULK AT MOST 1048576: true; the input reads as it did. -/
def levelRowsUptoRow : OpenClaim := { program := "ytgladmaagpcffaa", sum := "3450ee7446ca7b3781fb79b4e01b04daba88b3389aa3034d24f4fa8641efb1e9", func := "jostle/jostlelaw23.LevelRows", spec := "levelRows", unfollowed := true, recurses := true, apart := false, narrowed := true }
def LevelRowsUptoSaid : Prop := levelRowsUptoRow.holds Try.pinned (OpenSpec.upto levelRowsSpec)

/-- 'jostlelaw40.TallyEvents', WHERE WHAT IT READS IS OF BULK AT MOST 1048576: true; the input reads as it did. -/
def tallyEventsUptoRow : OpenClaim := { program := "ytgladmaagpcffaa", sum := "3450ee7446ca7b3781fb79b4e01b04daba88b3389aa3034d24f4fa8641efb1e9", func := "jostle/jostlelaw40.TallyEvents", spec := "tallyEvents", inPlace := ["internal/abi.NoEscape"], apart := false, narrowed := true }
def TallyEventsUptoSaid : Prop := tallyEventsUptoRow.holds Try.pinned (OpenSpec.upto tallyEventsSpec)

/-- 'jostlelaw23.LevelNests', WHERE WHAT IT READS IS OF BULK AT MOST 1048576: true; the input reads as it did. -/
def levelNestsUptoRow : OpenClaim := { program := "ytgladmaagpcffaa", sum := "3450ee7446ca7b3781fb79b4e01b04daba88b3389aa3034d24f4fa8641efb1e9", func := "jostle/jostlelaw23.LevelNests", spec := "levelNests", unfollowed := true, recurses := true, apart := false, narrowed := true }
def LevelNestsUptoSaid : Prop := levelNestsUptoRow.holds Try.pinned (OpenSpec.upto levelNestsSpec)

/-- 'jostlelaw23.LevelWhole', WHERE WHAT IT READS IS OF BULK AT MOST 1048576: true; the input reads as it did. -/
def levelWholeUptoRow : OpenClaim := { program := "ytgladmaagpcffaa", sum := "3450ee7446ca7b3781fb79b4e01b04daba88b3389aa3034d24f4fa8641efb1e9", func := "jostle/jostlelaw23.LevelWhole", spec := "levelWhole", unfollowed := true, recurses := true, apart := false, narrowed := true }
def LevelWholeUptoSaid : Prop := levelWholeUptoRow.holds Try.pinned (OpenSpec.upto levelWholeSpec)

end Rows
end Go.Proofs.Ytgladmaagpcffaa
