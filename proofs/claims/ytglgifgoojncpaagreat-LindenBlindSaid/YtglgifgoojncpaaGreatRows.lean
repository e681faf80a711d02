/-
  No cell of these rows narrows 'for every input' (looked for: loops, veiled, ifaces, maps, wideKeys, modest, calm, conditions, laid).
  DERIVED. THE GIVEN ROWS OF THIS SEAT. 3 by the template 'for every input the law returns true; each argument reads behind the call as it read before'; 0 by the template 'total and deterministic' (their statements: YtglgifgoojncpaaGreatTotals.lean).
  GIVEN WITH THE SEED: the statements are not yours to turn. If you find one false, say at which input.
  Laid BY PROGRAM, IN A SANDBOX (cutbox-rows.mjs): the forced cells as the released guide's own fill.sh prints them over the translation 0473bd30296391e3… (all of the seat's roots in one cut). By AI agents, Wed Nov 11 2026. No macro, syntax, notation, axiom, sorry.
-/
import Derived.Test.YtglgifgoojncpaaGreatChecked
import GoSem.Claim
import GoSem.ClaimJoined
import GoSem.ClaimMapViews
import Derived.JoinedTies
import Derived.KernelRfl
namespace Go.Proofs.YtglgifgoojncpaaGreat
/- THE CELL 'sum', in the pinned program and in every row, IS THE sha256 OF THE DUMP (.gsa) THAT YtglgifgoojncpaaGreatProg.lean LOADS. Nothing in Lean hashes anything: it is a label: what it is worth is what the hold of that sum in a sandbox is worth. -/
noncomputable def Tryz.pinned : Pinned := { name := "ytglgifgoojncpaagreat", sum := "0473bd30296391e392c9ea7e646e18eeaeff3455c66a2bec5034647ac6570c47", checked := Tryz.checked }
namespace Rows
def none {H : Type} : Left H := { results := [], args := [] }

/-- 'jostlelaw26.SundellBlind': WHATEVER THE INPUT: true; the input reads as it did. -/
def sundellBlindSpec : ChangeSpec := { name := "sundellBlind", fn := fun _ => fun
  | [d1, d2] => { results := [.lit (.bool true)], args := [d1, d2] }
  | _ => none }
def sundellBlindRow : OpenClaim := { program := "ytglgifgoojncpaagreat", sum := "0473bd30296391e392c9ea7e646e18eeaeff3455c66a2bec5034647ac6570c47", func := "jostle/jostlelaw26.SundellBlind", spec := "sundellBlind", unfollowed := true, recurses := true, apart := false }
def SundellBlindSaid : Prop := sundellBlindRow.holds Tryz.pinned (OpenSpec.ofChange sundellBlindSpec)

/-- ITS FALSE NEIGHBOUR: 'it returns false'. Refute it at one input. -/
def sundellBlindWrong : ChangeSpec := { name := "sundellBlind", fn := fun _ => fun
  | [d1, d2] => { results := [.lit (.bool false)], args := [d1, d2] }
  | _ => none }
def SundellBlindWrongFalsely : Prop := sundellBlindRow.holds Tryz.pinned (OpenSpec.ofChange sundellBlindWrong)

/-- 'jostlelaw21.MoundBlind': WHATEVER THE INPUT: true; the input reads as it did. -/
def moundBlindSpec : ChangeSpec := { name := "moundBlind", fn := fun _ => fun
  | [d1, d2] => { results := [.lit (.bool true)], args := [d1, d2] }
  | _ => none }
def moundBlindRow : OpenClaim := { program := "ytglgifgoojncpaagreat", sum := "0473bd30296391e392c9ea7e646e18eeaeff3455c66a2bec5034647ac6570c47", func := "jostle/jostlelaw21.MoundBlind", spec := "moundBlind", unfollowed := true, recurses := true, apart := false }
def MoundBlindSaid : Prop := moundBlindRow.holds Tryz.pinned (OpenSpec.ofChange moundBlindSpec)

/-- ITS FALSE NEIGHBOUR: 'it returns false'. Refute it at one input. -/
def moundBlindWrong : ChangeSpec := { name := "moundBlind", fn := fun _ => fun
  | [d1, d2] => { results := [.lit (.bool false)], args := [d1, d2] }
  | _ => none }
def MoundBlindWrongFalsely : Prop := moundBlindRow.holds Tryz.pinned (OpenSpec.ofChange moundBlindWrong)

/-- 'jostlelaw28.LindenBlind': WHATEVER THE INPUT: true; the input reads as it did. -/
def lindenBlindSpec : ChangeSpec := { name := "lindenBlind", fn := fun _ => fun
  | [d1, d2] => { results := [.lit (.bool true)], args := [d1, d2] }
  | _ => none }
def lindenBlindRow : OpenClaim := { program := "ytglgifgoojncpaagreat", sum := "0473bd30296391e392c9ea7e646e18eeaeff3455c66a2bec5034647ac6570c47", func := "jostle/jostlelaw28.LindenBlind", spec := "lindenBlind", unfollowed := true, recurses := true, apart := false }
def LindenBlindSaid : Prop := lindenBlindRow.holds Tryz.pinned (OpenSpec.ofChange lindenBlindSpec)

/-- ITS FALSE NEIGHBOUR: 'it returns false'. Refute it at one input. -/
def lindenBlindWrong : ChangeSpec := { name := "lindenBlind", fn := fun _ => fun
  | [d1, d2] => { results := [.lit (.bool false)], args := [d1, d2] }
  | _ => none }
def LindenBlindWrongFalsely : Prop := lindenBlindRow.holds Tryz.pinned (OpenSpec.ofChange lindenBlindWrong)

/- THE SECOND FORM. 'bulk': how many values and letters a reading holds, each counted each time it is reached (what is shared counts as often as it is met; a slice's spare places count too). A statement '..UptoSaid' is the law's where the arguments, and the package variables that the reading takes, are together of bulk at most 1048576: NARROWER than '..Said'. Prove '..Said' where nothing that the law and all that it calls make is longer than what came in: it says more and counts as full. Else prove '..UptoSaid'. A law counts once. -/
mutual
def uptoBulk {H : Type} : DataW H → Nat
  | .lit (.string bytes) => bytes.length + 1
  | .lit _ => 1
  | .nil => 1
  | .ptr d => uptoBulk d + 1
  | .slice elems spare => uptoBulkAll elems + uptoBulkAll spare + 1
  | .agg parts => uptoBulkAll parts + 1
  | .iface _ d => uptoBulk d + 1
  | .map entries => uptoBulkEntries entries + 1
  | .held _ => 1
def uptoBulkAll {H : Type} : List (DataW H) → Nat
  | [] => 0
  | d :: r => uptoBulk d + uptoBulkAll r
def uptoBulkEntries {H : Type} : List (Lit × DataW H) → Nat
  | [] => 0
  | x :: r => uptoBulkEntry x + uptoBulkEntries r
def uptoBulkEntry {H : Type} : Lit × DataW H → Nat
  | (.string bytes, d) => bytes.length + uptoBulk d + 1
  | (_, d) => uptoBulk d + 1
 end
def uptoSmall : (H : Type) → List (DataW H) → Bool := fun _ ds => decide (uptoBulkAll ds ≤ 1048576)
def OpenSpec.upto (s : _root_.Go.ChangeSpec) : _root_.Go.OpenSpec := { _root_.Go.OpenSpec.ofChange s with cond := some uptoSmall }

/-- 'jostlelaw26.SundellBlind', WHERE WHAT IT READS IS OF BULK AT MOST 1048576: true; the input reads as it did. -/
def sundellBlindUptoRow : OpenClaim := { program := "ytglgifgoojncpaagreat", sum := "0473bd30296391e392c9ea7e646e18eeaeff3455c66a2bec5034647ac6570c47", func := "jostle/jostlelaw26.SundellBlind", spec := "sundellBlind", unfollowed := true, recurses := true, apart := false, narrowed := true }
def SundellBlindUptoSaid : Prop := sundellBlindUptoRow.holds Tryz.pinned (OpenSpec.upto sundellBlindSpec)

/-- 'jostlelaw21.MoundBlind', WHERE WHAT IT READS IS OF BULK AT MOST 1048576: true; the input reads as it did. -/
def moundBlindUptoRow : OpenClaim := { program := "ytglgifgoojncpaagreat", sum := "0473bd30296391e392c9ea7e646e18eeaeff3455c66a2bec5034647ac6570c47", func := "jostle/jostlelaw21.MoundBlind", spec := "moundBlind", unfollowed := true, recurses := true, apart := false, narrowed := true }
def MoundBlindUptoSaid : Prop := moundBlindUptoRow.holds Tryz.pinned (OpenSpec.upto moundBlindSpec)

/-- 'jostlelaw28.LindenBlind', WHERE WHAT IT READS IS OF BULK AT MOST 1048576: true; the input reads as it did. -/
def lindenBlindUptoRow : OpenClaim := { program := "ytglgifgoojncpaagreat", sum := "0473bd30296391e392c9ea7e646e18eeaeff3455c66a2bec5034647ac6570c47", func := "jostle/jostlelaw28.LindenBlind", spec := "lindenBlind", unfollowed := true, recurses := true, apart := false, narrowed := true }
def LindenBlindUptoSaid : Prop := lindenBlindUptoRow.holds Tryz.pinned (OpenSpec.upto lindenBlindSpec)

end Rows
end Go.Proofs.YtglgifgoojncpaaGreat
