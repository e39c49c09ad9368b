/-
  No cell of these rows narrows 'for every input' (looked for: loops, veiled, ifaces, maps, wideKeys, modest, calm, conditions, laid).
  DERIVED. THE GIVEN ROWS OF THIS SEAT. 6 by the template 'for every input the law returns true; each argument reads behind the call as it read before'; 0 by the template 'total and deterministic' (their statements: YtcopagbegomohaaTotals.lean).
  GIVEN WITH THE SEED: the statements are not yours to turn. If you find one false, say at which input.
  Laid BY PROGRAM, IN A SANDBOX (cutbox-rows.mjs): the forced cells as the released guide's own fill.sh prints them over the translation 7b9464458240b73b… (all of the seat's roots in one cut). By AI agents, Wed Nov 11 2026. No macro, syntax, notation, axiom, sorry.
-/
import Derived.Test.YtcopagbegomohaaChecked
import GoSem.Claim
import GoSem.ClaimJoined
import GoSem.ClaimMapViews
import Derived.JoinedTies
import Derived.KernelRfl
namespace Go.Proofs.Ytcopagbegomohaa
/- THE CELL 'sum', in the pinned program and in every row, IS THE sha256 OF THE DUMP (.gsa) THAT YtcopagbegomohaaProg.lean LOADS. Nothing in Lean hashes anything: it is a label: what it is worth is what the hold of that sum in a sandbox is worth. -/
noncomputable def Try.pinned : Pinned := { name := "ytcopagbegomohaa", sum := "7b9464458240b73bf45306084b3d95482a9af39d55c3492086d7a8aac825ca96", checked := Try.checked }
namespace Rows
def none {H : Type} : Left H := { results := [], args := [] }

/-- 'laws.FnExactLabelsOf': WHATEVER THE INPUT: true; the input reads as it did. -/
def fnExactLabelsOfSpec : ChangeSpec := { name := "fnExactLabelsOf", fn := fun _ => fun
  | [d] => { results := [.lit (.bool true)], args := [d] }
  | _ => none }
def fnExactLabelsOfRow : OpenClaim := { program := "ytcopagbegomohaa", sum := "7b9464458240b73bf45306084b3d95482a9af39d55c3492086d7a8aac825ca96", func := "loop.example/paperrolls/laws.FnExactLabelsOf", spec := "fnExactLabelsOf", apart := false }
def FnExactLabelsOfSaid : Prop := fnExactLabelsOfRow.holds Try.pinned (OpenSpec.ofChange fnExactLabelsOfSpec)

/-- ITS FALSE NEIGHBOUR: 'it returns false'. Refute it at one input. -/
def fnExactLabelsOfWrong : ChangeSpec := { name := "fnExactLabelsOf", fn := fun _ => fun
  | [d] => { results := [.lit (.bool false)], args := [d] }
  | _ => none }
def FnExactLabelsOfWrongFalsely : Prop := fnExactLabelsOfRow.holds Try.pinned (OpenSpec.ofChange fnExactLabelsOfWrong)

/-- 'laws.FnFullPile': WHATEVER THE INPUT: true; the input reads as it did. -/
def fnFullPileSpec : ChangeSpec := { name := "fnFullPile", fn := fun _ => fun
  | [d] => { results := [.lit (.bool true)], args := [d] }
  | _ => none }
def fnFullPileRow : OpenClaim := { program := "ytcopagbegomohaa", sum := "7b9464458240b73bf45306084b3d95482a9af39d55c3492086d7a8aac825ca96", func := "loop.example/paperrolls/laws.FnFullPile", spec := "fnFullPile", apart := false }
def FnFullPileSaid : Prop := fnFullPileRow.holds Try.pinned (OpenSpec.ofChange fnFullPileSpec)

/-- ITS FALSE NEIGHBOUR: 'it returns false'. Refute it at one input. -/
def fnFullPileWrong : ChangeSpec := { name := "fnFullPile", fn := fun _ => fun
  | [d] => { results := [.lit (.bool false)], args := [d] }
  | _ => none }
def FnFullPileWrongFalsely : Prop := fnFullPileRow.holds Try.pinned (OpenSpec.ofChange fnFullPileWrong)

/-- 'laws.FnExactAboveOf': WHATEVER THE INPUT: true; the input reads as it did. -/
def fnExactAboveOfSpec : ChangeSpec := { name := "fnExactAboveOf", fn := fun _ => fun
  | [d1, d2] => { results := [.lit (.bool true)], args := [d1, d2] }
  | _ => none }
def fnExactAboveOfRow : OpenClaim := { program := "ytcopagbegomohaa", sum := "7b9464458240b73bf45306084b3d95482a9af39d55c3492086d7a8aac825ca96", func := "loop.example/paperrolls/laws.FnExactAboveOf", spec := "fnExactAboveOf", apart := false }
def FnExactAboveOfSaid : Prop := fnExactAboveOfRow.holds Try.pinned (OpenSpec.ofChange fnExactAboveOfSpec)

/-- ITS FALSE NEIGHBOUR: 'it returns false'. Refute it at one input. -/
def fnExactAboveOfWrong : ChangeSpec := { name := "fnExactAboveOf", fn := fun _ => fun
  | [d1, d2] => { results := [.lit (.bool false)], args := [d1, d2] }
  | _ => none }
def FnExactAboveOfWrongFalsely : Prop := fnExactAboveOfRow.holds Try.pinned (OpenSpec.ofChange fnExactAboveOfWrong)

/-- 'laws.FnFindRoll': WHATEVER THE INPUT: true; the input reads as it did. -/
def fnFindRollSpec : ChangeSpec := { name := "fnFindRoll", fn := fun _ => fun
  | [d] => { results := [.lit (.bool true)], args := [d] }
  | _ => none }
def fnFindRollRow : OpenClaim := { program := "ytcopagbegomohaa", sum := "7b9464458240b73bf45306084b3d95482a9af39d55c3492086d7a8aac825ca96", func := "loop.example/paperrolls/laws.FnFindRoll", spec := "fnFindRoll", apart := false }
def FnFindRollSaid : Prop := fnFindRollRow.holds Try.pinned (OpenSpec.ofChange fnFindRollSpec)

/-- ITS FALSE NEIGHBOUR: 'it returns false'. Refute it at one input. -/
def fnFindRollWrong : ChangeSpec := { name := "fnFindRoll", fn := fun _ => fun
  | [d] => { results := [.lit (.bool false)], args := [d] }
  | _ => none }
def FnFindRollWrongFalsely : Prop := fnFindRollRow.holds Try.pinned (OpenSpec.ofChange fnFindRollWrong)

/-- 'laws.FnLabelsOf': WHATEVER THE INPUT: true; the input reads as it did. -/
def fnLabelsOfSpec : ChangeSpec := { name := "fnLabelsOf", fn := fun _ => fun
  | [d] => { results := [.lit (.bool true)], args := [d] }
  | _ => none }
def fnLabelsOfRow : OpenClaim := { program := "ytcopagbegomohaa", sum := "7b9464458240b73bf45306084b3d95482a9af39d55c3492086d7a8aac825ca96", func := "loop.example/paperrolls/laws.FnLabelsOf", spec := "fnLabelsOf", apart := false }
def FnLabelsOfSaid : Prop := fnLabelsOfRow.holds Try.pinned (OpenSpec.ofChange fnLabelsOfSpec)

/-- ITS FALSE NEIGHBOUR: 'it returns false'. Refute it at one input. -/
def fnLabelsOfWrong : ChangeSpec := { name := "fnLabelsOf", fn := fun _ => fun
  | [d] => { results := [.lit (.bool false)], args := [d] }
  | _ => none }
def FnLabelsOfWrongFalsely : Prop := fnLabelsOfRow.holds Try.pinned (OpenSpec.ofChange fnLabelsOfWrong)

/-- 'laws.FnExactPutRoll': WHATEVER THE INPUT: true; the input reads as it did. -/
def fnExactPutRollSpec : ChangeSpec := { name := "fnExactPutRoll", fn := fun _ => fun
  | [d1, d2] => { results := [.lit (.bool true)], args := [d1, d2] }
  | _ => none }
def fnExactPutRollRow : OpenClaim := { program := "ytcopagbegomohaa", sum := "7b9464458240b73bf45306084b3d95482a9af39d55c3492086d7a8aac825ca96", func := "loop.example/paperrolls/laws.FnExactPutRoll", spec := "fnExactPutRoll", apart := false }
def FnExactPutRollSaid : Prop := fnExactPutRollRow.holds Try.pinned (OpenSpec.ofChange fnExactPutRollSpec)

/-- ITS FALSE NEIGHBOUR: 'it returns false'. Refute it at one input. -/
def fnExactPutRollWrong : ChangeSpec := { name := "fnExactPutRoll", fn := fun _ => fun
  | [d1, d2] => { results := [.lit (.bool false)], args := [d1, d2] }
  | _ => none }
def FnExactPutRollWrongFalsely : Prop := fnExactPutRollRow.holds Try.pinned (OpenSpec.ofChange fnExactPutRollWrong)

/- THE SECOND FORM. 'bulk': how many values and letters a reading holds, each counted each time it is reached (what is shared counts as often as it is met; a slice's spare places count too). A statement '..UptoSaid' is the law's where the arguments, and the package variables that the reading takes, are together of bulk at most 1048576: NARROWER than '..Said'. Prove '..Said' where nothing that the law and all that it calls make is longer than what came in: it says more and counts as full. Else prove '..UptoSaid'. A law counts once. -/
mutual
def uptoBulk {H : Type} : DataW H → Nat
  | .lit (.string bytes) => bytes.length + 1
  | .lit _ => 1
  | .nil => 1
  | .ptr d => uptoBulk d + 1
  | .slice elems spare => uptoBulkAll elems + uptoBulkAll spare + 1
  | .agg parts => uptoBulkAll parts + 1
  | .iface _ d => uptoBulk d + 1
  | .map entries => uptoBulkEntries entries + 1
  | .held _ => 1
def uptoBulkAll {H : Type} : List (DataW H) → Nat
  | [] => 0
  | d :: r => uptoBulk d + uptoBulkAll r
def uptoBulkEntries {H : Type} : List (Lit × DataW H) → Nat
  | [] => 0
  | x :: r => uptoBulkEntry x + uptoBulkEntries r
def uptoBulkEntry {H : Type} : Lit × DataW H → Nat
  | (.string bytes, d) => bytes.length + uptoBulk d + 1
  | (_, d) => uptoBulk d + 1
 end
def uptoSmall : (H : Type) → List (DataW H) → Bool := fun _ ds => decide (uptoBulkAll ds ≤ 1048576)
def OpenSpec.upto (s : _root_.Go.ChangeSpec) : _root_.Go.OpenSpec := { _root_.Go.OpenSpec.ofChange s with cond := some uptoSmall }

/-- 'laws.FnExactLabelsOf', WHERE WHAT IT READS IS OF BULK AT MOST 1048576: true; the input reads as it did. -/
def fnExactLabelsOfUptoRow : OpenClaim := { program := "ytcopagbegomohaa", sum := "7b9464458240b73bf45306084b3d95482a9af39d55c3492086d7a8aac825ca96", func := "loop.example/paperrolls/laws.FnExactLabelsOf", spec := "fnExactLabelsOf", apart := false, narrowed := true }
def FnExactLabelsOfUptoSaid : Prop := fnExactLabelsOfUptoRow.holds Try.pinned (OpenSpec.upto fnExactLabelsOfSpec)

/-- 'laws.FnFullPile', WHERE WHAT IT READS IS OF BULK AT MOST 1048576: true; the input reads as it did. -/
def fnFullPileUptoRow : OpenClaim := { program := "ytcopagbegomohaa", sum := "7b9464458240b73bf45306084b3d95482a9af39d55c3492086d7a8aac825ca96", func := "loop.example/paperrolls/laws.FnFullPile", spec := "fnFullPile", apart := false, narrowed := true }
def FnFullPileUptoSaid : Prop := fnFullPileUptoRow.holds Try.pinned (OpenSpec.upto fnFullPileSpec)

/-- 'laws.FnExactAboveOf', WHERE WHAT IT READS IS OF BULK AT MOST 1048576: true; the input reads as it did. -/
def fnExactAboveOfUptoRow : OpenClaim := { program := "ytcopagbegomohaa", sum := "7b9464458240b73bf45306084b3d95482a9af39d55c3492086d7a8aac825ca96", func := "loop.example/paperrolls/laws.FnExactAboveOf", spec := "fnExactAboveOf", apart := false, narrowed := true }
def FnExactAboveOfUptoSaid : Prop := fnExactAboveOfUptoRow.holds Try.pinned (OpenSpec.upto fnExactAboveOfSpec)

/-- 'laws.FnFindRoll', WHERE WHAT IT READS IS OF BULK AT MOST 1048576: true; the input reads as it did. -/
def fnFindRollUptoRow : OpenClaim := { program := "ytcopagbegomohaa", sum := "7b9464458240b73bf45306084b3d95482a9af39d55c3492086d7a8aac825ca96", func := "loop.example/paperrolls/laws.FnFindRoll", spec := "fnFindRoll", apart := false, narrowed := true }
def FnFindRollUptoSaid : Prop := fnFindRollUptoRow.holds Try.pinned (OpenSpec.upto fnFindRollSpec)

/-- 'laws.FnLabelsOf', WHERE WHAT IT READS IS OF BULK AT MOST 1048576: true; the input reads as it did. -/
def fnLabelsOfUptoRow : OpenClaim := { program := "ytcopagbegomohaa", sum := "7b9464458240b73bf45306084b3d95482a9af39d55c3492086d7a8aac825ca96", func := "loop.example/paperrolls/laws.FnLabelsOf", spec := "fnLabelsOf", apart := false, narrowed := true }
def FnLabelsOfUptoSaid : Prop := fnLabelsOfUptoRow.holds Try.pinned (OpenSpec.upto fnLabelsOfSpec)

/-- 'laws.FnExactPutRoll', WHERE WHAT IT READS IS OF BULK AT MOST 1048576: true; the input reads as it did. -/
def fnExactPutRollUptoRow : OpenClaim := { program := "ytcopagbegomohaa", sum := "7b9464458240b73bf45306084b3d95482a9af39d55c3492086d7a8aac825ca96", func := "loop.example/paperrolls/laws.FnExactPutRoll", spec := "fnExactPutRoll", apart := false, narrowed := true }
def FnExactPutRollUptoSaid : Prop := fnExactPutRollUptoRow.holds Try.pinned (OpenSpec.upto fnExactPutRollSpec)

end Rows
end Go.Proofs.Ytcopagbegomohaa
