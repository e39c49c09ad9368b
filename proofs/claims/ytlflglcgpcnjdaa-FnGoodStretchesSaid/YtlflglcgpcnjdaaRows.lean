/-
  No cell of these rows narrows 'for every input' (looked for: loops, veiled, ifaces, maps, wideKeys, modest, calm, conditions, laid).
  DERIVED. THE GIVEN ROWS OF THIS SEAT. 8 by the template 'for every input the law returns true; each argument reads behind the call as it read before'; 0 by the template 'total and deterministic' (their statements: YtlflglcgpcnjdaaTotals.lean).
  GIVEN WITH THE SEED: the statements are not yours to turn. If you find one false, say at which input.
  Laid BY PROGRAM, IN A SANDBOX (cutbox-rows.mjs): the forced cells as the released guide's own fill.sh prints them over the translation c38afe7b24d63434… (all of the seat's roots in one cut). By AI agents, Wed Nov 11 2026. No macro, syntax, notation, axiom, sorry.
-/
import Derived.Test.YtlflglcgpcnjdaaChecked
import GoSem.Claim
import GoSem.ClaimJoined
import GoSem.ClaimMapViews
import Derived.JoinedTies
import Derived.KernelRfl
namespace Go.Proofs.Ytlflglcgpcnjdaa
/- THE CELL 'sum', in the pinned program and in every row, IS THE sha256 OF THE DUMP (.gsa) THAT YtlflglcgpcnjdaaProg.lean LOADS. Nothing in Lean hashes anything: it is a label: what it is worth is what the hold of that sum in a sandbox is worth. -/
noncomputable def Try.pinned : Pinned := { name := "ytlflglcgpcnjdaa", sum := "c38afe7b24d634342c901896b4aa7b50dd5cde6a49cef9e7bc6582e07b0886d8", checked := Try.checked }
namespace Rows
def none {H : Type} : Left H := { results := [], args := [] }

/-- 'laws.FnBadArea': WHATEVER THE INPUT: true; the input reads as it did. -/
def fnBadAreaSpec : ChangeSpec := { name := "fnBadArea", fn := fun _ => fun
  | [d] => { results := [.lit (.bool true)], args := [d] }
  | _ => none }
def fnBadAreaRow : OpenClaim := { program := "ytlflglcgpcnjdaa", sum := "c38afe7b24d634342c901896b4aa7b50dd5cde6a49cef9e7bc6582e07b0886d8", func := "loop.example/paperrolls/laws.FnBadArea", spec := "fnBadArea", apart := false }
def FnBadAreaSaid : Prop := fnBadAreaRow.holds Try.pinned (OpenSpec.ofChange fnBadAreaSpec)

/-- ITS FALSE NEIGHBOUR: 'it returns false'. Refute it at one input. -/
def fnBadAreaWrong : ChangeSpec := { name := "fnBadArea", fn := fun _ => fun
  | [d] => { results := [.lit (.bool false)], args := [d] }
  | _ => none }
def FnBadAreaWrongFalsely : Prop := fnBadAreaRow.holds Try.pinned (OpenSpec.ofChange fnBadAreaWrong)

/-- 'laws.FnExactBadArea': WHATEVER THE INPUT: true; the input reads as it did. -/
def fnExactBadAreaSpec : ChangeSpec := { name := "fnExactBadArea", fn := fun _ => fun
  | [d1, d2] => { results := [.lit (.bool true)], args := [d1, d2] }
  | _ => none }
def fnExactBadAreaRow : OpenClaim := { program := "ytlflglcgpcnjdaa", sum := "c38afe7b24d634342c901896b4aa7b50dd5cde6a49cef9e7bc6582e07b0886d8", func := "loop.example/paperrolls/laws.FnExactBadArea", spec := "fnExactBadArea", apart := false }
def FnExactBadAreaSaid : Prop := fnExactBadAreaRow.holds Try.pinned (OpenSpec.ofChange fnExactBadAreaSpec)

/-- ITS FALSE NEIGHBOUR: 'it returns false'. Refute it at one input. -/
def fnExactBadAreaWrong : ChangeSpec := { name := "fnExactBadArea", fn := fun _ => fun
  | [d1, d2] => { results := [.lit (.bool false)], args := [d1, d2] }
  | _ => none }
def FnExactBadAreaWrongFalsely : Prop := fnExactBadAreaRow.holds Try.pinned (OpenSpec.ofChange fnExactBadAreaWrong)

/-- 'laws.FnLongestGood': WHATEVER THE INPUT: true; the input reads as it did. -/
def fnLongestGoodSpec : ChangeSpec := { name := "fnLongestGood", fn := fun _ => fun
  | [d] => { results := [.lit (.bool true)], args := [d] }
  | _ => none }
def fnLongestGoodRow : OpenClaim := { program := "ytlflglcgpcnjdaa", sum := "c38afe7b24d634342c901896b4aa7b50dd5cde6a49cef9e7bc6582e07b0886d8", func := "loop.example/paperrolls/laws.FnLongestGood", spec := "fnLongestGood", apart := false }
def FnLongestGoodSaid : Prop := fnLongestGoodRow.holds Try.pinned (OpenSpec.ofChange fnLongestGoodSpec)

/-- ITS FALSE NEIGHBOUR: 'it returns false'. Refute it at one input. -/
def fnLongestGoodWrong : ChangeSpec := { name := "fnLongestGood", fn := fun _ => fun
  | [d] => { results := [.lit (.bool false)], args := [d] }
  | _ => none }
def FnLongestGoodWrongFalsely : Prop := fnLongestGoodRow.holds Try.pinned (OpenSpec.ofChange fnLongestGoodWrong)

/-- 'laws.FnGoodStretchesTurned': WHATEVER THE INPUT: true; the input reads as it did. -/
def fnGoodStretchesTurnedSpec : ChangeSpec := { name := "fnGoodStretchesTurned", fn := fun _ => fun
  | [d] => { results := [.lit (.bool true)], args := [d] }
  | _ => none }
def fnGoodStretchesTurnedRow : OpenClaim := { program := "ytlflglcgpcnjdaa", sum := "c38afe7b24d634342c901896b4aa7b50dd5cde6a49cef9e7bc6582e07b0886d8", func := "loop.example/paperrolls/laws.FnGoodStretchesTurned", spec := "fnGoodStretchesTurned", apart := false }
def FnGoodStretchesTurnedSaid : Prop := fnGoodStretchesTurnedRow.holds Try.pinned (OpenSpec.ofChange fnGoodStretchesTurnedSpec)

/-- ITS FALSE NEIGHBOUR: 'it returns false'. Refute it at one input. -/
def fnGoodStretchesTurnedWrong : ChangeSpec := { name := "fnGoodStretchesTurned", fn := fun _ => fun
  | [d] => { results := [.lit (.bool false)], args := [d] }
  | _ => none }
def FnGoodStretchesTurnedWrongFalsely : Prop := fnGoodStretchesTurnedRow.holds Try.pinned (OpenSpec.ofChange fnGoodStretchesTurnedWrong)

/-- 'laws.FnBestLanes': WHATEVER THE INPUT: true; the input reads as it did. -/
def fnBestLanesSpec : ChangeSpec := { name := "fnBestLanes", fn := fun _ => fun
  | [d] => { results := [.lit (.bool true)], args := [d] }
  | _ => none }
def fnBestLanesRow : OpenClaim := { program := "ytlflglcgpcnjdaa", sum := "c38afe7b24d634342c901896b4aa7b50dd5cde6a49cef9e7bc6582e07b0886d8", func := "loop.example/paperrolls/laws.FnBestLanes", spec := "fnBestLanes", apart := false }
def FnBestLanesSaid : Prop := fnBestLanesRow.holds Try.pinned (OpenSpec.ofChange fnBestLanesSpec)

/-- ITS FALSE NEIGHBOUR: 'it returns false'. Refute it at one input. -/
def fnBestLanesWrong : ChangeSpec := { name := "fnBestLanes", fn := fun _ => fun
  | [d] => { results := [.lit (.bool false)], args := [d] }
  | _ => none }
def FnBestLanesWrongFalsely : Prop := fnBestLanesRow.holds Try.pinned (OpenSpec.ofChange fnBestLanesWrong)

/-- 'laws.FnGoodStretches': WHATEVER THE INPUT: true; the input reads as it did. -/
def fnGoodStretchesSpec : ChangeSpec := { name := "fnGoodStretches", fn := fun _ => fun
  | [d] => { results := [.lit (.bool true)], args := [d] }
  | _ => none }
def fnGoodStretchesRow : OpenClaim := { program := "ytlflglcgpcnjdaa", sum := "c38afe7b24d634342c901896b4aa7b50dd5cde6a49cef9e7bc6582e07b0886d8", func := "loop.example/paperrolls/laws.FnGoodStretches", spec := "fnGoodStretches", apart := false }
def FnGoodStretchesSaid : Prop := fnGoodStretchesRow.holds Try.pinned (OpenSpec.ofChange fnGoodStretchesSpec)

/-- ITS FALSE NEIGHBOUR: 'it returns false'. Refute it at one input. -/
def fnGoodStretchesWrong : ChangeSpec := { name := "fnGoodStretches", fn := fun _ => fun
  | [d] => { results := [.lit (.bool false)], args := [d] }
  | _ => none }
def FnGoodStretchesWrongFalsely : Prop := fnGoodStretchesRow.holds Try.pinned (OpenSpec.ofChange fnGoodStretchesWrong)

/-- 'laws.FnExactLongestGood': WHATEVER THE INPUT: true; the input reads as it did. -/
def fnExactLongestGoodSpec : ChangeSpec := { name := "fnExactLongestGood", fn := fun _ => fun
  | [d1, d2, d3, d4] => { results := [.lit (.bool true)], args := [d1, d2, d3, d4] }
  | _ => none }
def fnExactLongestGoodRow : OpenClaim := { program := "ytlflglcgpcnjdaa", sum := "c38afe7b24d634342c901896b4aa7b50dd5cde6a49cef9e7bc6582e07b0886d8", func := "loop.example/paperrolls/laws.FnExactLongestGood", spec := "fnExactLongestGood", apart := false }
def FnExactLongestGoodSaid : Prop := fnExactLongestGoodRow.holds Try.pinned (OpenSpec.ofChange fnExactLongestGoodSpec)

/-- ITS FALSE NEIGHBOUR: 'it returns false'. Refute it at one input. -/
def fnExactLongestGoodWrong : ChangeSpec := { name := "fnExactLongestGood", fn := fun _ => fun
  | [d1, d2, d3, d4] => { results := [.lit (.bool false)], args := [d1, d2, d3, d4] }
  | _ => none }
def FnExactLongestGoodWrongFalsely : Prop := fnExactLongestGoodRow.holds Try.pinned (OpenSpec.ofChange fnExactLongestGoodWrong)

/-- 'laws.FnExactBestLanes': WHATEVER THE INPUT: true; the input reads as it did. -/
def fnExactBestLanesSpec : ChangeSpec := { name := "fnExactBestLanes", fn := fun _ => fun
  | [d1, d2, d3] => { results := [.lit (.bool true)], args := [d1, d2, d3] }
  | _ => none }
def fnExactBestLanesRow : OpenClaim := { program := "ytlflglcgpcnjdaa", sum := "c38afe7b24d634342c901896b4aa7b50dd5cde6a49cef9e7bc6582e07b0886d8", func := "loop.example/paperrolls/laws.FnExactBestLanes", spec := "fnExactBestLanes", apart := false }
def FnExactBestLanesSaid : Prop := fnExactBestLanesRow.holds Try.pinned (OpenSpec.ofChange fnExactBestLanesSpec)

/-- ITS FALSE NEIGHBOUR: 'it returns false'. Refute it at one input. -/
def fnExactBestLanesWrong : ChangeSpec := { name := "fnExactBestLanes", fn := fun _ => fun
  | [d1, d2, d3] => { results := [.lit (.bool false)], args := [d1, d2, d3] }
  | _ => none }
def FnExactBestLanesWrongFalsely : Prop := fnExactBestLanesRow.holds Try.pinned (OpenSpec.ofChange fnExactBestLanesWrong)

/- THE SECOND FORM. 'bulk': how many values and letters a reading holds, each counted each time it is reached (what is shared counts as often as it is met; a slice's spare places count too). A statement '..UptoSaid' is the law's where the arguments, and the package variables that the reading takes, are together of bulk at most 1048576: NARROWER than '..Said'. Prove '..Said' where nothing that the law and all that it calls make is longer than what came in: it says more and counts as full. Else prove '..UptoSaid'. A law counts once. -/
mutual
def uptoBulk {H : Type} : DataW H → Nat
  | .lit (.string bytes) => bytes.length + 1
  | .lit _ => 1
  | .nil => 1
  | .ptr d => uptoBulk d + 1
  | .slice elems spare => uptoBulkAll elems + uptoBulkAll spare + 1
  | .agg parts => uptoBulkAll parts + 1
  | .iface _ d => uptoBulk d + 1
  | .map entries => uptoBulkEntries entries + 1
  | .held _ => 1
def uptoBulkAll {H : Type} : List (DataW H) → Nat
  | [] => 0
  | d :: r => uptoBulk d + uptoBulkAll r
def uptoBulkEntries {H : Type} : List (Lit × DataW H) → Nat
  | [] => 0
  | x :: r => uptoBulkEntry x + uptoBulkEntries r
def uptoBulkEntry {H : Type} : Lit × DataW H → Nat
  | (.string bytes, d) => bytes.length + uptoBulk d + 1
  | (_, d) => uptoBulk d + 1
 end
def uptoSmall : (H : Type) → List (DataW H) → Bool := fun _ ds => decide (uptoBulkAll ds ≤ 1048576)
def OpenSpec.upto (s : _root_.Go.ChangeSpec) : _root_.Go.OpenSpec := { _root_.Go.OpenSpec.ofChange s with cond := some uptoSmall }

/-- 'laws.FnBadArea', WHERE WHAT IT READS IS OF BULK AT MOST 1048576: true; the input reads as it did. -/
def fnBadAreaUptoRow : OpenClaim := { program := "ytlflglcgpcnjdaa", sum := "c38afe7b24d634342c901896b4aa7b50dd5cde6a49cef9e7bc6582e07b0886d8", func := "loop.example/paperrolls/laws.FnBadArea", spec := "fnBadArea", apart := false, narrowed := true }
def FnBadAreaUptoSaid : Prop := fnBadAreaUptoRow.holds Try.pinned (OpenSpec.upto fnBadAreaSpec)

/-- 'laws.FnExactBadArea', WHERE WHAT IT READS IS OF BULK AT MOST 1048576: true; the input reads as it did. -/
def fnExactBadAreaUptoRow : OpenClaim := { program := "ytlflglcgpcnjdaa", sum := "c38afe7b24d634342c901896b4aa7b50dd5cde6a49cef9e7bc6582e07b0886d8", func := "loop.example/paperrolls/laws.FnExactBadArea", spec := "fnExactBadArea", apart := false, narrowed := true }
def FnExactBadAreaUptoSaid : Prop := fnExactBadAreaUptoRow.holds Try.pinned (OpenSpec.upto fnExactBadAreaSpec)

/-- 'laws.FnLongestGood', WHERE WHAT IT READS IS OF BULK AT MOST 1048576: true; the input reads as it did. -/
def fnLongestGoodUptoRow : OpenClaim := { program := "ytlflglcgpcnjdaa", sum := "c38afe7b24d634342c901896b4aa7b50dd5cde6a49cef9e7bc6582e07b0886d8", func := "loop.example/paperrolls/laws.FnLongestGood", spec := "fnLongestGood", apart := false, narrowed := true }
def FnLongestGoodUptoSaid : Prop := fnLongestGoodUptoRow.holds Try.pinned (OpenSpec.upto fnLongestGoodSpec)

/-- 'laws.FnGoodStretchesTurned', WHERE WHAT IT READS IS OF BULK AT MOST 1048576: true; the input reads as it did. -/
def fnGoodStretchesTurnedUptoRow : OpenClaim := { program := "ytlflglcgpcnjdaa", sum := "c38afe7b24d634342c901896b4aa7b50dd5cde6a49cef9e7bc6582e07b0886d8", func := "loop.example/paperrolls/laws.FnGoodStretchesTurned", spec := "fnGoodStretchesTurned", apart := false, narrowed := true }
def FnGoodStretchesTurnedUptoSaid : Prop := fnGoodStretchesTurnedUptoRow.holds Try.pinned (OpenSpec.upto fnGoodStretchesTurnedSpec)

/-- 'laws.FnBestLanes', WHERE WHAT IT READS IS OF BULK AT MOST 1048576: true; the input reads as it did. -/
def fnBestLanesUptoRow : OpenClaim := { program := "ytlflglcgpcnjdaa", sum := "c38afe7b24d634342c901896b4aa7b50dd5cde6a49cef9e7bc6582e07b0886d8", func := "loop.example/paperrolls/laws.FnBestLanes", spec := "fnBestLanes", apart := false, narrowed := true }
def FnBestLanesUptoSaid : Prop := fnBestLanesUptoRow.holds Try.pinned (OpenSpec.upto fnBestLanesSpec)

/-- 'laws.FnGoodStretches', WHERE WHAT IT READS IS OF BULK AT MOST 1048576: true; the input reads as it did. -/
def fnGoodStretchesUptoRow : OpenClaim := { program := "ytlflglcgpcnjdaa", sum := "c38afe7b24d634342c901896b4aa7b50dd5cde6a49cef9e7bc6582e07b0886d8", func := "loop.example/paperrolls/laws.FnGoodStretches", spec := "fnGoodStretches", apart := false, narrowed := true }
def FnGoodStretchesUptoSaid : Prop := fnGoodStretchesUptoRow.holds Try.pinned (OpenSpec.upto fnGoodStretchesSpec)

/-- 'laws.FnExactLongestGood', WHERE WHAT IT READS IS OF BULK AT MOST 1048576: true; the input reads as it did. -/
def fnExactLongestGoodUptoRow : OpenClaim := { program := "ytlflglcgpcnjdaa", sum := "c38afe7b24d634342c901896b4aa7b50dd5cde6a49cef9e7bc6582e07b0886d8", func := "loop.example/paperrolls/laws.FnExactLongestGood", spec := "fnExactLongestGood", apart := false, narrowed := true }
def FnExactLongestGoodUptoSaid : Prop := fnExactLongestGoodUptoRow.holds Try.pinned (OpenSpec.upto fnExactLongestGoodSpec)

/-- 'laws.FnExactBestLanes', WHERE WHAT IT READS IS OF BULK AT MOST 1048576: true; the input reads as it did. -/
def fnExactBestLanesUptoRow : OpenClaim := { program := "ytlflglcgpcnjdaa", sum := "c38afe7b24d634342c901896b4aa7b50dd5cde6a49cef9e7bc6582e07b0886d8", func := "loop.example/paperrolls/laws.FnExactBestLanes", spec := "fnExactBestLanes", apart := false, narrowed := true }
def FnExactBestLanesUptoSaid : Prop := fnExactBestLanesUptoRow.holds Try.pinned (OpenSpec.upto fnExactBestLanesSpec)

end Rows
end Go.Proofs.Ytlflglcgpcnjdaa
