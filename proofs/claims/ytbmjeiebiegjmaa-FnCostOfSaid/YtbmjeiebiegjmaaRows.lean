/-
  No cell of these rows narrows 'for every input' (looked for: loops, veiled, ifaces, maps, wideKeys, modest, calm, conditions, laid).
  DERIVED. THE GIVEN ROWS OF THIS SEAT. 7 by the template 'for every input the law returns true; each argument reads behind the call as it read before'; 0 by the template 'total and deterministic' (their statements: YtbmjeiebiegjmaaTotals.lean).
  GIVEN WITH THE SEED: the statements are not yours to turn. If you find one false, say at which input.
  Laid BY PROGRAM, IN A SANDBOX (cutbox-rows.mjs): the forced cells as the released guide's own fill.sh prints them over the translation 090fa4277e86346b… (all of the seat's roots in one cut). By AI agents, Wed Nov 11 2026. No macro, syntax, notation, axiom, sorry.
-/
import Derived.Test.YtbmjeiebiegjmaaChecked
import GoSem.Claim
import GoSem.ClaimJoined
import GoSem.ClaimMapViews
import Derived.JoinedTies
import Derived.KernelRfl
namespace Go.Proofs.Ytbmjeiebiegjmaa
/- THE CELL 'sum', in the pinned program and in every row, IS THE sha256 OF THE DUMP (.gsa) THAT YtbmjeiebiegjmaaProg.lean LOADS. Nothing in Lean hashes anything: it is a label: what it is worth is what the hold of that sum in a sandbox is worth. -/
noncomputable def Try.pinned : Pinned := { name := "ytbmjeiebiegjmaa", sum := "090fa4277e86346b1dd4d7d98c2eb42638d188ee7372d1af8d939919a26c922d", checked := Try.checked }
namespace Rows
def none {H : Type} : Left H := { results := [], args := [] }

/-- 'laws.FnPairKnivesOther': WHATEVER THE INPUT: true; the input reads as it did. -/
def fnPairKnivesOtherSpec : ChangeSpec := { name := "fnPairKnivesOther", fn := fun _ => fun
  | [d] => { results := [.lit (.bool true)], args := [d] }
  | _ => none }
def fnPairKnivesOtherRow : OpenClaim := { program := "ytbmjeiebiegjmaa", sum := "090fa4277e86346b1dd4d7d98c2eb42638d188ee7372d1af8d939919a26c922d", func := "loop.example/paperrolls/laws.FnPairKnivesOther", spec := "fnPairKnivesOther", apart := false }
def FnPairKnivesOtherSaid : Prop := fnPairKnivesOtherRow.holds Try.pinned (OpenSpec.ofChange fnPairKnivesOtherSpec)

/-- ITS FALSE NEIGHBOUR: 'it returns false'. Refute it at one input. -/
def fnPairKnivesOtherWrong : ChangeSpec := { name := "fnPairKnivesOther", fn := fun _ => fun
  | [d] => { results := [.lit (.bool false)], args := [d] }
  | _ => none }
def FnPairKnivesOtherWrongFalsely : Prop := fnPairKnivesOtherRow.holds Try.pinned (OpenSpec.ofChange fnPairKnivesOtherWrong)

/-- 'laws.FnNearestOrder': WHATEVER THE INPUT: true; the input reads as it did. -/
def fnNearestOrderSpec : ChangeSpec := { name := "fnNearestOrder", fn := fun _ => fun
  | [d] => { results := [.lit (.bool true)], args := [d] }
  | _ => none }
def fnNearestOrderRow : OpenClaim := { program := "ytbmjeiebiegjmaa", sum := "090fa4277e86346b1dd4d7d98c2eb42638d188ee7372d1af8d939919a26c922d", func := "loop.example/paperrolls/laws.FnNearestOrder", spec := "fnNearestOrder", recurses := true, apart := false }
def FnNearestOrderSaid : Prop := fnNearestOrderRow.holds Try.pinned (OpenSpec.ofChange fnNearestOrderSpec)

/-- ITS FALSE NEIGHBOUR: 'it returns false'. Refute it at one input. -/
def fnNearestOrderWrong : ChangeSpec := { name := "fnNearestOrder", fn := fun _ => fun
  | [d] => { results := [.lit (.bool false)], args := [d] }
  | _ => none }
def FnNearestOrderWrongFalsely : Prop := fnNearestOrderRow.holds Try.pinned (OpenSpec.ofChange fnNearestOrderWrong)

/-- 'laws.FnPairKnives': WHATEVER THE INPUT: true; the input reads as it did. -/
def fnPairKnivesSpec : ChangeSpec := { name := "fnPairKnives", fn := fun _ => fun
  | [d] => { results := [.lit (.bool true)], args := [d] }
  | _ => none }
def fnPairKnivesRow : OpenClaim := { program := "ytbmjeiebiegjmaa", sum := "090fa4277e86346b1dd4d7d98c2eb42638d188ee7372d1af8d939919a26c922d", func := "loop.example/paperrolls/laws.FnPairKnives", spec := "fnPairKnives", apart := false }
def FnPairKnivesSaid : Prop := fnPairKnivesRow.holds Try.pinned (OpenSpec.ofChange fnPairKnivesSpec)

/-- ITS FALSE NEIGHBOUR: 'it returns false'. Refute it at one input. -/
def fnPairKnivesWrong : ChangeSpec := { name := "fnPairKnives", fn := fun _ => fun
  | [d] => { results := [.lit (.bool false)], args := [d] }
  | _ => none }
def FnPairKnivesWrongFalsely : Prop := fnPairKnivesRow.holds Try.pinned (OpenSpec.ofChange fnPairKnivesWrong)

/-- 'laws.FnExactNearestOrder': WHATEVER THE INPUT: true; the input reads as it did. -/
def fnExactNearestOrderSpec : ChangeSpec := { name := "fnExactNearestOrder", fn := fun _ => fun
  | [d] => { results := [.lit (.bool true)], args := [d] }
  | _ => none }
def fnExactNearestOrderRow : OpenClaim := { program := "ytbmjeiebiegjmaa", sum := "090fa4277e86346b1dd4d7d98c2eb42638d188ee7372d1af8d939919a26c922d", func := "loop.example/paperrolls/laws.FnExactNearestOrder", spec := "fnExactNearestOrder", recurses := true, apart := false }
def FnExactNearestOrderSaid : Prop := fnExactNearestOrderRow.holds Try.pinned (OpenSpec.ofChange fnExactNearestOrderSpec)

/-- ITS FALSE NEIGHBOUR: 'it returns false'. Refute it at one input. -/
def fnExactNearestOrderWrong : ChangeSpec := { name := "fnExactNearestOrder", fn := fun _ => fun
  | [d] => { results := [.lit (.bool false)], args := [d] }
  | _ => none }
def FnExactNearestOrderWrongFalsely : Prop := fnExactNearestOrderRow.holds Try.pinned (OpenSpec.ofChange fnExactNearestOrderWrong)

/-- 'laws.FnExactCostOf': WHATEVER THE INPUT: true; the input reads as it did. -/
def fnExactCostOfSpec : ChangeSpec := { name := "fnExactCostOf", fn := fun _ => fun
  | [d1, d2] => { results := [.lit (.bool true)], args := [d1, d2] }
  | _ => none }
def fnExactCostOfRow : OpenClaim := { program := "ytbmjeiebiegjmaa", sum := "090fa4277e86346b1dd4d7d98c2eb42638d188ee7372d1af8d939919a26c922d", func := "loop.example/paperrolls/laws.FnExactCostOf", spec := "fnExactCostOf", recurses := true, apart := false }
def FnExactCostOfSaid : Prop := fnExactCostOfRow.holds Try.pinned (OpenSpec.ofChange fnExactCostOfSpec)

/-- ITS FALSE NEIGHBOUR: 'it returns false'. Refute it at one input. -/
def fnExactCostOfWrong : ChangeSpec := { name := "fnExactCostOf", fn := fun _ => fun
  | [d1, d2] => { results := [.lit (.bool false)], args := [d1, d2] }
  | _ => none }
def FnExactCostOfWrongFalsely : Prop := fnExactCostOfRow.holds Try.pinned (OpenSpec.ofChange fnExactCostOfWrong)

/-- 'laws.FnKnivesFor': WHATEVER THE INPUT: true; the input reads as it did. -/
def fnKnivesForSpec : ChangeSpec := { name := "fnKnivesFor", fn := fun _ => fun
  | [d] => { results := [.lit (.bool true)], args := [d] }
  | _ => none }
def fnKnivesForRow : OpenClaim := { program := "ytbmjeiebiegjmaa", sum := "090fa4277e86346b1dd4d7d98c2eb42638d188ee7372d1af8d939919a26c922d", func := "loop.example/paperrolls/laws.FnKnivesFor", spec := "fnKnivesFor", apart := false }
def FnKnivesForSaid : Prop := fnKnivesForRow.holds Try.pinned (OpenSpec.ofChange fnKnivesForSpec)

/-- ITS FALSE NEIGHBOUR: 'it returns false'. Refute it at one input. -/
def fnKnivesForWrong : ChangeSpec := { name := "fnKnivesFor", fn := fun _ => fun
  | [d] => { results := [.lit (.bool false)], args := [d] }
  | _ => none }
def FnKnivesForWrongFalsely : Prop := fnKnivesForRow.holds Try.pinned (OpenSpec.ofChange fnKnivesForWrong)

/-- 'laws.FnCostOf': WHATEVER THE INPUT: true; the input reads as it did. -/
def fnCostOfSpec : ChangeSpec := { name := "fnCostOf", fn := fun _ => fun
  | [d] => { results := [.lit (.bool true)], args := [d] }
  | _ => none }
def fnCostOfRow : OpenClaim := { program := "ytbmjeiebiegjmaa", sum := "090fa4277e86346b1dd4d7d98c2eb42638d188ee7372d1af8d939919a26c922d", func := "loop.example/paperrolls/laws.FnCostOf", spec := "fnCostOf", recurses := true, apart := false }
def FnCostOfSaid : Prop := fnCostOfRow.holds Try.pinned (OpenSpec.ofChange fnCostOfSpec)

/-- ITS FALSE NEIGHBOUR: 'it returns false'. Refute it at one input. -/
def fnCostOfWrong : ChangeSpec := { name := "fnCostOf", fn := fun _ => fun
  | [d] => { results := [.lit (.bool false)], args := [d] }
  | _ => none }
def FnCostOfWrongFalsely : Prop := fnCostOfRow.holds Try.pinned (OpenSpec.ofChange fnCostOfWrong)

/- THE SECOND FORM. 'bulk': how many values and letters a reading holds, each counted each time it is reached (what is shared counts as often as it is met; a slice's spare places count too). A statement '..UptoSaid' is the law's where the arguments, and the package variables that the reading takes, are together of bulk at most 1048576: NARROWER than '..Said'. Prove '..Said' where nothing that the law and all that it calls make is longer than what came in: it says more and counts as full. Else prove '..UptoSaid'. A law counts once. -/
mutual
def uptoBulk {H : Type} : DataW H → Nat
  | .lit (.string bytes) => bytes.length + 1
  | .lit _ => 1
  | .nil => 1
  | .ptr d => uptoBulk d + 1
  | .slice elems spare => uptoBulkAll elems + uptoBulkAll spare + 1
  | .agg parts => uptoBulkAll parts + 1
  | .iface _ d => uptoBulk d + 1
  | .map entries => uptoBulkEntries entries + 1
  | .held _ => 1
def uptoBulkAll {H : Type} : List (DataW H) → Nat
  | [] => 0
  | d :: r => uptoBulk d + uptoBulkAll r
def uptoBulkEntries {H : Type} : List (Lit × DataW H) → Nat
  | [] => 0
  | x :: r => uptoBulkEntry x + uptoBulkEntries r
def uptoBulkEntry {H : Type} : Lit × DataW H → Nat
  | (.string bytes, d) => bytes.length + uptoBulk d + 1
  | (_, d) => uptoBulk d + 1
 end
def uptoSmall : (H : Type) → List (DataW H) → Bool := fun _ ds => decide (uptoBulkAll ds ≤ 1048576)
def OpenSpec.upto (s : _root_.Go.ChangeSpec) : _root_.Go.OpenSpec := { _root_.Go.OpenSpec.ofChange s with cond := some uptoSmall }

/-- 'laws.FnPairKnivesOther', WHERE WHAT IT READS IS OF BULK AT MOST 1048576: true; the input reads as it did. -/
def fnPairKnivesOtherUptoRow : OpenClaim := { program := "ytbmjeiebiegjmaa", sum := "090fa4277e86346b1dd4d7d98c2eb42638d188ee7372d1af8d939919a26c922d", func := "loop.example/paperrolls/laws.FnPairKnivesOther", spec := "fnPairKnivesOther", apart := false, narrowed := true }
def FnPairKnivesOtherUptoSaid : Prop := fnPairKnivesOtherUptoRow.holds Try.pinned (OpenSpec.upto fnPairKnivesOtherSpec)

/-- 'laws.FnNearestOrder', WHERE WHAT IT READS IS OF BULK AT MOST 1048576: true; the input reads as it did. -/
def fnNearestOrderUptoRow : OpenClaim := { program := "ytbmjeiebiegjmaa", sum := "090fa4277e86346b1dd4d7d98c2eb42638d188ee7372d1af8d939919a26c922d", func := "loop.example/paperrolls/laws.FnNearestOrder", spec := "fnNearestOrder", recurses := true, apart := false, narrowed := true }
def FnNearestOrderUptoSaid : Prop := fnNearestOrderUptoRow.holds Try.pinned (OpenSpec.upto fnNearestOrderSpec)

/-- 'laws.FnPairKnives', WHERE WHAT IT READS IS OF BULK AT MOST 1048576: true; the input reads as it did. -/
def fnPairKnivesUptoRow : OpenClaim := { program := "ytbmjeiebiegjmaa", sum := "090fa4277e86346b1dd4d7d98c2eb42638d188ee7372d1af8d939919a26c922d", func := "loop.example/paperrolls/laws.FnPairKnives", spec := "fnPairKnives", apart := false, narrowed := true }
def FnPairKnivesUptoSaid : Prop := fnPairKnivesUptoRow.holds Try.pinned (OpenSpec.upto fnPairKnivesSpec)

/-- 'laws.FnExactNearestOrder', WHERE WHAT IT READS IS OF BULK AT MOST 1048576: true; the input reads as it did. -/
def fnExactNearestOrderUptoRow : OpenClaim := { program := "ytbmjeiebiegjmaa", sum := "090fa4277e86346b1dd4d7d98c2eb42638d188ee7372d1af8d939919a26c922d", func := "loop.example/paperrolls/laws.FnExactNearestOrder", spec := "fnExactNearestOrder", recurses := true, apart := false, narrowed := true }
def FnExactNearestOrderUptoSaid : Prop := fnExactNearestOrderUptoRow.holds Try.pinned (OpenSpec.upto fnExactNearestOrderSpec)

/-- 'laws.FnExactCostOf', WHERE WHAT IT READS IS OF BULK AT MOST 1048576: true; the input reads as it did. -/
def fnExactCostOfUptoRow : OpenClaim := { program := "ytbmjeiebiegjmaa", sum := "090fa4277e86346b1dd4d7d98c2eb42638d188ee7372d1af8d939919a26c922d", func := "loop.example/paperrolls/laws.FnExactCostOf", spec := "fnExactCostOf", recurses := true, apart := false, narrowed := true }
def FnExactCostOfUptoSaid : Prop := fnExactCostOfUptoRow.holds Try.pinned (OpenSpec.upto fnExactCostOfSpec)

/-- 'laws.FnKnivesFor', WHERE WHAT IT READS IS OF BULK AT MOST 1048576: true; the input reads as it did. -/
def fnKnivesForUptoRow : OpenClaim := { program := "ytbmjeiebiegjmaa", sum := "090fa4277e86346b1dd4d7d98c2eb42638d188ee7372d1af8d939919a26c922d", func := "loop.example/paperrolls/laws.FnKnivesFor", spec := "fnKnivesFor", apart := false, narrowed := true }
def FnKnivesForUptoSaid : Prop := fnKnivesForUptoRow.holds Try.pinned (OpenSpec.upto fnKnivesForSpec)

/-- 'laws.FnCostOf', WHERE WHAT IT READS IS OF BULK AT MOST 1048576: true; the input reads as it did. -/
def fnCostOfUptoRow : OpenClaim := { program := "ytbmjeiebiegjmaa", sum := "090fa4277e86346b1dd4d7d98c2eb42638d188ee7372d1af8d939919a26c922d", func := "loop.example/paperrolls/laws.FnCostOf", spec := "fnCostOf", recurses := true, apart := false, narrowed := true }
def FnCostOfUptoSaid : Prop := fnCostOfUptoRow.holds Try.pinned (OpenSpec.upto fnCostOfSpec)

end Rows
end Go.Proofs.Ytbmjeiebiegjmaa
