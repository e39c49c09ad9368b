/-
  No cell of these rows narrows 'for every input' (looked for: loops, veiled, ifaces, maps, wideKeys, modest, calm, conditions, laid).
  DERIVED. THE GIVEN ROWS OF THIS SEAT. 11 by the template 'for every input the law returns true; each argument reads behind the call as it read before'; 0 by the template 'total and deterministic' (their statements: YtjpbmjigmbfcfaaTotals.lean).
  GIVEN WITH THE SEED: the statements are not yours to turn. If you find one false, say at which input.
  Laid BY PROGRAM, IN A SANDBOX (cutbox-rows.mjs): the forced cells as the released guide's own fill.sh prints them over the translation 1a072de4db1ba340… (all of the seat's roots in one cut). By AI agents, Wed Nov 11 2026. No macro, syntax, notation, axiom, sorry.
-/
import Derived.Test.YtjpbmjigmbfcfaaChecked
import GoSem.Claim
import GoSem.ClaimJoined
import GoSem.ClaimMapViews
import Derived.JoinedTies
import Derived.KernelRfl
namespace Go.Proofs.Ytjpbmjigmbfcfaa
/- THE CELL 'sum', in the pinned program and in every row, IS THE sha256 OF THE DUMP (.gsa) THAT YtjpbmjigmbfcfaaProg.lean LOADS. Nothing in Lean hashes anything: it is a label: what it is worth is what the hold of that sum in a sandbox is worth. -/
noncomputable def Try.pinned : Pinned := { name := "ytjpbmjigmbfcfaa", sum := "1a072de4db1ba34018a06371f9721ccc886e3fd40d96dbea554c3bfad5d3f18e", checked := Try.checked }
namespace Rows
def none {H : Type} : Left H := { results := [], args := [] }

/-- 'laws.FnExactBestPattern': WHATEVER THE INPUT: true; the input reads as it did. -/
def fnExactBestPatternSpec : ChangeSpec := { name := "fnExactBestPattern", fn := fun _ => fun
  | [d1, d2, d3] => { results := [.lit (.bool true)], args := [d1, d2, d3] }
  | _ => none }
def fnExactBestPatternRow : OpenClaim := { program := "ytjpbmjigmbfcfaa", sum := "1a072de4db1ba34018a06371f9721ccc886e3fd40d96dbea554c3bfad5d3f18e", func := "loop.example/paperrolls/laws.FnExactBestPattern", spec := "fnExactBestPattern", apart := false }
def FnExactBestPatternSaid : Prop := fnExactBestPatternRow.holds Try.pinned (OpenSpec.ofChange fnExactBestPatternSpec)

/-- ITS FALSE NEIGHBOUR: 'it returns false'. Refute it at one input. -/
def fnExactBestPatternWrong : ChangeSpec := { name := "fnExactBestPattern", fn := fun _ => fun
  | [d1, d2, d3] => { results := [.lit (.bool false)], args := [d1, d2, d3] }
  | _ => none }
def FnExactBestPatternWrongFalsely : Prop := fnExactBestPatternRow.holds Try.pinned (OpenSpec.ofChange fnExactBestPatternWrong)

/-- 'laws.FnTrimOf': WHATEVER THE INPUT: true; the input reads as it did. -/
def fnTrimOfSpec : ChangeSpec := { name := "fnTrimOf", fn := fun _ => fun
  | [d] => { results := [.lit (.bool true)], args := [d] }
  | _ => none }
def fnTrimOfRow : OpenClaim := { program := "ytjpbmjigmbfcfaa", sum := "1a072de4db1ba34018a06371f9721ccc886e3fd40d96dbea554c3bfad5d3f18e", func := "loop.example/paperrolls/laws.FnTrimOf", spec := "fnTrimOf", apart := false }
def FnTrimOfSaid : Prop := fnTrimOfRow.holds Try.pinned (OpenSpec.ofChange fnTrimOfSpec)

/-- ITS FALSE NEIGHBOUR: 'it returns false'. Refute it at one input. -/
def fnTrimOfWrong : ChangeSpec := { name := "fnTrimOf", fn := fun _ => fun
  | [d] => { results := [.lit (.bool false)], args := [d] }
  | _ => none }
def FnTrimOfWrongFalsely : Prop := fnTrimOfRow.holds Try.pinned (OpenSpec.ofChange fnTrimOfWrong)

/-- 'laws.FnExactPriceBound': WHATEVER THE INPUT: true; the input reads as it did. -/
def fnExactPriceBoundSpec : ChangeSpec := { name := "fnExactPriceBound", fn := fun _ => fun
  | [d1, d2, d3, d4] => { results := [.lit (.bool true)], args := [d1, d2, d3, d4] }
  | _ => none }
def fnExactPriceBoundRow : OpenClaim := { program := "ytjpbmjigmbfcfaa", sum := "1a072de4db1ba34018a06371f9721ccc886e3fd40d96dbea554c3bfad5d3f18e", func := "loop.example/paperrolls/laws.FnExactPriceBound", spec := "fnExactPriceBound", apart := false }
def FnExactPriceBoundSaid : Prop := fnExactPriceBoundRow.holds Try.pinned (OpenSpec.ofChange fnExactPriceBoundSpec)

/-- ITS FALSE NEIGHBOUR: 'it returns false'. Refute it at one input. -/
def fnExactPriceBoundWrong : ChangeSpec := { name := "fnExactPriceBound", fn := fun _ => fun
  | [d1, d2, d3, d4] => { results := [.lit (.bool false)], args := [d1, d2, d3, d4] }
  | _ => none }
def FnExactPriceBoundWrongFalsely : Prop := fnExactPriceBoundRow.holds Try.pinned (OpenSpec.ofChange fnExactPriceBoundWrong)

/-- 'laws.FnExactFullPatterns': WHATEVER THE INPUT: true; the input reads as it did. -/
def fnExactFullPatternsSpec : ChangeSpec := { name := "fnExactFullPatterns", fn := fun _ => fun
  | [d1, d2] => { results := [.lit (.bool true)], args := [d1, d2] }
  | _ => none }
def fnExactFullPatternsRow : OpenClaim := { program := "ytjpbmjigmbfcfaa", sum := "1a072de4db1ba34018a06371f9721ccc886e3fd40d96dbea554c3bfad5d3f18e", func := "loop.example/paperrolls/laws.FnExactFullPatterns", spec := "fnExactFullPatterns", unfollowed := true, recurses := true, apart := false }
def FnExactFullPatternsSaid : Prop := fnExactFullPatternsRow.holds Try.pinned (OpenSpec.ofChange fnExactFullPatternsSpec)

/-- ITS FALSE NEIGHBOUR: 'it returns false'. Refute it at one input. -/
def fnExactFullPatternsWrong : ChangeSpec := { name := "fnExactFullPatterns", fn := fun _ => fun
  | [d1, d2] => { results := [.lit (.bool false)], args := [d1, d2] }
  | _ => none }
def FnExactFullPatternsWrongFalsely : Prop := fnExactFullPatternsRow.holds Try.pinned (OpenSpec.ofChange fnExactFullPatternsWrong)

/-- 'laws.FnFullPatternsAll': WHATEVER THE INPUT: true; the input reads as it did. -/
def fnFullPatternsAllSpec : ChangeSpec := { name := "fnFullPatternsAll", fn := fun _ => fun
  | [d] => { results := [.lit (.bool true)], args := [d] }
  | _ => none }
def fnFullPatternsAllRow : OpenClaim := { program := "ytjpbmjigmbfcfaa", sum := "1a072de4db1ba34018a06371f9721ccc886e3fd40d96dbea554c3bfad5d3f18e", func := "loop.example/paperrolls/laws.FnFullPatternsAll", spec := "fnFullPatternsAll", unfollowed := true, recurses := true, apart := false }
def FnFullPatternsAllSaid : Prop := fnFullPatternsAllRow.holds Try.pinned (OpenSpec.ofChange fnFullPatternsAllSpec)

/-- ITS FALSE NEIGHBOUR: 'it returns false'. Refute it at one input. -/
def fnFullPatternsAllWrong : ChangeSpec := { name := "fnFullPatternsAll", fn := fun _ => fun
  | [d] => { results := [.lit (.bool false)], args := [d] }
  | _ => none }
def FnFullPatternsAllWrongFalsely : Prop := fnFullPatternsAllRow.holds Try.pinned (OpenSpec.ofChange fnFullPatternsAllWrong)

/-- 'laws.FnExactWholeSets': WHATEVER THE INPUT: true; the input reads as it did. -/
def fnExactWholeSetsSpec : ChangeSpec := { name := "fnExactWholeSets", fn := fun _ => fun
  | [d1, d2, d3] => { results := [.lit (.bool true)], args := [d1, d2, d3] }
  | _ => none }
def fnExactWholeSetsRow : OpenClaim := { program := "ytjpbmjigmbfcfaa", sum := "1a072de4db1ba34018a06371f9721ccc886e3fd40d96dbea554c3bfad5d3f18e", func := "loop.example/paperrolls/laws.FnExactWholeSets", spec := "fnExactWholeSets", apart := false }
def FnExactWholeSetsSaid : Prop := fnExactWholeSetsRow.holds Try.pinned (OpenSpec.ofChange fnExactWholeSetsSpec)

/-- ITS FALSE NEIGHBOUR: 'it returns false'. Refute it at one input. -/
def fnExactWholeSetsWrong : ChangeSpec := { name := "fnExactWholeSets", fn := fun _ => fun
  | [d1, d2, d3] => { results := [.lit (.bool false)], args := [d1, d2, d3] }
  | _ => none }
def FnExactWholeSetsWrongFalsely : Prop := fnExactWholeSetsRow.holds Try.pinned (OpenSpec.ofChange fnExactWholeSetsWrong)

/-- 'laws.FnFullPatterns': WHATEVER THE INPUT: true; the input reads as it did. -/
def fnFullPatternsSpec : ChangeSpec := { name := "fnFullPatterns", fn := fun _ => fun
  | [d] => { results := [.lit (.bool true)], args := [d] }
  | _ => none }
def fnFullPatternsRow : OpenClaim := { program := "ytjpbmjigmbfcfaa", sum := "1a072de4db1ba34018a06371f9721ccc886e3fd40d96dbea554c3bfad5d3f18e", func := "loop.example/paperrolls/laws.FnFullPatterns", spec := "fnFullPatterns", unfollowed := true, recurses := true, apart := false }
def FnFullPatternsSaid : Prop := fnFullPatternsRow.holds Try.pinned (OpenSpec.ofChange fnFullPatternsSpec)

/-- ITS FALSE NEIGHBOUR: 'it returns false'. Refute it at one input. -/
def fnFullPatternsWrong : ChangeSpec := { name := "fnFullPatterns", fn := fun _ => fun
  | [d] => { results := [.lit (.bool false)], args := [d] }
  | _ => none }
def FnFullPatternsWrongFalsely : Prop := fnFullPatternsRow.holds Try.pinned (OpenSpec.ofChange fnFullPatternsWrong)

/-- 'laws.FnBestUse': WHATEVER THE INPUT: true; the input reads as it did. -/
def fnBestUseSpec : ChangeSpec := { name := "fnBestUse", fn := fun _ => fun
  | [d] => { results := [.lit (.bool true)], args := [d] }
  | _ => none }
def fnBestUseRow : OpenClaim := { program := "ytjpbmjigmbfcfaa", sum := "1a072de4db1ba34018a06371f9721ccc886e3fd40d96dbea554c3bfad5d3f18e", func := "loop.example/paperrolls/laws.FnBestUse", spec := "fnBestUse", unfollowed := true, recurses := true, apart := false }
def FnBestUseSaid : Prop := fnBestUseRow.holds Try.pinned (OpenSpec.ofChange fnBestUseSpec)

/-- ITS FALSE NEIGHBOUR: 'it returns false'. Refute it at one input. -/
def fnBestUseWrong : ChangeSpec := { name := "fnBestUse", fn := fun _ => fun
  | [d] => { results := [.lit (.bool false)], args := [d] }
  | _ => none }
def FnBestUseWrongFalsely : Prop := fnBestUseRow.holds Try.pinned (OpenSpec.ofChange fnBestUseWrong)

/-- 'laws.FnExactFewestSets': WHATEVER THE INPUT: true; the input reads as it did. -/
def fnExactFewestSetsSpec : ChangeSpec := { name := "fnExactFewestSets", fn := fun _ => fun
  | [d1, d2, d3] => { results := [.lit (.bool true)], args := [d1, d2, d3] }
  | _ => none }
def fnExactFewestSetsRow : OpenClaim := { program := "ytjpbmjigmbfcfaa", sum := "1a072de4db1ba34018a06371f9721ccc886e3fd40d96dbea554c3bfad5d3f18e", func := "loop.example/paperrolls/laws.FnExactFewestSets", spec := "fnExactFewestSets", recurses := true, apart := false }
def FnExactFewestSetsSaid : Prop := fnExactFewestSetsRow.holds Try.pinned (OpenSpec.ofChange fnExactFewestSetsSpec)

/-- ITS FALSE NEIGHBOUR: 'it returns false'. Refute it at one input. -/
def fnExactFewestSetsWrong : ChangeSpec := { name := "fnExactFewestSets", fn := fun _ => fun
  | [d1, d2, d3] => { results := [.lit (.bool false)], args := [d1, d2, d3] }
  | _ => none }
def FnExactFewestSetsWrongFalsely : Prop := fnExactFewestSetsRow.holds Try.pinned (OpenSpec.ofChange fnExactFewestSetsWrong)

/-- 'laws.FnWholeSets': WHATEVER THE INPUT: true; the input reads as it did. -/
def fnWholeSetsSpec : ChangeSpec := { name := "fnWholeSets", fn := fun _ => fun
  | [d] => { results := [.lit (.bool true)], args := [d] }
  | _ => none }
def fnWholeSetsRow : OpenClaim := { program := "ytjpbmjigmbfcfaa", sum := "1a072de4db1ba34018a06371f9721ccc886e3fd40d96dbea554c3bfad5d3f18e", func := "loop.example/paperrolls/laws.FnWholeSets", spec := "fnWholeSets", apart := false }
def FnWholeSetsSaid : Prop := fnWholeSetsRow.holds Try.pinned (OpenSpec.ofChange fnWholeSetsSpec)

/-- ITS FALSE NEIGHBOUR: 'it returns false'. Refute it at one input. -/
def fnWholeSetsWrong : ChangeSpec := { name := "fnWholeSets", fn := fun _ => fun
  | [d] => { results := [.lit (.bool false)], args := [d] }
  | _ => none }
def FnWholeSetsWrongFalsely : Prop := fnWholeSetsRow.holds Try.pinned (OpenSpec.ofChange fnWholeSetsWrong)

/-- 'laws.FnBestPattern': WHATEVER THE INPUT: true; the input reads as it did. -/
def fnBestPatternSpec : ChangeSpec := { name := "fnBestPattern", fn := fun _ => fun
  | [d] => { results := [.lit (.bool true)], args := [d] }
  | _ => none }
def fnBestPatternRow : OpenClaim := { program := "ytjpbmjigmbfcfaa", sum := "1a072de4db1ba34018a06371f9721ccc886e3fd40d96dbea554c3bfad5d3f18e", func := "loop.example/paperrolls/laws.FnBestPattern", spec := "fnBestPattern", apart := false }
def FnBestPatternSaid : Prop := fnBestPatternRow.holds Try.pinned (OpenSpec.ofChange fnBestPatternSpec)

/-- ITS FALSE NEIGHBOUR: 'it returns false'. Refute it at one input. -/
def fnBestPatternWrong : ChangeSpec := { name := "fnBestPattern", fn := fun _ => fun
  | [d] => { results := [.lit (.bool false)], args := [d] }
  | _ => none }
def FnBestPatternWrongFalsely : Prop := fnBestPatternRow.holds Try.pinned (OpenSpec.ofChange fnBestPatternWrong)

/- THE SECOND FORM. 'bulk': how many values and letters a reading holds, each counted each time it is reached (what is shared counts as often as it is met; a slice's spare places count too). A statement '..UptoSaid' is the law's where the arguments, and the package variables that the reading takes, are together of bulk at most 1048576: NARROWER than '..Said'. Prove '..Said' where nothing that the law and all that it calls make is longer than what came in: it says more and counts as full. Else prove '..UptoSaid'. A law counts once. -/
mutual
def uptoBulk {H : Type} : DataW H → Nat
  | .lit (.string bytes) => bytes.length + 1
  | .lit _ => 1
  | .nil => 1
  | .ptr d => uptoBulk d + 1
  | .slice elems spare => uptoBulkAll elems + uptoBulkAll spare + 1
  | .agg parts => uptoBulkAll parts + 1
  | .iface _ d => uptoBulk d + 1
  | .map entries => uptoBulkEntries entries + 1
  | .held _ => 1
def uptoBulkAll {H : Type} : List (DataW H) → Nat
  | [] => 0
  | d :: r => uptoBulk d + uptoBulkAll r
def uptoBulkEntries {H : Type} : List (Lit × DataW H) → Nat
  | [] => 0
  | x :: r => uptoBulkEntry x + uptoBulkEntries r
def uptoBulkEntry {H : Type} : Lit × DataW H → Nat
  | (.string bytes, d) => bytes.length + uptoBulk d + 1
  | (_, d) => uptoBulk d + 1
 end
def uptoSmall : (H : Type) → List (DataW H) → Bool := fun _ ds => decide (uptoBulkAll ds ≤ 1048576)
def OpenSpec.upto (s : _root_.Go.ChangeSpec) : _root_.Go.OpenSpec := { _root_.Go.OpenSpec.ofChange s with cond := some uptoSmall }

/-- 'laws.FnExactBestPattern', WHERE WHAT IT READS IS OF BULK AT MOST 1048576: true; the input reads as it did. -/
def fnExactBestPatternUptoRow : OpenClaim := { program := "ytjpbmjigmbfcfaa", sum := "1a072de4db1ba34018a06371f9721ccc886e3fd40d96dbea554c3bfad5d3f18e", func := "loop.example/paperrolls/laws.FnExactBestPattern", spec := "fnExactBestPattern", apart := false, narrowed := true }
def FnExactBestPatternUptoSaid : Prop := fnExactBestPatternUptoRow.holds Try.pinned (OpenSpec.upto fnExactBestPatternSpec)

/-- 'laws.FnTrimOf', WHERE WHAT IT READS IS OF BULK AT MOST 1048576: true; the input reads as it did. -/
def fnTrimOfUptoRow : OpenClaim := { program := "ytjpbmjigmbfcfaa", sum := "1a072de4db1ba34018a06371f9721ccc886e3fd40d96dbea554c3bfad5d3f18e", func := "loop.example/paperrolls/laws.FnTrimOf", spec := "fnTrimOf", apart := false, narrowed := true }
def FnTrimOfUptoSaid : Prop := fnTrimOfUptoRow.holds Try.pinned (OpenSpec.upto fnTrimOfSpec)

/-- 'laws.FnExactPriceBound', WHERE WHAT IT READS IS OF BULK AT MOST 1048576: true; the input reads as it did. -/
def fnExactPriceBoundUptoRow : OpenClaim := { program := "ytjpbmjigmbfcfaa", sum := "1a072de4db1ba34018a06371f9721ccc886e3fd40d96dbea554c3bfad5d3f18e", func := "loop.example/paperrolls/laws.FnExactPriceBound", spec := "fnExactPriceBound", apart := false, narrowed := true }
def FnExactPriceBoundUptoSaid : Prop := fnExactPriceBoundUptoRow.holds Try.pinned (OpenSpec.upto fnExactPriceBoundSpec)

/-- 'laws.FnExactFullPatterns', WHERE WHAT IT READS IS OF BULK AT MOST 1048576: true; the input reads as it did. -/
def fnExactFullPatternsUptoRow : OpenClaim := { program := "ytjpbmjigmbfcfaa", sum := "1a072de4db1ba34018a06371f9721ccc886e3fd40d96dbea554c3bfad5d3f18e", func := "loop.example/paperrolls/laws.FnExactFullPatterns", spec := "fnExactFullPatterns", unfollowed := true, recurses := true, apart := false, narrowed := true }
def FnExactFullPatternsUptoSaid : Prop := fnExactFullPatternsUptoRow.holds Try.pinned (OpenSpec.upto fnExactFullPatternsSpec)

/-- 'laws.FnFullPatternsAll', WHERE WHAT IT READS IS OF BULK AT MOST 1048576: true; the input reads as it did. -/
def fnFullPatternsAllUptoRow : OpenClaim := { program := "ytjpbmjigmbfcfaa", sum := "1a072de4db1ba34018a06371f9721ccc886e3fd40d96dbea554c3bfad5d3f18e", func := "loop.example/paperrolls/laws.FnFullPatternsAll", spec := "fnFullPatternsAll", unfollowed := true, recurses := true, apart := false, narrowed := true }
def FnFullPatternsAllUptoSaid : Prop := fnFullPatternsAllUptoRow.holds Try.pinned (OpenSpec.upto fnFullPatternsAllSpec)

/-- 'laws.FnExactWholeSets', WHERE WHAT IT READS IS OF BULK AT MOST 1048576: true; the input reads as it did. -/
def fnExactWholeSetsUptoRow : OpenClaim := { program := "ytjpbmjigmbfcfaa", sum := "1a072de4db1ba34018a06371f9721ccc886e3fd40d96dbea554c3bfad5d3f18e", func := "loop.example/paperrolls/laws.FnExactWholeSets", spec := "fnExactWholeSets", apart := false, narrowed := true }
def FnExactWholeSetsUptoSaid : Prop := fnExactWholeSetsUptoRow.holds Try.pinned (OpenSpec.upto fnExactWholeSetsSpec)

/-- 'laws.FnFullPatterns', WHERE WHAT IT READS IS OF BULK AT MOST 1048576: true; the input reads as it did. -/
def fnFullPatternsUptoRow : OpenClaim := { program := "ytjpbmjigmbfcfaa", sum := "1a072de4db1ba34018a06371f9721ccc886e3fd40d96dbea554c3bfad5d3f18e", func := "loop.example/paperrolls/laws.FnFullPatterns", spec := "fnFullPatterns", unfollowed := true, recurses := true, apart := false, narrowed := true }
def FnFullPatternsUptoSaid : Prop := fnFullPatternsUptoRow.holds Try.pinned (OpenSpec.upto fnFullPatternsSpec)

/-- 'laws.FnBestUse', WHERE WHAT IT READS IS OF BULK AT MOST 1048576: true; the input reads as it did. -/
def fnBestUseUptoRow : OpenClaim := { program := "ytjpbmjigmbfcfaa", sum := "1a072de4db1ba34018a06371f9721ccc886e3fd40d96dbea554c3bfad5d3f18e", func := "loop.example/paperrolls/laws.FnBestUse", spec := "fnBestUse", unfollowed := true, recurses := true, apart := false, narrowed := true }
def FnBestUseUptoSaid : Prop := fnBestUseUptoRow.holds Try.pinned (OpenSpec.upto fnBestUseSpec)

/-- 'laws.FnExactFewestSets', WHERE WHAT IT READS IS OF BULK AT MOST 1048576: true; the input reads as it did. -/
def fnExactFewestSetsUptoRow : OpenClaim := { program := "ytjpbmjigmbfcfaa", sum := "1a072de4db1ba34018a06371f9721ccc886e3fd40d96dbea554c3bfad5d3f18e", func := "loop.example/paperrolls/laws.FnExactFewestSets", spec := "fnExactFewestSets", recurses := true, apart := false, narrowed := true }
def FnExactFewestSetsUptoSaid : Prop := fnExactFewestSetsUptoRow.holds Try.pinned (OpenSpec.upto fnExactFewestSetsSpec)

/-- 'laws.FnWholeSets', WHERE WHAT IT READS IS OF BULK AT MOST 1048576: true; the input reads as it did. -/
def fnWholeSetsUptoRow : OpenClaim := { program := "ytjpbmjigmbfcfaa", sum := "1a072de4db1ba34018a06371f9721ccc886e3fd40d96dbea554c3bfad5d3f18e", func := "loop.example/paperrolls/laws.FnWholeSets", spec := "fnWholeSets", apart := false, narrowed := true }
def FnWholeSetsUptoSaid : Prop := fnWholeSetsUptoRow.holds Try.pinned (OpenSpec.upto fnWholeSetsSpec)

/-- 'laws.FnBestPattern', WHERE WHAT IT READS IS OF BULK AT MOST 1048576: true; the input reads as it did. -/
def fnBestPatternUptoRow : OpenClaim := { program := "ytjpbmjigmbfcfaa", sum := "1a072de4db1ba34018a06371f9721ccc886e3fd40d96dbea554c3bfad5d3f18e", func := "loop.example/paperrolls/laws.FnBestPattern", spec := "fnBestPattern", apart := false, narrowed := true }
def FnBestPatternUptoSaid : Prop := fnBestPatternUptoRow.holds Try.pinned (OpenSpec.upto fnBestPatternSpec)

end Rows
end Go.Proofs.Ytjpbmjigmbfcfaa
