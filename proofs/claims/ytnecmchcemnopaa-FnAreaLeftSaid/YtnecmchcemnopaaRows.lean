/-
  No cell of these rows narrows 'for every input' (looked for: loops, veiled, ifaces, maps, wideKeys, modest, calm, conditions, laid).
  DERIVED. THE GIVEN ROWS OF THIS SEAT. 10 by the template 'for every input the law returns true; each argument reads behind the call as it read before'; 0 by the template 'total and deterministic' (their statements: YtnecmchcemnopaaTotals.lean).
  GIVEN WITH THE SEED: the statements are not yours to turn. If you find one false, say at which input.
  Laid BY PROGRAM, IN A SANDBOX (cutbox-rows.mjs): the forced cells as the released guide's own fill.sh prints them over the translation 6375aaff239dfb0c… (all of the seat's roots in one cut). By AI agents, Wed Nov 11 2026. No macro, syntax, notation, axiom, sorry.
-/
import Derived.Test.YtnecmchcemnopaaChecked
import GoSem.Claim
import GoSem.ClaimJoined
import GoSem.ClaimMapViews
import Derived.JoinedTies
import Derived.KernelRfl
namespace Go.Proofs.Ytnecmchcemnopaa
/- THE CELL 'sum', in the pinned program and in every row, IS THE sha256 OF THE DUMP (.gsa) THAT YtnecmchcemnopaaProg.lean LOADS. Nothing in Lean hashes anything: it is a label: what it is worth is what the hold of that sum in a sandbox is worth. -/
noncomputable def Try.pinned : Pinned := { name := "ytnecmchcemnopaa", sum := "6375aaff239dfb0c75259c629ae9dea0166350d097ceb14824957ed46c28bef6", checked := Try.checked }
namespace Rows
def none {H : Type} : Left H := { results := [], args := [] }

/-- 'laws.FnValidCuts': WHATEVER THE INPUT: true; the input reads as it did. -/
def fnValidCutsSpec : ChangeSpec := { name := "fnValidCuts", fn := fun _ => fun
  | [d] => { results := [.lit (.bool true)], args := [d] }
  | _ => none }
def fnValidCutsRow : OpenClaim := { program := "ytnecmchcemnopaa", sum := "6375aaff239dfb0c75259c629ae9dea0166350d097ceb14824957ed46c28bef6", func := "loop.example/paperrolls/laws.FnValidCuts", spec := "fnValidCuts", apart := false }
def FnValidCutsSaid : Prop := fnValidCutsRow.holds Try.pinned (OpenSpec.ofChange fnValidCutsSpec)

/-- ITS FALSE NEIGHBOUR: 'it returns false'. Refute it at one input. -/
def fnValidCutsWrong : ChangeSpec := { name := "fnValidCuts", fn := fun _ => fun
  | [d] => { results := [.lit (.bool false)], args := [d] }
  | _ => none }
def FnValidCutsWrongFalsely : Prop := fnValidCutsRow.holds Try.pinned (OpenSpec.ofChange fnValidCutsWrong)

/-- 'laws.FnRollsWith': WHATEVER THE INPUT: true; the input reads as it did. -/
def fnRollsWithSpec : ChangeSpec := { name := "fnRollsWith", fn := fun _ => fun
  | [d] => { results := [.lit (.bool true)], args := [d] }
  | _ => none }
def fnRollsWithRow : OpenClaim := { program := "ytnecmchcemnopaa", sum := "6375aaff239dfb0c75259c629ae9dea0166350d097ceb14824957ed46c28bef6", func := "loop.example/paperrolls/laws.FnRollsWith", spec := "fnRollsWith", apart := false }
def FnRollsWithSaid : Prop := fnRollsWithRow.holds Try.pinned (OpenSpec.ofChange fnRollsWithSpec)

/-- ITS FALSE NEIGHBOUR: 'it returns false'. Refute it at one input. -/
def fnRollsWithWrong : ChangeSpec := { name := "fnRollsWith", fn := fun _ => fun
  | [d] => { results := [.lit (.bool false)], args := [d] }
  | _ => none }
def FnRollsWithWrongFalsely : Prop := fnRollsWithRow.holds Try.pinned (OpenSpec.ofChange fnRollsWithWrong)

/-- 'laws.FnReelAt': WHATEVER THE INPUT: true; the input reads as it did. -/
def fnReelAtSpec : ChangeSpec := { name := "fnReelAt", fn := fun _ => fun
  | [d] => { results := [.lit (.bool true)], args := [d] }
  | _ => none }
def fnReelAtRow : OpenClaim := { program := "ytnecmchcemnopaa", sum := "6375aaff239dfb0c75259c629ae9dea0166350d097ceb14824957ed46c28bef6", func := "loop.example/paperrolls/laws.FnReelAt", spec := "fnReelAt", apart := false }
def FnReelAtSaid : Prop := fnReelAtRow.holds Try.pinned (OpenSpec.ofChange fnReelAtSpec)

/-- ITS FALSE NEIGHBOUR: 'it returns false'. Refute it at one input. -/
def fnReelAtWrong : ChangeSpec := { name := "fnReelAt", fn := fun _ => fun
  | [d] => { results := [.lit (.bool false)], args := [d] }
  | _ => none }
def FnReelAtWrongFalsely : Prop := fnReelAtRow.holds Try.pinned (OpenSpec.ofChange fnReelAtWrong)

/-- 'laws.FnAreaLeft': WHATEVER THE INPUT: true; the input reads as it did. -/
def fnAreaLeftSpec : ChangeSpec := { name := "fnAreaLeft", fn := fun _ => fun
  | [d] => { results := [.lit (.bool true)], args := [d] }
  | _ => none }
def fnAreaLeftRow : OpenClaim := { program := "ytnecmchcemnopaa", sum := "6375aaff239dfb0c75259c629ae9dea0166350d097ceb14824957ed46c28bef6", func := "loop.example/paperrolls/laws.FnAreaLeft", spec := "fnAreaLeft", apart := false }
def FnAreaLeftSaid : Prop := fnAreaLeftRow.holds Try.pinned (OpenSpec.ofChange fnAreaLeftSpec)

/-- ITS FALSE NEIGHBOUR: 'it returns false'. Refute it at one input. -/
def fnAreaLeftWrong : ChangeSpec := { name := "fnAreaLeft", fn := fun _ => fun
  | [d] => { results := [.lit (.bool false)], args := [d] }
  | _ => none }
def FnAreaLeftWrongFalsely : Prop := fnAreaLeftRow.holds Try.pinned (OpenSpec.ofChange fnAreaLeftWrong)

/-- 'laws.FnRollAtArea': WHATEVER THE INPUT: true; the input reads as it did. -/
def fnRollAtAreaSpec : ChangeSpec := { name := "fnRollAtArea", fn := fun _ => fun
  | [d] => { results := [.lit (.bool true)], args := [d] }
  | _ => none }
def fnRollAtAreaRow : OpenClaim := { program := "ytnecmchcemnopaa", sum := "6375aaff239dfb0c75259c629ae9dea0166350d097ceb14824957ed46c28bef6", func := "loop.example/paperrolls/laws.FnRollAtArea", spec := "fnRollAtArea", apart := false }
def FnRollAtAreaSaid : Prop := fnRollAtAreaRow.holds Try.pinned (OpenSpec.ofChange fnRollAtAreaSpec)

/-- ITS FALSE NEIGHBOUR: 'it returns false'. Refute it at one input. -/
def fnRollAtAreaWrong : ChangeSpec := { name := "fnRollAtArea", fn := fun _ => fun
  | [d] => { results := [.lit (.bool false)], args := [d] }
  | _ => none }
def FnRollAtAreaWrongFalsely : Prop := fnRollAtAreaRow.holds Try.pinned (OpenSpec.ofChange fnRollAtAreaWrong)

/-- 'laws.FnRollAt': WHATEVER THE INPUT: true; the input reads as it did. -/
def fnRollAtSpec : ChangeSpec := { name := "fnRollAt", fn := fun _ => fun
  | [d] => { results := [.lit (.bool true)], args := [d] }
  | _ => none }
def fnRollAtRow : OpenClaim := { program := "ytnecmchcemnopaa", sum := "6375aaff239dfb0c75259c629ae9dea0166350d097ceb14824957ed46c28bef6", func := "loop.example/paperrolls/laws.FnRollAt", spec := "fnRollAt", apart := false }
def FnRollAtSaid : Prop := fnRollAtRow.holds Try.pinned (OpenSpec.ofChange fnRollAtSpec)

/-- ITS FALSE NEIGHBOUR: 'it returns false'. Refute it at one input. -/
def fnRollAtWrong : ChangeSpec := { name := "fnRollAt", fn := fun _ => fun
  | [d] => { results := [.lit (.bool false)], args := [d] }
  | _ => none }
def FnRollAtWrongFalsely : Prop := fnRollAtRow.holds Try.pinned (OpenSpec.ofChange fnRollAtWrong)

/-- 'laws.FnExactValidCuts': WHATEVER THE INPUT: true; the input reads as it did. -/
def fnExactValidCutsSpec : ChangeSpec := { name := "fnExactValidCuts", fn := fun _ => fun
  | [d1, d2] => { results := [.lit (.bool true)], args := [d1, d2] }
  | _ => none }
def fnExactValidCutsRow : OpenClaim := { program := "ytnecmchcemnopaa", sum := "6375aaff239dfb0c75259c629ae9dea0166350d097ceb14824957ed46c28bef6", func := "loop.example/paperrolls/laws.FnExactValidCuts", spec := "fnExactValidCuts", apart := false }
def FnExactValidCutsSaid : Prop := fnExactValidCutsRow.holds Try.pinned (OpenSpec.ofChange fnExactValidCutsSpec)

/-- ITS FALSE NEIGHBOUR: 'it returns false'. Refute it at one input. -/
def fnExactValidCutsWrong : ChangeSpec := { name := "fnExactValidCuts", fn := fun _ => fun
  | [d1, d2] => { results := [.lit (.bool false)], args := [d1, d2] }
  | _ => none }
def FnExactValidCutsWrongFalsely : Prop := fnExactValidCutsRow.holds Try.pinned (OpenSpec.ofChange fnExactValidCutsWrong)

/-- 'laws.FnExactReelAt': WHATEVER THE INPUT: true; the input reads as it did. -/
def fnExactReelAtSpec : ChangeSpec := { name := "fnExactReelAt", fn := fun _ => fun
  | [d1, d2, d3, d4, d5] => { results := [.lit (.bool true)], args := [d1, d2, d3, d4, d5] }
  | _ => none }
def fnExactReelAtRow : OpenClaim := { program := "ytnecmchcemnopaa", sum := "6375aaff239dfb0c75259c629ae9dea0166350d097ceb14824957ed46c28bef6", func := "loop.example/paperrolls/laws.FnExactReelAt", spec := "fnExactReelAt", apart := false }
def FnExactReelAtSaid : Prop := fnExactReelAtRow.holds Try.pinned (OpenSpec.ofChange fnExactReelAtSpec)

/-- ITS FALSE NEIGHBOUR: 'it returns false'. Refute it at one input. -/
def fnExactReelAtWrong : ChangeSpec := { name := "fnExactReelAt", fn := fun _ => fun
  | [d1, d2, d3, d4, d5] => { results := [.lit (.bool false)], args := [d1, d2, d3, d4, d5] }
  | _ => none }
def FnExactReelAtWrongFalsely : Prop := fnExactReelAtRow.holds Try.pinned (OpenSpec.ofChange fnExactReelAtWrong)

/-- 'laws.FnExactRollAt': WHATEVER THE INPUT: true; the input reads as it did. -/
def fnExactRollAtSpec : ChangeSpec := { name := "fnExactRollAt", fn := fun _ => fun
  | [d1, d2, d3, d4] => { results := [.lit (.bool true)], args := [d1, d2, d3, d4] }
  | _ => none }
def fnExactRollAtRow : OpenClaim := { program := "ytnecmchcemnopaa", sum := "6375aaff239dfb0c75259c629ae9dea0166350d097ceb14824957ed46c28bef6", func := "loop.example/paperrolls/laws.FnExactRollAt", spec := "fnExactRollAt", apart := false }
def FnExactRollAtSaid : Prop := fnExactRollAtRow.holds Try.pinned (OpenSpec.ofChange fnExactRollAtSpec)

/-- ITS FALSE NEIGHBOUR: 'it returns false'. Refute it at one input. -/
def fnExactRollAtWrong : ChangeSpec := { name := "fnExactRollAt", fn := fun _ => fun
  | [d1, d2, d3, d4] => { results := [.lit (.bool false)], args := [d1, d2, d3, d4] }
  | _ => none }
def FnExactRollAtWrongFalsely : Prop := fnExactRollAtRow.holds Try.pinned (OpenSpec.ofChange fnExactRollAtWrong)

/-- 'laws.FnExactAreaLeft': WHATEVER THE INPUT: true; the input reads as it did. -/
def fnExactAreaLeftSpec : ChangeSpec := { name := "fnExactAreaLeft", fn := fun _ => fun
  | [d1, d2] => { results := [.lit (.bool true)], args := [d1, d2] }
  | _ => none }
def fnExactAreaLeftRow : OpenClaim := { program := "ytnecmchcemnopaa", sum := "6375aaff239dfb0c75259c629ae9dea0166350d097ceb14824957ed46c28bef6", func := "loop.example/paperrolls/laws.FnExactAreaLeft", spec := "fnExactAreaLeft", apart := false }
def FnExactAreaLeftSaid : Prop := fnExactAreaLeftRow.holds Try.pinned (OpenSpec.ofChange fnExactAreaLeftSpec)

/-- ITS FALSE NEIGHBOUR: 'it returns false'. Refute it at one input. -/
def fnExactAreaLeftWrong : ChangeSpec := { name := "fnExactAreaLeft", fn := fun _ => fun
  | [d1, d2] => { results := [.lit (.bool false)], args := [d1, d2] }
  | _ => none }
def FnExactAreaLeftWrongFalsely : Prop := fnExactAreaLeftRow.holds Try.pinned (OpenSpec.ofChange fnExactAreaLeftWrong)

/- THE SECOND FORM. 'bulk': how many values and letters a reading holds, each counted each time it is reached (what is shared counts as often as it is met; a slice's spare places count too). A statement '..UptoSaid' is the law's where the arguments, and the package variables that the reading takes, are together of bulk at most 1048576: NARROWER than '..Said'. Prove '..Said' where nothing that the law and all that it calls make is longer than what came in: it says more and counts as full. Else prove '..UptoSaid'. A law counts once. -/
mutual
def uptoBulk {H : Type} : DataW H → Nat
  | .lit (.string bytes) => bytes.length + 1
  | .lit _ => 1
  | .nil => 1
  | .ptr d => uptoBulk d + 1
  | .slice elems spare => uptoBulkAll elems + uptoBulkAll spare + 1
  | .agg parts => uptoBulkAll parts + 1
  | .iface _ d => uptoBulk d + 1
  | .map entries => uptoBulkEntries entries + 1
  | .held _ => 1
def uptoBulkAll {H : Type} : List (DataW H) → Nat
  | [] => 0
  | d :: r => uptoBulk d + uptoBulkAll r
def uptoBulkEntries {H : Type} : List (Lit × DataW H) → Nat
  | [] => 0
  | x :: r => uptoBulkEntry x + uptoBulkEntries r
def uptoBulkEntry {H : Type} : Lit × DataW H → Nat
  | (.string bytes, d) => bytes.length + uptoBulk d + 1
  | (_, d) => uptoBulk d + 1
 end
def uptoSmall : (H : Type) → List (DataW H) → Bool := fun _ ds => decide (uptoBulkAll ds ≤ 1048576)
def OpenSpec.upto (s : _root_.Go.ChangeSpec) : _root_.Go.OpenSpec := { _root_.Go.OpenSpec.ofChange s with cond := some uptoSmall }

/-- 'laws.FnValidCuts', WHERE WHAT IT READS IS OF BULK AT MOST 1048576: true; the input reads as it did. -/
def fnValidCutsUptoRow : OpenClaim := { program := "ytnecmchcemnopaa", sum := "6375aaff239dfb0c75259c629ae9dea0166350d097ceb14824957ed46c28bef6", func := "loop.example/paperrolls/laws.FnValidCuts", spec := "fnValidCuts", apart := false, narrowed := true }
def FnValidCutsUptoSaid : Prop := fnValidCutsUptoRow.holds Try.pinned (OpenSpec.upto fnValidCutsSpec)

/-- 'laws.FnRollsWith', WHERE WHAT IT READS IS OF BULK AT MOST 1048576: true; the input reads as it did. -/
def fnRollsWithUptoRow : OpenClaim := { program := "ytnecmchcemnopaa", sum := "6375aaff239dfb0c75259c629ae9dea0166350d097ceb14824957ed46c28bef6", func := "loop.example/paperrolls/laws.FnRollsWith", spec := "fnRollsWith", apart := false, narrowed := true }
def FnRollsWithUptoSaid : Prop := fnRollsWithUptoRow.holds Try.pinned (OpenSpec.upto fnRollsWithSpec)

/-- 'laws.FnReelAt', WHERE WHAT IT READS IS OF BULK AT MOST 1048576: true; the input reads as it did. -/
def fnReelAtUptoRow : OpenClaim := { program := "ytnecmchcemnopaa", sum := "6375aaff239dfb0c75259c629ae9dea0166350d097ceb14824957ed46c28bef6", func := "loop.example/paperrolls/laws.FnReelAt", spec := "fnReelAt", apart := false, narrowed := true }
def FnReelAtUptoSaid : Prop := fnReelAtUptoRow.holds Try.pinned (OpenSpec.upto fnReelAtSpec)

/-- 'laws.FnAreaLeft', WHERE WHAT IT READS IS OF BULK AT MOST 1048576: true; the input reads as it did. -/
def fnAreaLeftUptoRow : OpenClaim := { program := "ytnecmchcemnopaa", sum := "6375aaff239dfb0c75259c629ae9dea0166350d097ceb14824957ed46c28bef6", func := "loop.example/paperrolls/laws.FnAreaLeft", spec := "fnAreaLeft", apart := false, narrowed := true }
def FnAreaLeftUptoSaid : Prop := fnAreaLeftUptoRow.holds Try.pinned (OpenSpec.upto fnAreaLeftSpec)

/-- 'laws.FnRollAtArea', WHERE WHAT IT READS IS OF BULK AT MOST 1048576: true; the input reads as it did. -/
def fnRollAtAreaUptoRow : OpenClaim := { program := "ytnecmchcemnopaa", sum := "6375aaff239dfb0c75259c629ae9dea0166350d097ceb14824957ed46c28bef6", func := "loop.example/paperrolls/laws.FnRollAtArea", spec := "fnRollAtArea", apart := false, narrowed := true }
def FnRollAtAreaUptoSaid : Prop := fnRollAtAreaUptoRow.holds Try.pinned (OpenSpec.upto fnRollAtAreaSpec)

/-- 'laws.FnRollAt', WHERE WHAT IT READS IS OF BULK AT MOST 1048576: true; the input reads as it did. -/
def fnRollAtUptoRow : OpenClaim := { program := "ytnecmchcemnopaa", sum := "6375aaff239dfb0c75259c629ae9dea0166350d097ceb14824957ed46c28bef6", func := "loop.example/paperrolls/laws.FnRollAt", spec := "fnRollAt", apart := false, narrowed := true }
def FnRollAtUptoSaid : Prop := fnRollAtUptoRow.holds Try.pinned (OpenSpec.upto fnRollAtSpec)

/-- 'laws.FnExactValidCuts', WHERE WHAT IT READS IS OF BULK AT MOST 1048576: true; the input reads as it did. -/
def fnExactValidCutsUptoRow : OpenClaim := { program := "ytnecmchcemnopaa", sum := "6375aaff239dfb0c75259c629ae9dea0166350d097ceb14824957ed46c28bef6", func := "loop.example/paperrolls/laws.FnExactValidCuts", spec := "fnExactValidCuts", apart := false, narrowed := true }
def FnExactValidCutsUptoSaid : Prop := fnExactValidCutsUptoRow.holds Try.pinned (OpenSpec.upto fnExactValidCutsSpec)

/-- 'laws.FnExactReelAt', WHERE WHAT IT READS IS OF BULK AT MOST 1048576: true; the input reads as it did. -/
def fnExactReelAtUptoRow : OpenClaim := { program := "ytnecmchcemnopaa", sum := "6375aaff239dfb0c75259c629ae9dea0166350d097ceb14824957ed46c28bef6", func := "loop.example/paperrolls/laws.FnExactReelAt", spec := "fnExactReelAt", apart := false, narrowed := true }
def FnExactReelAtUptoSaid : Prop := fnExactReelAtUptoRow.holds Try.pinned (OpenSpec.upto fnExactReelAtSpec)

/-- 'laws.FnExactRollAt', WHERE WHAT IT READS IS OF BULK AT MOST 1048576: true; the input reads as it did. -/
def fnExactRollAtUptoRow : OpenClaim := { program := "ytnecmchcemnopaa", sum := "6375aaff239dfb0c75259c629ae9dea0166350d097ceb14824957ed46c28bef6", func := "loop.example/paperrolls/laws.FnExactRollAt", spec := "fnExactRollAt", apart := false, narrowed := true }
def FnExactRollAtUptoSaid : Prop := fnExactRollAtUptoRow.holds Try.pinned (OpenSpec.upto fnExactRollAtSpec)

/-- 'laws.FnExactAreaLeft', WHERE WHAT IT READS IS OF BULK AT MOST 1048576: true; the input reads as it did. -/
def fnExactAreaLeftUptoRow : OpenClaim := { program := "ytnecmchcemnopaa", sum := "6375aaff239dfb0c75259c629ae9dea0166350d097ceb14824957ed46c28bef6", func := "loop.example/paperrolls/laws.FnExactAreaLeft", spec := "fnExactAreaLeft", apart := false, narrowed := true }
def FnExactAreaLeftUptoSaid : Prop := fnExactAreaLeftUptoRow.holds Try.pinned (OpenSpec.upto fnExactAreaLeftSpec)

end Rows
end Go.Proofs.Ytnecmchcemnopaa
