/-
  No cell of these rows narrows 'for every input' (looked for: loops, veiled, ifaces, maps, wideKeys, modest, calm, conditions, laid).
  DERIVED. THE GIVEN ROWS OF THIS SEAT. 8 by the template 'for every input the law returns true; each argument reads behind the call as it read before'; 0 by the template 'total and deterministic' (their statements: YtehmphhdmpnlfaaTotals.lean).
  GIVEN WITH THE SEED: the statements are not yours to turn. If you find one false, say at which input.
  Laid BY PROGRAM, IN A SANDBOX (cutbox-rows.mjs): the forced cells as the released guide's own fill.sh prints them over the translation 80d5191c9f6ad14c… (all of the seat's roots in one cut). By AI agents, Wed Nov 11 2026. No macro, syntax, notation, axiom, sorry.
-/
import Derived.Test.YtehmphhdmpnlfaaChecked
import GoSem.Claim
import GoSem.ClaimJoined
import GoSem.ClaimMapViews
import Derived.JoinedTies
import Derived.KernelRfl
namespace Go.Proofs.Ytehmphhdmpnlfaa
/- THE CELL 'sum', in the pinned program and in every row, IS THE sha256 OF THE DUMP (.gsa) THAT YtehmphhdmpnlfaaProg.lean LOADS. Nothing in Lean hashes anything: it is a label: what it is worth is what the hold of that sum in a sandbox is worth. -/
noncomputable def Try.pinned : Pinned := { name := "ytehmphhdmpnlfaa", sum := "80d5191c9f6ad14c648339594c2182ab1d52a8bd10821282f97a0298d28dec29", checked := Try.checked }
namespace Rows
def none {H : Type} : Left H := { results := [], args := [] }

/-- 'laws.FnExactWorstOf': WHATEVER THE INPUT: true; the input reads as it did. -/
def fnExactWorstOfSpec : ChangeSpec := { name := "fnExactWorstOf", fn := fun _ => fun
  | [d1, d2] => { results := [.lit (.bool true)], args := [d1, d2] }
  | _ => none }
def fnExactWorstOfRow : OpenClaim := { program := "ytehmphhdmpnlfaa", sum := "80d5191c9f6ad14c648339594c2182ab1d52a8bd10821282f97a0298d28dec29", func := "loop.example/paperrolls/laws.FnExactWorstOf", spec := "fnExactWorstOf", apart := false }
def FnExactWorstOfSaid : Prop := fnExactWorstOfRow.holds Try.pinned (OpenSpec.ofChange fnExactWorstOfSpec)

/-- ITS FALSE NEIGHBOUR: 'it returns false'. Refute it at one input. -/
def fnExactWorstOfWrong : ChangeSpec := { name := "fnExactWorstOf", fn := fun _ => fun
  | [d1, d2] => { results := [.lit (.bool false)], args := [d1, d2] }
  | _ => none }
def FnExactWorstOfWrongFalsely : Prop := fnExactWorstOfRow.holds Try.pinned (OpenSpec.ofChange fnExactWorstOfWrong)

/-- 'laws.FnCutReel': WHATEVER THE INPUT: true; the input reads as it did. -/
def fnCutReelSpec : ChangeSpec := { name := "fnCutReel", fn := fun _ => fun
  | [d] => { results := [.lit (.bool true)], args := [d] }
  | _ => none }
def fnCutReelRow : OpenClaim := { program := "ytehmphhdmpnlfaa", sum := "80d5191c9f6ad14c648339594c2182ab1d52a8bd10821282f97a0298d28dec29", func := "loop.example/paperrolls/laws.FnCutReel", spec := "fnCutReel", apart := false }
def FnCutReelSaid : Prop := fnCutReelRow.holds Try.pinned (OpenSpec.ofChange fnCutReelSpec)

/-- ITS FALSE NEIGHBOUR: 'it returns false'. Refute it at one input. -/
def fnCutReelWrong : ChangeSpec := { name := "fnCutReel", fn := fun _ => fun
  | [d] => { results := [.lit (.bool false)], args := [d] }
  | _ => none }
def FnCutReelWrongFalsely : Prop := fnCutReelRow.holds Try.pinned (OpenSpec.ofChange fnCutReelWrong)

/-- 'laws.FnTurnReel': WHATEVER THE INPUT: true; the input reads as it did. -/
def fnTurnReelSpec : ChangeSpec := { name := "fnTurnReel", fn := fun _ => fun
  | [d] => { results := [.lit (.bool true)], args := [d] }
  | _ => none }
def fnTurnReelRow : OpenClaim := { program := "ytehmphhdmpnlfaa", sum := "80d5191c9f6ad14c648339594c2182ab1d52a8bd10821282f97a0298d28dec29", func := "loop.example/paperrolls/laws.FnTurnReel", spec := "fnTurnReel", apart := false }
def FnTurnReelSaid : Prop := fnTurnReelRow.holds Try.pinned (OpenSpec.ofChange fnTurnReelSpec)

/-- ITS FALSE NEIGHBOUR: 'it returns false'. Refute it at one input. -/
def fnTurnReelWrong : ChangeSpec := { name := "fnTurnReel", fn := fun _ => fun
  | [d] => { results := [.lit (.bool false)], args := [d] }
  | _ => none }
def FnTurnReelWrongFalsely : Prop := fnTurnReelRow.holds Try.pinned (OpenSpec.ofChange fnTurnReelWrong)

/-- 'laws.FnJoinReelsTurned': WHATEVER THE INPUT: true; the input reads as it did. -/
def fnJoinReelsTurnedSpec : ChangeSpec := { name := "fnJoinReelsTurned", fn := fun _ => fun
  | [d] => { results := [.lit (.bool true)], args := [d] }
  | _ => none }
def fnJoinReelsTurnedRow : OpenClaim := { program := "ytehmphhdmpnlfaa", sum := "80d5191c9f6ad14c648339594c2182ab1d52a8bd10821282f97a0298d28dec29", func := "loop.example/paperrolls/laws.FnJoinReelsTurned", spec := "fnJoinReelsTurned", apart := false }
def FnJoinReelsTurnedSaid : Prop := fnJoinReelsTurnedRow.holds Try.pinned (OpenSpec.ofChange fnJoinReelsTurnedSpec)

/-- ITS FALSE NEIGHBOUR: 'it returns false'. Refute it at one input. -/
def fnJoinReelsTurnedWrong : ChangeSpec := { name := "fnJoinReelsTurned", fn := fun _ => fun
  | [d] => { results := [.lit (.bool false)], args := [d] }
  | _ => none }
def FnJoinReelsTurnedWrongFalsely : Prop := fnJoinReelsTurnedRow.holds Try.pinned (OpenSpec.ofChange fnJoinReelsTurnedWrong)

/-- 'laws.FnExactTurnReel': WHATEVER THE INPUT: true; the input reads as it did. -/
def fnExactTurnReelSpec : ChangeSpec := { name := "fnExactTurnReel", fn := fun _ => fun
  | [d] => { results := [.lit (.bool true)], args := [d] }
  | _ => none }
def fnExactTurnReelRow : OpenClaim := { program := "ytehmphhdmpnlfaa", sum := "80d5191c9f6ad14c648339594c2182ab1d52a8bd10821282f97a0298d28dec29", func := "loop.example/paperrolls/laws.FnExactTurnReel", spec := "fnExactTurnReel", apart := false }
def FnExactTurnReelSaid : Prop := fnExactTurnReelRow.holds Try.pinned (OpenSpec.ofChange fnExactTurnReelSpec)

/-- ITS FALSE NEIGHBOUR: 'it returns false'. Refute it at one input. -/
def fnExactTurnReelWrong : ChangeSpec := { name := "fnExactTurnReel", fn := fun _ => fun
  | [d] => { results := [.lit (.bool false)], args := [d] }
  | _ => none }
def FnExactTurnReelWrongFalsely : Prop := fnExactTurnReelRow.holds Try.pinned (OpenSpec.ofChange fnExactTurnReelWrong)

/-- 'laws.FnJoinReels': WHATEVER THE INPUT: true; the input reads as it did. -/
def fnJoinReelsSpec : ChangeSpec := { name := "fnJoinReels", fn := fun _ => fun
  | [d] => { results := [.lit (.bool true)], args := [d] }
  | _ => none }
def fnJoinReelsRow : OpenClaim := { program := "ytehmphhdmpnlfaa", sum := "80d5191c9f6ad14c648339594c2182ab1d52a8bd10821282f97a0298d28dec29", func := "loop.example/paperrolls/laws.FnJoinReels", spec := "fnJoinReels", apart := false }
def FnJoinReelsSaid : Prop := fnJoinReelsRow.holds Try.pinned (OpenSpec.ofChange fnJoinReelsSpec)

/-- ITS FALSE NEIGHBOUR: 'it returns false'. Refute it at one input. -/
def fnJoinReelsWrong : ChangeSpec := { name := "fnJoinReels", fn := fun _ => fun
  | [d] => { results := [.lit (.bool false)], args := [d] }
  | _ => none }
def FnJoinReelsWrongFalsely : Prop := fnJoinReelsRow.holds Try.pinned (OpenSpec.ofChange fnJoinReelsWrong)

/-- 'laws.FnExactJoinReels': WHATEVER THE INPUT: true; the input reads as it did. -/
def fnExactJoinReelsSpec : ChangeSpec := { name := "fnExactJoinReels", fn := fun _ => fun
  | [d1, d2] => { results := [.lit (.bool true)], args := [d1, d2] }
  | _ => none }
def fnExactJoinReelsRow : OpenClaim := { program := "ytehmphhdmpnlfaa", sum := "80d5191c9f6ad14c648339594c2182ab1d52a8bd10821282f97a0298d28dec29", func := "loop.example/paperrolls/laws.FnExactJoinReels", spec := "fnExactJoinReels", apart := false }
def FnExactJoinReelsSaid : Prop := fnExactJoinReelsRow.holds Try.pinned (OpenSpec.ofChange fnExactJoinReelsSpec)

/-- ITS FALSE NEIGHBOUR: 'it returns false'. Refute it at one input. -/
def fnExactJoinReelsWrong : ChangeSpec := { name := "fnExactJoinReels", fn := fun _ => fun
  | [d1, d2] => { results := [.lit (.bool false)], args := [d1, d2] }
  | _ => none }
def FnExactJoinReelsWrongFalsely : Prop := fnExactJoinReelsRow.holds Try.pinned (OpenSpec.ofChange fnExactJoinReelsWrong)

/-- 'laws.FnExactCutReel': WHATEVER THE INPUT: true; the input reads as it did. -/
def fnExactCutReelSpec : ChangeSpec := { name := "fnExactCutReel", fn := fun _ => fun
  | [d1, d2] => { results := [.lit (.bool true)], args := [d1, d2] }
  | _ => none }
def fnExactCutReelRow : OpenClaim := { program := "ytehmphhdmpnlfaa", sum := "80d5191c9f6ad14c648339594c2182ab1d52a8bd10821282f97a0298d28dec29", func := "loop.example/paperrolls/laws.FnExactCutReel", spec := "fnExactCutReel", apart := false }
def FnExactCutReelSaid : Prop := fnExactCutReelRow.holds Try.pinned (OpenSpec.ofChange fnExactCutReelSpec)

/-- ITS FALSE NEIGHBOUR: 'it returns false'. Refute it at one input. -/
def fnExactCutReelWrong : ChangeSpec := { name := "fnExactCutReel", fn := fun _ => fun
  | [d1, d2] => { results := [.lit (.bool false)], args := [d1, d2] }
  | _ => none }
def FnExactCutReelWrongFalsely : Prop := fnExactCutReelRow.holds Try.pinned (OpenSpec.ofChange fnExactCutReelWrong)

/- THE SECOND FORM. 'bulk': how many values and letters a reading holds, each counted each time it is reached (what is shared counts as often as it is met; a slice's spare places count too). A statement '..UptoSaid' is the law's where the arguments, and the package variables that the reading takes, are together of bulk at most 1048576: NARROWER than '..Said'. Prove '..Said' where nothing that the law and all that it calls make is longer than what came in: it says more and counts as full. Else prove '..UptoSaid'. A law counts once. -/
mutual
def uptoBulk {H : Type} : DataW H → Nat
  | .lit (.string bytes) => bytes.length + 1
  | .lit _ => 1
  | .nil => 1
  | .ptr d => uptoBulk d + 1
  | .slice elems spare => uptoBulkAll elems + uptoBulkAll spare + 1
  | .agg parts => uptoBulkAll parts + 1
  | .iface _ d => uptoBulk d + 1
  | .map entries => uptoBulkEntries entries + 1
  | .held _ => 1
def uptoBulkAll {H : Type} : List (DataW H) → Nat
  | [] => 0
  | d :: r => uptoBulk d + uptoBulkAll r
def uptoBulkEntries {H : Type} : List (Lit × DataW H) → Nat
  | [] => 0
  | x :: r => uptoBulkEntry x + uptoBulkEntries r
def uptoBulkEntry {H : Type} : Lit × DataW H → Nat
  | (.string bytes, d) => bytes.length + uptoBulk d + 1
  | (_, d) => uptoBulk d + 1
 end
def uptoSmall : (H : Type) → List (DataW H) → Bool := fun _ ds => decide (uptoBulkAll ds ≤ 1048576)
def OpenSpec.upto (s : _root_.Go.ChangeSpec) : _root_.Go.OpenSpec := { _root_.Go.OpenSpec.ofChange s with cond := some uptoSmall }

/-- 'laws.FnExactWorstOf', WHERE WHAT IT READS IS OF BULK AT MOST 1048576: true; the input reads as it did. -/
def fnExactWorstOfUptoRow : OpenClaim := { program := "ytehmphhdmpnlfaa", sum := "80d5191c9f6ad14c648339594c2182ab1d52a8bd10821282f97a0298d28dec29", func := "loop.example/paperrolls/laws.FnExactWorstOf", spec := "fnExactWorstOf", apart := false, narrowed := true }
def FnExactWorstOfUptoSaid : Prop := fnExactWorstOfUptoRow.holds Try.pinned (OpenSpec.upto fnExactWorstOfSpec)

/-- 'laws.FnCutReel', WHERE WHAT IT READS IS OF BULK AT MOST 1048576: true; the input reads as it did. -/
def fnCutReelUptoRow : OpenClaim := { program := "ytehmphhdmpnlfaa", sum := "80d5191c9f6ad14c648339594c2182ab1d52a8bd10821282f97a0298d28dec29", func := "loop.example/paperrolls/laws.FnCutReel", spec := "fnCutReel", apart := false, narrowed := true }
def FnCutReelUptoSaid : Prop := fnCutReelUptoRow.holds Try.pinned (OpenSpec.upto fnCutReelSpec)

/-- 'laws.FnTurnReel', WHERE WHAT IT READS IS OF BULK AT MOST 1048576: true; the input reads as it did. -/
def fnTurnReelUptoRow : OpenClaim := { program := "ytehmphhdmpnlfaa", sum := "80d5191c9f6ad14c648339594c2182ab1d52a8bd10821282f97a0298d28dec29", func := "loop.example/paperrolls/laws.FnTurnReel", spec := "fnTurnReel", apart := false, narrowed := true }
def FnTurnReelUptoSaid : Prop := fnTurnReelUptoRow.holds Try.pinned (OpenSpec.upto fnTurnReelSpec)

/-- 'laws.FnJoinReelsTurned', WHERE WHAT IT READS IS OF BULK AT MOST 1048576: true; the input reads as it did. -/
def fnJoinReelsTurnedUptoRow : OpenClaim := { program := "ytehmphhdmpnlfaa", sum := "80d5191c9f6ad14c648339594c2182ab1d52a8bd10821282f97a0298d28dec29", func := "loop.example/paperrolls/laws.FnJoinReelsTurned", spec := "fnJoinReelsTurned", apart := false, narrowed := true }
def FnJoinReelsTurnedUptoSaid : Prop := fnJoinReelsTurnedUptoRow.holds Try.pinned (OpenSpec.upto fnJoinReelsTurnedSpec)

/-- 'laws.FnExactTurnReel', WHERE WHAT IT READS IS OF BULK AT MOST 1048576: true; the input reads as it did. -/
def fnExactTurnReelUptoRow : OpenClaim := { program := "ytehmphhdmpnlfaa", sum := "80d5191c9f6ad14c648339594c2182ab1d52a8bd10821282f97a0298d28dec29", func := "loop.example/paperrolls/laws.FnExactTurnReel", spec := "fnExactTurnReel", apart := false, narrowed := true }
def FnExactTurnReelUptoSaid : Prop := fnExactTurnReelUptoRow.holds Try.pinned (OpenSpec.upto fnExactTurnReelSpec)

/-- 'laws.FnJoinReels', WHERE WHAT IT READS IS OF BULK AT MOST 1048576: true; the input reads as it did. -/
def fnJoinReelsUptoRow : OpenClaim := { program := "ytehmphhdmpnlfaa", sum := "80d5191c9f6ad14c648339594c2182ab1d52a8bd10821282f97a0298d28dec29", func := "loop.example/paperrolls/laws.FnJoinReels", spec := "fnJoinReels", apart := false, narrowed := true }
def FnJoinReelsUptoSaid : Prop := fnJoinReelsUptoRow.holds Try.pinned (OpenSpec.upto fnJoinReelsSpec)

/-- 'laws.FnExactJoinReels', WHERE WHAT IT READS IS OF BULK AT MOST 1048576: true; the input reads as it did. -/
def fnExactJoinReelsUptoRow : OpenClaim := { program := "ytehmphhdmpnlfaa", sum := "80d5191c9f6ad14c648339594c2182ab1d52a8bd10821282f97a0298d28dec29", func := "loop.example/paperrolls/laws.FnExactJoinReels", spec := "fnExactJoinReels", apart := false, narrowed := true }
def FnExactJoinReelsUptoSaid : Prop := fnExactJoinReelsUptoRow.holds Try.pinned (OpenSpec.upto fnExactJoinReelsSpec)

/-- 'laws.FnExactCutReel', WHERE WHAT IT READS IS OF BULK AT MOST 1048576: true; the input reads as it did. -/
def fnExactCutReelUptoRow : OpenClaim := { program := "ytehmphhdmpnlfaa", sum := "80d5191c9f6ad14c648339594c2182ab1d52a8bd10821282f97a0298d28dec29", func := "loop.example/paperrolls/laws.FnExactCutReel", spec := "fnExactCutReel", apart := false, narrowed := true }
def FnExactCutReelUptoSaid : Prop := fnExactCutReelUptoRow.holds Try.pinned (OpenSpec.upto fnExactCutReelSpec)

end Rows
end Go.Proofs.Ytehmphhdmpnlfaa
