/-
  No cell of these rows narrows 'for every input' (looked for: loops, veiled, ifaces, maps, wideKeys, modest, calm, conditions, laid).
  DERIVED. THE GIVEN ROWS OF THIS SEAT. 7 by the template 'for every input the law returns true; each argument reads behind the call as it read before'; 0 by the template 'total and deterministic' (their statements: YtmlopjkjnpkgcaaTotals.lean).
  GIVEN WITH THE SEED: the statements are not yours to turn. If you find one false, say at which input.
  Laid BY PROGRAM, IN A SANDBOX (cutbox-rows.mjs): the forced cells as the released guide's own fill.sh prints them over the translation 38f629e48078a7da… (all of the seat's roots in one cut). By AI agents, Wed Nov 11 2026. No macro, syntax, notation, axiom, sorry.
-/
import Derived.Test.YtmlopjkjnpkgcaaChecked
import GoSem.Claim
import GoSem.ClaimJoined
import GoSem.ClaimMapViews
import Derived.JoinedTies
import Derived.KernelRfl
namespace Go.Proofs.Ytmlopjkjnpkgcaa
/- THE CELL 'sum', in the pinned program and in every row, IS THE sha256 OF THE DUMP (.gsa) THAT YtmlopjkjnpkgcaaProg.lean LOADS. Nothing in Lean hashes anything: it is a label: what it is worth is what the hold of that sum in a sandbox is worth. -/
noncomputable def Try.pinned : Pinned := { name := "ytmlopjkjnpkgcaa", sum := "38f629e48078a7dad2d6aeb38479cbbb9bccd01e36139d3073339d1587981fb7", checked := Try.checked }
namespace Rows
def none {H : Type} : Left H := { results := [], args := [] }

/-- 'laws.FnExactSplicesOf': WHATEVER THE INPUT: true; the input reads as it did. -/
def fnExactSplicesOfSpec : ChangeSpec := { name := "fnExactSplicesOf", fn := fun _ => fun
  | [d1, d2, d3] => { results := [.lit (.bool true)], args := [d1, d2, d3] }
  | _ => none }
def fnExactSplicesOfRow : OpenClaim := { program := "ytmlopjkjnpkgcaa", sum := "38f629e48078a7dad2d6aeb38479cbbb9bccd01e36139d3073339d1587981fb7", func := "loop.example/paperrolls/laws.FnExactSplicesOf", spec := "fnExactSplicesOf", apart := false }
def FnExactSplicesOfSaid : Prop := fnExactSplicesOfRow.holds Try.pinned (OpenSpec.ofChange fnExactSplicesOfSpec)

/-- ITS FALSE NEIGHBOUR: 'it returns false'. Refute it at one input. -/
def fnExactSplicesOfWrong : ChangeSpec := { name := "fnExactSplicesOf", fn := fun _ => fun
  | [d1, d2, d3] => { results := [.lit (.bool false)], args := [d1, d2, d3] }
  | _ => none }
def FnExactSplicesOfWrongFalsely : Prop := fnExactSplicesOfRow.holds Try.pinned (OpenSpec.ofChange fnExactSplicesOfWrong)

/-- 'laws.FnLeftOverAgain': WHATEVER THE INPUT: true; the input reads as it did. -/
def fnLeftOverAgainSpec : ChangeSpec := { name := "fnLeftOverAgain", fn := fun _ => fun
  | [d] => { results := [.lit (.bool true)], args := [d] }
  | _ => none }
def fnLeftOverAgainRow : OpenClaim := { program := "ytmlopjkjnpkgcaa", sum := "38f629e48078a7dad2d6aeb38479cbbb9bccd01e36139d3073339d1587981fb7", func := "loop.example/paperrolls/laws.FnLeftOverAgain", spec := "fnLeftOverAgain", apart := false }
def FnLeftOverAgainSaid : Prop := fnLeftOverAgainRow.holds Try.pinned (OpenSpec.ofChange fnLeftOverAgainSpec)

/-- ITS FALSE NEIGHBOUR: 'it returns false'. Refute it at one input. -/
def fnLeftOverAgainWrong : ChangeSpec := { name := "fnLeftOverAgain", fn := fun _ => fun
  | [d] => { results := [.lit (.bool false)], args := [d] }
  | _ => none }
def FnLeftOverAgainWrongFalsely : Prop := fnLeftOverAgainRow.holds Try.pinned (OpenSpec.ofChange fnLeftOverAgainWrong)

/-- 'laws.FnPiecesOf': WHATEVER THE INPUT: true; the input reads as it did. -/
def fnPiecesOfSpec : ChangeSpec := { name := "fnPiecesOf", fn := fun _ => fun
  | [d] => { results := [.lit (.bool true)], args := [d] }
  | _ => none }
def fnPiecesOfRow : OpenClaim := { program := "ytmlopjkjnpkgcaa", sum := "38f629e48078a7dad2d6aeb38479cbbb9bccd01e36139d3073339d1587981fb7", func := "loop.example/paperrolls/laws.FnPiecesOf", spec := "fnPiecesOf", apart := false }
def FnPiecesOfSaid : Prop := fnPiecesOfRow.holds Try.pinned (OpenSpec.ofChange fnPiecesOfSpec)

/-- ITS FALSE NEIGHBOUR: 'it returns false'. Refute it at one input. -/
def fnPiecesOfWrong : ChangeSpec := { name := "fnPiecesOf", fn := fun _ => fun
  | [d] => { results := [.lit (.bool false)], args := [d] }
  | _ => none }
def FnPiecesOfWrongFalsely : Prop := fnPiecesOfRow.holds Try.pinned (OpenSpec.ofChange fnPiecesOfWrong)

/-- 'laws.FnPiecesOfPlaces': WHATEVER THE INPUT: true; the input reads as it did. -/
def fnPiecesOfPlacesSpec : ChangeSpec := { name := "fnPiecesOfPlaces", fn := fun _ => fun
  | [d] => { results := [.lit (.bool true)], args := [d] }
  | _ => none }
def fnPiecesOfPlacesRow : OpenClaim := { program := "ytmlopjkjnpkgcaa", sum := "38f629e48078a7dad2d6aeb38479cbbb9bccd01e36139d3073339d1587981fb7", func := "loop.example/paperrolls/laws.FnPiecesOfPlaces", spec := "fnPiecesOfPlaces", apart := false }
def FnPiecesOfPlacesSaid : Prop := fnPiecesOfPlacesRow.holds Try.pinned (OpenSpec.ofChange fnPiecesOfPlacesSpec)

/-- ITS FALSE NEIGHBOUR: 'it returns false'. Refute it at one input. -/
def fnPiecesOfPlacesWrong : ChangeSpec := { name := "fnPiecesOfPlaces", fn := fun _ => fun
  | [d] => { results := [.lit (.bool false)], args := [d] }
  | _ => none }
def FnPiecesOfPlacesWrongFalsely : Prop := fnPiecesOfPlacesRow.holds Try.pinned (OpenSpec.ofChange fnPiecesOfPlacesWrong)

/-- 'laws.FnExactPiecesOf': WHATEVER THE INPUT: true; the input reads as it did. -/
def fnExactPiecesOfSpec : ChangeSpec := { name := "fnExactPiecesOf", fn := fun _ => fun
  | [d1, d2, d3] => { results := [.lit (.bool true)], args := [d1, d2, d3] }
  | _ => none }
def fnExactPiecesOfRow : OpenClaim := { program := "ytmlopjkjnpkgcaa", sum := "38f629e48078a7dad2d6aeb38479cbbb9bccd01e36139d3073339d1587981fb7", func := "loop.example/paperrolls/laws.FnExactPiecesOf", spec := "fnExactPiecesOf", apart := false }
def FnExactPiecesOfSaid : Prop := fnExactPiecesOfRow.holds Try.pinned (OpenSpec.ofChange fnExactPiecesOfSpec)

/-- ITS FALSE NEIGHBOUR: 'it returns false'. Refute it at one input. -/
def fnExactPiecesOfWrong : ChangeSpec := { name := "fnExactPiecesOf", fn := fun _ => fun
  | [d1, d2, d3] => { results := [.lit (.bool false)], args := [d1, d2, d3] }
  | _ => none }
def FnExactPiecesOfWrongFalsely : Prop := fnExactPiecesOfRow.holds Try.pinned (OpenSpec.ofChange fnExactPiecesOfWrong)

/-- 'laws.FnSplicesOf': WHATEVER THE INPUT: true; the input reads as it did. -/
def fnSplicesOfSpec : ChangeSpec := { name := "fnSplicesOf", fn := fun _ => fun
  | [d] => { results := [.lit (.bool true)], args := [d] }
  | _ => none }
def fnSplicesOfRow : OpenClaim := { program := "ytmlopjkjnpkgcaa", sum := "38f629e48078a7dad2d6aeb38479cbbb9bccd01e36139d3073339d1587981fb7", func := "loop.example/paperrolls/laws.FnSplicesOf", spec := "fnSplicesOf", apart := false }
def FnSplicesOfSaid : Prop := fnSplicesOfRow.holds Try.pinned (OpenSpec.ofChange fnSplicesOfSpec)

/-- ITS FALSE NEIGHBOUR: 'it returns false'. Refute it at one input. -/
def fnSplicesOfWrong : ChangeSpec := { name := "fnSplicesOf", fn := fun _ => fun
  | [d] => { results := [.lit (.bool false)], args := [d] }
  | _ => none }
def FnSplicesOfWrongFalsely : Prop := fnSplicesOfRow.holds Try.pinned (OpenSpec.ofChange fnSplicesOfWrong)

/-- 'laws.FnBestSkip': WHATEVER THE INPUT: true; the input reads as it did. -/
def fnBestSkipSpec : ChangeSpec := { name := "fnBestSkip", fn := fun _ => fun
  | [d] => { results := [.lit (.bool true)], args := [d] }
  | _ => none }
def fnBestSkipRow : OpenClaim := { program := "ytmlopjkjnpkgcaa", sum := "38f629e48078a7dad2d6aeb38479cbbb9bccd01e36139d3073339d1587981fb7", func := "loop.example/paperrolls/laws.FnBestSkip", spec := "fnBestSkip", apart := false }
def FnBestSkipSaid : Prop := fnBestSkipRow.holds Try.pinned (OpenSpec.ofChange fnBestSkipSpec)

/-- ITS FALSE NEIGHBOUR: 'it returns false'. Refute it at one input. -/
def fnBestSkipWrong : ChangeSpec := { name := "fnBestSkip", fn := fun _ => fun
  | [d] => { results := [.lit (.bool false)], args := [d] }
  | _ => none }
def FnBestSkipWrongFalsely : Prop := fnBestSkipRow.holds Try.pinned (OpenSpec.ofChange fnBestSkipWrong)

/- THE SECOND FORM. 'bulk': how many values and letters a reading holds, each counted each time it is reached (what is shared counts as often as it is met; a slice's spare places count too). A statement '..UptoSaid' is the law's where the arguments, and the package variables that the reading takes, are together of bulk at most 1048576: NARROWER than '..Said'. Prove '..Said' where nothing that the law and all that it calls make is longer than what came in: it says more and counts as full. Else prove '..UptoSaid'. A law counts once. -/
mutual
def uptoBulk {H : Type} : DataW H → Nat
  | .lit (.string bytes) => bytes.length + 1
  | .lit _ => 1
  | .nil => 1
  | .ptr d => uptoBulk d + 1
  | .slice elems spare => uptoBulkAll elems + uptoBulkAll spare + 1
  | .agg parts => uptoBulkAll parts + 1
  | .iface _ d => uptoBulk d + 1
  | .map entries => uptoBulkEntries entries + 1
  | .held _ => 1
def uptoBulkAll {H : Type} : List (DataW H) → Nat
  | [] => 0
  | d :: r => uptoBulk d + uptoBulkAll r
def uptoBulkEntries {H : Type} : List (Lit × DataW H) → Nat
  | [] => 0
  | x :: r => uptoBulkEntry x + uptoBulkEntries r
def uptoBulkEntry {H : Type} : Lit × DataW H → Nat
  | (.string bytes, d) => bytes.length + uptoBulk d + 1
  | (_, d) => uptoBulk d + 1
 end
def uptoSmall : (H : Type) → List (DataW H) → Bool := fun _ ds => decide (uptoBulkAll ds ≤ 1048576)
def OpenSpec.upto (s : _root_.Go.ChangeSpec) : _root_.Go.OpenSpec := { _root_.Go.OpenSpec.ofChange s with cond := some uptoSmall }

/-- 'laws.FnExactSplicesOf', WHERE WHAT IT READS IS OF BULK AT MOST 1048576: true; the input reads as it did. -/
def fnExactSplicesOfUptoRow : OpenClaim := { program := "ytmlopjkjnpkgcaa", sum := "38f629e48078a7dad2d6aeb38479cbbb9bccd01e36139d3073339d1587981fb7", func := "loop.example/paperrolls/laws.FnExactSplicesOf", spec := "fnExactSplicesOf", apart := false, narrowed := true }
def FnExactSplicesOfUptoSaid : Prop := fnExactSplicesOfUptoRow.holds Try.pinned (OpenSpec.upto fnExactSplicesOfSpec)

/-- 'laws.FnLeftOverAgain', WHERE WHAT IT READS IS OF BULK AT MOST 1048576: true; the input reads as it did. -/
def fnLeftOverAgainUptoRow : OpenClaim := { program := "ytmlopjkjnpkgcaa", sum := "38f629e48078a7dad2d6aeb38479cbbb9bccd01e36139d3073339d1587981fb7", func := "loop.example/paperrolls/laws.FnLeftOverAgain", spec := "fnLeftOverAgain", apart := false, narrowed := true }
def FnLeftOverAgainUptoSaid : Prop := fnLeftOverAgainUptoRow.holds Try.pinned (OpenSpec.upto fnLeftOverAgainSpec)

/-- 'laws.FnPiecesOf', WHERE WHAT IT READS IS OF BULK AT MOST 1048576: true; the input reads as it did. -/
def fnPiecesOfUptoRow : OpenClaim := { program := "ytmlopjkjnpkgcaa", sum := "38f629e48078a7dad2d6aeb38479cbbb9bccd01e36139d3073339d1587981fb7", func := "loop.example/paperrolls/laws.FnPiecesOf", spec := "fnPiecesOf", apart := false, narrowed := true }
def FnPiecesOfUptoSaid : Prop := fnPiecesOfUptoRow.holds Try.pinned (OpenSpec.upto fnPiecesOfSpec)

/-- 'laws.FnPiecesOfPlaces', WHERE WHAT IT READS IS OF BULK AT MOST 1048576: true; the input reads as it did. -/
def fnPiecesOfPlacesUptoRow : OpenClaim := { program := "ytmlopjkjnpkgcaa", sum := "38f629e48078a7dad2d6aeb38479cbbb9bccd01e36139d3073339d1587981fb7", func := "loop.example/paperrolls/laws.FnPiecesOfPlaces", spec := "fnPiecesOfPlaces", apart := false, narrowed := true }
def FnPiecesOfPlacesUptoSaid : Prop := fnPiecesOfPlacesUptoRow.holds Try.pinned (OpenSpec.upto fnPiecesOfPlacesSpec)

/-- 'laws.FnExactPiecesOf', WHERE WHAT IT READS IS OF BULK AT MOST 1048576: true; the input reads as it did. -/
def fnExactPiecesOfUptoRow : OpenClaim := { program := "ytmlopjkjnpkgcaa", sum := "38f629e48078a7dad2d6aeb38479cbbb9bccd01e36139d3073339d1587981fb7", func := "loop.example/paperrolls/laws.FnExactPiecesOf", spec := "fnExactPiecesOf", apart := false, narrowed := true }
def FnExactPiecesOfUptoSaid : Prop := fnExactPiecesOfUptoRow.holds Try.pinned (OpenSpec.upto fnExactPiecesOfSpec)

/-- 'laws.FnSplicesOf', WHERE WHAT IT READS IS OF BULK AT MOST 1048576: true; the input reads as it did. -/
def fnSplicesOfUptoRow : OpenClaim := { program := "ytmlopjkjnpkgcaa", sum := "38f629e48078a7dad2d6aeb38479cbbb9bccd01e36139d3073339d1587981fb7", func := "loop.example/paperrolls/laws.FnSplicesOf", spec := "fnSplicesOf", apart := false, narrowed := true }
def FnSplicesOfUptoSaid : Prop := fnSplicesOfUptoRow.holds Try.pinned (OpenSpec.upto fnSplicesOfSpec)

/-- 'laws.FnBestSkip', WHERE WHAT IT READS IS OF BULK AT MOST 1048576: true; the input reads as it did. -/
def fnBestSkipUptoRow : OpenClaim := { program := "ytmlopjkjnpkgcaa", sum := "38f629e48078a7dad2d6aeb38479cbbb9bccd01e36139d3073339d1587981fb7", func := "loop.example/paperrolls/laws.FnBestSkip", spec := "fnBestSkip", apart := false, narrowed := true }
def FnBestSkipUptoSaid : Prop := fnBestSkipUptoRow.holds Try.pinned (OpenSpec.upto fnBestSkipSpec)

end Rows
end Go.Proofs.Ytmlopjkjnpkgcaa
