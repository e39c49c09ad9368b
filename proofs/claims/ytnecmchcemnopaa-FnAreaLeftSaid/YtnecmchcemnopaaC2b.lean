/-
  Contracts: CutReel of the reference, TurnReel of both sides. Conditions: the arguments lie in memory as the contract says.
-/
import Derived.Test.YtnecmchcemnopaaLibR2
import Derived.Test.YtnecmchcemnopaaClos
namespace Go.PR
open Go Go.RowKit
section
variable {P : Program} {n : Nat} {m : Env} {w : World} {ops : Array Oper} {K : Env → World → Prop} {l : List Oper}
theorem T_lit0R {α : Type} {r : Rec α} {d : Nat} {t e : TypeId} {byt : Nat} {z : Value} {ty : TypeId} {pos : String} {af : Array Edge} (hT : STy P t e r.k byt z) (hd : Nat.blt d n = true)
    (h : ∀ v w', OwnR r w' w.heap.size e v [] → v.ownBlock = some w.heap.size → w.heap.size < w'.heap.size → Below w.heap.size w w' → T P n ops 0 K l ((d, v) :: m) w') :
    T P n ops 0 K (⟨some d, .buildSlice t 0 #[], ty, pos, af, none⟩ :: l) m w :=
  T_lit (ps := []) hT (vs := []) rfl rfl hd (by simp) (by omega) (fun v w' h1 h2 h3 h4 => h v w' (by unfold OwnR; simpa using h1) h2 h3 h4)
/-- one cell of a box, while another one may be written -/
theorem T_loadBox4 {d : Nat} {x : Operand} {t ty : TypeId} {pos : String} {af : Array Edge} {b b' off : Nat} {cs : List Value} {v : Value} (ht : ∀ w, (isAgg t).run P w = .ok false w) (hx : ev m x = some (bPtr b' off)) (hd : Nat.blt d n = true)
    (hB : Box w.heap b' cs) (hv : cs[off]? = some v) (hne : b' ≠ b) (h : T P n ops (b + 4) K l ((d, v) :: m) w) : T P n ops (b + 4) K (⟨some d, .load t x, ty, pos, af, none⟩ :: l) m w :=
  T_val hd (fun a' ha w' hb => by
    have h1 := cellAt_stay (b := b) hb (hB.cell hv) (by rw [block_add]; exact hne)
    simp [execOp, ha.eval hx, bPtr, run_load ht h1]) h
end
end Go.PR
namespace Go.Proofs.Ytnecmchcemnopaa
open Go Go.PR Go.RowKit attribute [local irreducible] T E Ints Sl Bools OwnI OwnB OwnR Recs Box Ret
attribute [local irreducible] X





end Go.Proofs.Ytnecmchcemnopaa
