/-
  Function values and variables that they catch. No condition.
-/
import Derived.Test.YtnecmchcemnopaaHeld
import Derived.Test.YtnecmchcemnopaaMem5
namespace Go.PR
open Go Go.RowKit
section
variable {P : Program} {n : Nat} {m : Env} {w : World} {ops : Array Oper} {md : Nat} {K : Env → World → Prop} {l : List Oper}
theorem T_boxV {d : Nat} {x : Operand} {t ty : TypeId} {pos : String} {af : Array Edge} {v : Value} (hx : ev m x = some v) (hc : v.cells = #[v]) (hd : Nat.blt d n = true)
    (h : ∀ w', Box w'.heap w.heap.size [v] → w'.heap.size = w.heap.size + 1 → Below w.heap.size w w' → T P n ops 0 K l ((d, bPtr w.heap.size 0) :: m) w') :
    T P n ops 0 K (⟨some d, .box t x, ty, pos, af, none⟩ :: l) m w := by
  have hd' : d < n := by simpa [Nat.blt_eq] using hd
  intro a ha
  refine wpList_plain rfl fun K' hK => ?_
  have h1 : (execOp a.eval ⟨some d, .box t x, ty, pos, af, none⟩).run P w = .ok (.value (.pointer (some ⟨w.heap.size, 0, none⟩))) (w.alloc (.cells #[v] t)) := by
    simp [execOp, ha.eval hx, Instr.box, newVar, newRow, newObj, Sem.run, hc]
  unfold Oper.wp
  rw [h1]
  exact hK _ _ (h _ ⟨t, heap_alloc_new w _⟩ (by simp) ((Below.refl _ _).alloc (Nat.le_refl _) _) _ (ha.put hd' _))
theorem T_allocV {d : Nat} {t ty : TypeId} {pos : String} {af : Array Edge} {z : Value} (hz : ∀ w, (zeroValue t).run P w = .ok z w) (hc : z.cells = #[z]) (hd : Nat.blt d n = true)
    (h : ∀ w', Box w'.heap w.heap.size [z] → w'.heap.size = w.heap.size + 1 → Below w.heap.size w w' → T P n ops 0 K l ((d, bPtr w.heap.size 0) :: m) w') :
    T P n ops 0 K (⟨some d, .alloc t, ty, pos, af, none⟩ :: l) m w := by
  have hd' : d < n := by simpa [Nat.blt_eq] using hd
  intro a ha
  refine wpList_plain rfl fun K' hK => ?_
  have h1 : (execOp a.eval ⟨some d, .alloc t, ty, pos, af, none⟩).run P w = .ok (.value (.pointer (some ⟨w.heap.size, 0, none⟩))) (w.alloc (.cells #[z] t)) := by
    simp [execOp, Instr.alloc, hz, newVar, newRow, newObj, Sem.run, hc]
  unfold Oper.wp
  rw [h1]
  exact hK _ _ (h _ ⟨t, heap_alloc_new w _⟩ (by simp) ((Below.refl _ _).alloc (Nat.le_refl _) _) _ (ha.put hd' _))
theorem T_makeFunc {d : Nat} {f : FuncId} {xs : List Operand} {vs : List Value} {ty : TypeId} {pos : String} {af : Array Edge} (hxs : evs m xs = some vs) (hd : Nat.blt d n = true)
    (h : T P n ops md K l ((d, .func (.func f) #[] vs.toArray) :: m) w) : T P n ops md K (⟨some d, .makeFunc (.func f) #[] xs.toArray, ty, pos, af, none⟩ :: l) m w :=
  T_val hd (fun a ha w' _ => by
    have h1 := ha.evals hxs
    have h2 : Array.map a.eval xs.toArray = vs.toArray := by rw [List.map_toArray, h1]
    simp [execOp, Instr.makeFunc, -List.map_toArray, h2]) h
theorem bPtr_zero (b : Nat) : bPtr b 0 = .pointer (some ⟨b, 0, none⟩) := by simp [bPtr, Addr.add]
end
/-- what is written in a box is written in its range -/
theorem Stay.of_box {b : Nat} {w w' : World} (h : w.grownBy w' (some b)) : Stay b (b + 1) w w' :=
  ⟨h.os, h.tape, h.output, h.size, fun k hk hn => h.block k hk (fun e => hn (by simp at e; omega))⟩
theorem Ints.stay {W0 w : World} {v : Value} {xs : List Int} (h : Ints W0.heap v xs) (hb : Below W0.heap.size W0 w) : Ints w.heap v xs := h.later hb
end Go.PR
