/-
  From the readings of the arguments to the words of the walks. No condition.
-/
import Derived.Test.YtjpbmjigmbfcfaaMem3
namespace Go.PR
open Go Go.RowKit

theorem sl_of_row {k : IntKind} {w : World} {a : Option Addr} {len cap : Nat} {zs : List Int}
    (h : (a = none ∧ len = 0 ∧ cap = 0 ∧ zs = []) ∨ ∃ x, a = some x ∧ len ≤ cap ∧ cap ≤ maxLen ∧ zs.length = cap ∧ (∀ i, i < zs.length → w.cell? (x.add i) = some (.int k (zs.getD i 0))) ∧ ∀ n ∈ zs, (Lit.int k n).wf = true) :
    Sl w.heap 1 (.slice a len cap) (zs.take len).length ((zs.take len).map (Value.int k)) := by
  rcases h with ⟨rfl, rfl, rfl, rfl⟩ | ⟨x, rfl, hl, hm, hz, hc, _⟩
  · exact Sl.nil _ _
  · have hlen : (zs.take len).length = len := by simp; omega
    refine ⟨by simp, some x, cap, by rw [hlen], by rw [hlen]; exact hl, fun j u hj => ⟨x, rfl, ?_⟩⟩
    have hj' : j < len := by have := (List.getElem?_eq_some_iff.1 hj).1; simp at this; omega
    have h1 := hc j (by omega)
    rw [cell_eq] at h1
    rw [h1]
    rw [List.getElem?_map, List.getElem?_take, if_pos hj', List.getElem?_eq_getElem (by omega)] at hj
    rw [← Option.some.inj hj, List.getD_eq_getElem?_getD, List.getElem?_eq_getElem (by omega)]
    rfl

theorem ints_of_row {w : World} {a : Option Addr} {len cap : Nat} {zs : List Int}
    (h : (a = none ∧ len = 0 ∧ cap = 0 ∧ zs = []) ∨ ∃ x, a = some x ∧ len ≤ cap ∧ cap ≤ maxLen ∧ zs.length = cap ∧ (∀ i, i < zs.length → w.cell? (x.add i) = some (.int .i64 (zs.getD i 0))) ∧ ∀ n ∈ zs, (Lit.int .i64 n).wf = true) :
    Ints w.heap (.slice a len cap) (zs.take len) := sl_of_row h

theorem calls_of_ret {P : Program} {f : FuncId} {args : Array Value} {w : World} (h : Ret P f args w (fun r w' => r = .bool true ∧ Below w.heap.size w w')) :
    Calls P f args w fun e w' => e = .returned (.bool true) ∧ Below w.heap.size w w' :=
  h.2.mono (fun _ _ ⟨_, he, hv, hB⟩ => ⟨by rw [he, hv], hB⟩)
end Go.PR
