/-
  From the reading of a code to the words of the walks. No condition.
-/
import Derived.Test.YtjpbmjigmbfcfaaRow
import Derived.Test.YtjpbmjigmbfcfaaGen
namespace Go.PR
open Go Go.RowKit
theorem bytes_of_row {w : World} {a : Option Addr} {len cap : Nat} {zs : List Int}
    (h : (a = none ∧ len = 0 ∧ cap = 0 ∧ zs = []) ∨ ∃ x, a = some x ∧ len ≤ cap ∧ cap ≤ maxLen ∧ zs.length = cap ∧ (∀ i, i < zs.length → w.cell? (x.add i) = some (.int .u8 (zs.getD i 0))) ∧ ∀ n ∈ zs, (Lit.int .u8 n).wf = true) :
    Bytes w.heap (.slice a len cap) (zs.take len) ∧ ∀ c ∈ zs.take len, 0 ≤ c ∧ c ≤ 255 := by
  refine ⟨sl_of_row h, fun c hc => ?_⟩
  have hm := List.mem_of_mem_take hc
  rcases h with ⟨_, _, _, rfl⟩ | ⟨x, _, _, _, _, _, hw⟩
  · simp at hm
  · have := hw c hm
    have e1 : IntKind.u8.min = 0 := by decide
    have e2 : IntKind.u8.max = 255 := by decide
    simp [Lit.wf] at this
    omega
end Go.PR
