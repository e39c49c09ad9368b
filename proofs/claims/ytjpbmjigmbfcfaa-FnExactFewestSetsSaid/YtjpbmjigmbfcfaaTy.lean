/-
  Facts on the types of this program. No condition.
-/
import Derived.Test.YtjpbmjigmbfcfaaMem3
import Derived.Test.YtjpbmjigmbfcfaaProg
namespace Go.Proofs.Ytjpbmjigmbfcfaa
open Go Go.PR Go.RowKit

theorem follows : Try.prog.follows .mixedOrders = true := by kernel_rfl
theorem tyI : STy Try.prog 22 3 1 8 (.int .i64 0) := ⟨Try.underlying22, ⟨Try.t3, by kernel_rfl, rfl, rfl, rfl⟩, rfl, by decide⟩

theorem vb_iff {p q : Prop} [Decidable p] [Decidable q] (h : p ↔ q) : Value.bool (decide p) = Value.bool (decide q) := by simp [h]
theorem vb_t {q : Prop} [Decidable q] (h : q) : Value.bool true = Value.bool (decide q) := by simp [h]
theorem vb_f {q : Prop} [Decidable q] (h : ¬ q) : Value.bool false = Value.bool (decide q) := by simp [h]
theorem vi_eq {i j : Int} (h : i = j) : Value.int .i64 i = Value.int .i64 j := by rw [h]

end Go.Proofs.Ytjpbmjigmbfcfaa
