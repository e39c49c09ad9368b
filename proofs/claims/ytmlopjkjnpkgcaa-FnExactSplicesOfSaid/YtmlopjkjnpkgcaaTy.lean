/-
  Facts on the types of this program. No condition.
-/
import Derived.Test.YtmlopjkjnpkgcaaMem3
import Derived.Test.YtmlopjkjnpkgcaaProg
namespace Go.Proofs.Ytmlopjkjnpkgcaa
open Go Go.PR Go.RowKit

theorem follows : Try.prog.follows .mixedOrders = true := by kernel_rfl
theorem tyI : STy Try.prog 22 3 1 8 (.int .i64 0) := ⟨Try.underlying22, ⟨Try.t3, by kernel_rfl, rfl, rfl, rfl⟩, rfl, by decide⟩

theorem vb_iff {p q : Prop} [Decidable p] [Decidable q] (h : p ↔ q) : Value.bool (decide p) = Value.bool (decide q) := by simp [h]
theorem vb_t {q : Prop} [Decidable q] (h : q) : Value.bool true = Value.bool (decide q) := by simp [h]
theorem vb_f {q : Prop} [Decidable q] (h : ¬ q) : Value.bool false = Value.bool (decide q) := by simp [h]
theorem vi_eq {i j : Int} (h : i = j) : Value.int .i64 i = Value.int .i64 j := by rw [h]

/-- Pieces. -/
def recP : Rec (Int × Int × Int × Int) where
  enc p := [.int .i64 p.1, .int .i64 p.2.1, .int .i64 p.2.2.1, .int .i64 p.2.2.2]
  k := 4
  zero := (0, 0, 0, 0)
  len _ := rfl
  pos := by decide
  one _ u hu := by simp at hu; rcases hu with rfl | rfl | rfl | rfl <;> rfl
theorem tyP : STy Try.prog 32 37 4 32 (.agg #[.int .i64 0, .int .i64 0, .int .i64 0, .int .i64 0]) := ⟨Try.underlying32, ⟨Try.t37, by kernel_rfl, rfl, rfl, rfl⟩, rfl, by decide⟩
theorem fP0 : FieldAt Try.prog 37 0 0 := fun a w => by kernel_rfl
theorem fP1 : FieldAt Try.prog 37 1 1 := fun a w => by kernel_rfl
theorem fP2 : FieldAt Try.prog 37 2 2 := fun a w => by kernel_rfl
theorem fP3 : FieldAt Try.prog 37 3 3 := fun a w => by kernel_rfl
theorem bP (a b c d : Int) : StructAt Try.prog 37 [(0, .int .i64 a), (1, .int .i64 b), (2, .int .i64 c), (3, .int .i64 d)] (.agg (recP.enc (a, b, c, d)).toArray) := fun w => by kernel_rfl
end Go.Proofs.Ytmlopjkjnpkgcaa
