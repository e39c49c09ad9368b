/-
  Facts on the types of this program. No condition.
-/
import Derived.Test.YtmlopjkjnpkgcaaMem3
import Derived.Test.YtmlopjkjnpkgcaaProg
namespace Go.Proofs.Ytmlopjkjnpkgcaa
open Go Go.PR Go.RowKit

theorem follows : Try.prog.follows .mixedOrders = true := by kernel_rfl
theorem tyI : STy Try.prog 22 3 1 8 (.int .i64 0) := ⟨Try.underlying22, ⟨Try.t3, by kernel_rfl, rfl, rfl, rfl⟩, rfl, by decide⟩

theorem vb_iff {p q : Prop} [Decidable p] [Decidable q] (h : p ↔ q) : Value.bool (decide p) = Value.bool (decide q) := by simp [h]
theorem vb_t {q : Prop} [Decidable q] (h : q) : Value.bool true = Value.bool (decide q) := by simp [h]
theorem vb_f {q : Prop} [Decidable q] (h : ¬ q) : Value.bool false = Value.bool (decide q) := by simp [h]
theorem vi_eq {i j : Int} (h : i = j) : Value.int .i64 i = Value.int .i64 j := by rw [h]

/-- Pieces. -/
def recP : Rec (Int × Int × Int × Int) where
  enc p := [.int .i64 p.1, .int .i64 p.2.1, .int .i64 p.2.2.1, .int .i64 p.2.2.2]
  k := 4
  zero := (0, 0, 0, 0)
  len _ := rfl
  pos := by decide
  one _ u hu := by simp at hu; rcases hu with rfl | rfl | rfl | rfl <;> rfl
theorem tyP : STy Try.prog 32 37 4 32 (.agg #[.int .i64 0, .int .i64 0, .int .i64 0, .int .i64 0]) := ⟨Try.underlying32, ⟨Try.t37, by kernel_rfl, rfl, rfl, rfl⟩, rfl, by decide⟩
theorem fP0 : FieldAt Try.prog 37 0 0 := fun a w => by kernel_rfl
theorem fP1 : FieldAt Try.prog 37 1 1 := fun a w => by kernel_rfl
theorem fP2 : FieldAt Try.prog 37 2 2 := fun a w => by kernel_rfl
theorem fP3 : FieldAt Try.prog 37 3 3 := fun a w => by kernel_rfl
theorem eqP : EqTy Try.prog 37 recP := by
  refine ⟨by kernel_rfl, ?_⟩
  rintro ⟨a1, a2, a3, a4⟩ ⟨b1, b2, b3, b4⟩ w
  have hS : Try.prog.underlying 37 = some (.struct (Try.prog.fieldsOf 37)) := by kernel_rfl
  rw [show (10000 : Nat) = 9999 + 1 from rfl, run_equalIn_struct w 9999 37 _ _ hS (by kernel_rfl)]
  have hI : ∀ x y : Int, (Op.equalIn 9999 3 (.int .i64 x) (.int .i64 y)).run Try.prog w = .ok (x == y) w := fun x y => run_equalIn_int w 9998 3 .i64 .i64 x y Try.underlying3
  simp only [Program.fieldsOf, Try.underlying37, recP]
  simp [Op.eqFields, part, Try.isAgg3, hI]
  by_cases h1 : a1 = b1 <;> by_cases h2 : a2 = b2 <;> by_cases h3 : a3 = b3 <;> by_cases h4 : a4 = b4 <;> simp [h1, h2, h3, h4]
theorem bP (a b c d : Int) : StructAt Try.prog 37 [(0, .int .i64 a), (1, .int .i64 b), (2, .int .i64 c), (3, .int .i64 d)] (.agg (recP.enc (a, b, c, d)).toArray) := fun w => by kernel_rfl
end Go.Proofs.Ytmlopjkjnpkgcaa
