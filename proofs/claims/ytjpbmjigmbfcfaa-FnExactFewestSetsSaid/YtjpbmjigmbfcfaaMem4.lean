/-
  Rules for parts of a row of numbers. Conditions: the row lies in memory.
-/
import Derived.Test.YtjpbmjigmbfcfaaMem3
namespace Go.PR
open Go Go.RowKit
section
variable {P : Program} {n : Nat} {m : Env} {w : World} {ops : Array Oper} {md : Nat} {K : Env → World → Prop} {l : List Oper}
theorem T_sliceHiI {d : Nat} {x xh : Operand} {t e : TypeId} {byt : Nat} {z : Value} {ty : TypeId} {pos : String} {af : Array Edge} {v : Value} {xs : List Int} {hp : Array Obj} {hi : Int} (hT : STy P t e 1 byt z)
    (hx : ev m x = some v) (h2 : ev m xh = some (.int .i64 hi)) (hd : Nat.blt d n = true) (hS : Ints hp v xs) (hr : 0 ≤ hi ∧ hi ≤ (xs.length : Int))
    (h : T P n ops md K l ((d, subV v 0 hi.toNat 1) :: m) w) : T P n ops md K (⟨some d, .slice t x none (some xh) none, ty, pos, af, none⟩ :: l) m w :=
  T_sliceHi hT hx h2 hd hS hr h
theorem T_sliceLoI {d : Nat} {x xl : Operand} {t e : TypeId} {byt : Nat} {z : Value} {ty : TypeId} {pos : String} {af : Array Edge} {v : Value} {xs : List Int} {hp : Array Obj} {lo : Int} (hT : STy P t e 1 byt z)
    (hx : ev m x = some v) (h1 : ev m xl = some (.int .i64 lo)) (hd : Nat.blt d n = true) (hS : Ints hp v xs) (hr : 0 ≤ lo ∧ lo ≤ (xs.length : Int))
    (h : T P n ops md K l ((d, subV v lo.toNat xs.length 1) :: m) w) : T P n ops md K (⟨some d, .slice t x (some xl) none none, ty, pos, af, none⟩ :: l) m w :=
  T_sliceLo hT hx h1 hd hS hr h
theorem Ints.take {h : Array Obj} {v : Value} {xs : List Int} (hs : Ints h v xs) {hi : Nat} (h2 : hi ≤ xs.length) : Ints h (subV v 0 hi 1) (xs.take hi) := by
  have := hs.sub (Nat.zero_le hi) h2
  rwa [List.drop_zero] at this
theorem Ints.drop {h : Array Obj} {v : Value} {xs : List Int} (hs : Ints h v xs) {lo : Nat} (h2 : lo ≤ xs.length) : Ints h (subV v lo xs.length 1) (xs.drop lo) := by
  have := hs.sub h2 (Nat.le_refl _)
  rwa [List.take_length] at this
end
end Go.PR
