/-
  Parts of slices of structs, a list without one of its elements. No condition.
-/
import Derived.Test.YtnecmchcemnopaaC2b
import Derived.Test.YtnecmchcemnopaaC7P
namespace Go.PR
open Go Go.RowKit
theorem Recs.cutHi {α : Type} {r : Rec α} {h : Array Obj} {v : Value} {xs : List α} (hs : Recs r h v xs) {hi : Nat} (h2 : hi ≤ xs.length) : Recs r h (subV v 0 hi r.k) (xs.take hi) := by
  have := Sl.sub hs (Nat.zero_le hi) h2
  unfold Recs
  have e : (xs.take hi).length = hi := by simp; omega
  rw [e]
  have e2 : ((xs.flatMap r.enc).take (hi * r.k)).drop (0 * r.k) = (xs.take hi).flatMap r.enc := by
    rw [Nat.zero_mul, List.drop_zero]
    have h4 : xs.flatMap r.enc = (xs.take hi).flatMap r.enc ++ (xs.drop hi).flatMap r.enc := by rw [← List.flatMap_append, List.take_append_drop]
    have l1 : ((xs.take hi).flatMap r.enc).length = hi * r.k := by rw [flat_length r.enc r.k r.len, e]
    rw [h4, ← l1, List.take_left']; rfl
  rw [e2] at this
  exact this
theorem Recs.cutLo {α : Type} {r : Rec α} {h : Array Obj} {v : Value} {xs : List α} (hs : Recs r h v xs) {lo : Nat} (h2 : lo ≤ xs.length) : Recs r h (subV v lo xs.length r.k) (xs.drop lo) := by
  have := Sl.sub hs h2 (Nat.le_refl _)
  unfold Recs
  have e : (xs.drop lo).length = xs.length - lo := by simp
  rw [e]
  have e2 : ((xs.flatMap r.enc).take (xs.length * r.k)).drop (lo * r.k) = (xs.drop lo).flatMap r.enc := by
    have l0 : (xs.flatMap r.enc).length = xs.length * r.k := flat_length r.enc r.k r.len _
    rw [← l0, List.take_length]
    have h4 : xs.flatMap r.enc = (xs.take lo).flatMap r.enc ++ (xs.drop lo).flatMap r.enc := by rw [← List.flatMap_append, List.take_append_drop]
    have l1 : ((xs.take lo).flatMap r.enc).length = lo * r.k := by rw [flat_length r.enc r.k r.len]; congr 1; simp; omega
    rw [h4, ← l1, List.drop_left']; rfl
  rw [e2] at this
  exact this
section
variable {P : Program} {n : Nat} {m : Env} {w : World} {ops : Array Oper} {md : Nat} {K : Env → World → Prop} {l : List Oper}
theorem T_sliceHiR {α : Type} {r : Rec α} {d : Nat} {x xh : Operand} {t e : TypeId} {byt : Nat} {z : Value} {ty : TypeId} {pos : String} {af : Array Edge} {v : Value} {xs : List α} {hp : Array Obj} {hi : Nat} (hT : STy P t e r.k byt z)
    (hx : ev m x = some v) (h2 : ev m xh = some (.int .i64 (hi : Int))) (hd : Nat.blt d n = true) (hS : Recs r hp v xs) (hr : hi ≤ xs.length)
    (h : T P n ops md K l ((d, subV v 0 hi r.k) :: m) w) : T P n ops md K (⟨some d, .slice t x none (some xh) none, ty, pos, af, none⟩ :: l) m w :=
  T_sliceHi hT hx h2 hd hS (by omega) h
theorem T_sliceLoR {α : Type} {r : Rec α} {d : Nat} {x xl : Operand} {t e : TypeId} {byt : Nat} {z : Value} {ty : TypeId} {pos : String} {af : Array Edge} {v : Value} {xs : List α} {hp : Array Obj} {i : Int} {lo : Nat} (hT : STy P t e r.k byt z)
    (hx : ev m x = some v) (h2 : ev m xl = some (.int .i64 i)) (hd : Nat.blt d n = true) (hS : Recs r hp v xs) (hi : i = lo) (hr : lo ≤ xs.length)
    (h : T P n ops md K l ((d, subV v lo xs.length r.k) :: m) w) : T P n ops md K (⟨some d, .slice t x (some xl) none none, ty, pos, af, none⟩ :: l) m w := by
  subst hi
  exact T_sliceLo hT hx h2 hd hS (by omega) h
end
end Go.PR
