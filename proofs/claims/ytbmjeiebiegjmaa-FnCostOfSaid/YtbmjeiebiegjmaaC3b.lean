/-
  Contracts: the table of the best values. Conditions: the arguments lie in memory as the contract says.
-/
import Derived.Test.YtbmjeiebiegjmaaC3
namespace Go.Proofs.Ytbmjeiebiegjmaa
open Go Go.PR Go.RowKit attribute [local irreducible] T E Ints Sl Bools OwnI OwnB OwnR Recs Box Ret

theorem bestN_zero {t ws vs : List Int} (h : ∀ x ∈ ws, 1 ≤ x) : ∀ k, k ≤ ws.length → bestN t ws vs 0 k = 0
  | 0, _ => rfl
  | k + 1, hk => by
    have := h _ (getD_mem (xs := ws) (k := k) (by omega))
    rw [bestN, if_neg (by omega), bestN_zero h k (by omega)]
theorem bestT_one {ws vs : List Int} (h : ∀ x ∈ ws, 1 ≤ x) : bestT ws vs 1 = [0] := by
  rw [bestT, bestT, show ((0 : Nat) : Int) = 0 from rfl, bestN_zero h _ (Nat.le_refl _)]; rfl
theorem mid_getD {a b : List Int} {x : Int} {r : Nat} (h : a.length = r) : (a ++ x :: b).getD r 0 = x := by
  subst h; simp
theorem mid_left {a b : List Int} {x : Int} {j : Nat} (h : j < a.length) : (a ++ x :: b).getD j 0 = a.getD j 0 := by
  rw [List.getD_eq_getElem?_getD, List.getElem?_append_left h, ← List.getD_eq_getElem?_getD]
theorem mid_set {a b : List Int} {x y : Int} {r : Nat} (h : a.length = r) : (a ++ x :: b).set r y = a ++ y :: b := by
  subst h; rw [List.set_append_right _ _ (Nat.le_refl _), Nat.sub_self]; rfl


end Go.Proofs.Ytbmjeiebiegjmaa
