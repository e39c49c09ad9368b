/-
  Slitting, in plain words: valid widths, the table of the best values. No program here. No condition.
-/
import Derived.Test.YtjpbmjigmbfcfaaPlain
namespace Go.PR

theorem sum_bound {xs : List Int} {lo hi : Int} (h : ∀ x ∈ xs, lo ≤ x ∧ x ≤ hi) : lo * xs.length ≤ xs.sum ∧ xs.sum ≤ hi * xs.length := by
  have := psum_bound h xs.length (Nat.le_refl _)
  rwa [psum_all] at this

/-- No number twice. -/
def once (xs : List Int) : Prop := ∀ k, k < xs.length → xs.getD k 0 ∉ xs.take k
instance (xs : List Int) : Decidable (once xs) := by unfold once; infer_instance
def okW (width : Int) (ws : List Int) : Prop := (1 ≤ width ∧ width ≤ 60) ∧ (1 ≤ ws.length ∧ ws.length ≤ 6) ∧ (∀ x ∈ ws, 1 ≤ x ∧ x ≤ width) ∧ once ws
instance (width : Int) (ws : List Int) : Decidable (okW width ws) := by unfold okW; infer_instance
def okV (width : Int) (ws vs : List Int) : Prop := okW width ws ∧ vs.length = ws.length ∧ ∀ x ∈ vs, 0 ≤ x ∧ x ≤ 100
instance (width : Int) (ws vs : List Int) : Decidable (okV width ws vs) := by unfold okV; infer_instance

/-- the best value for the room w, of the first k widths, where t has those for less room -/
def bestN (t ws vs : List Int) (w : Int) : Nat → Int
  | 0 => 0
  | k + 1 => if ws.getD k 0 ≤ w then max (bestN t ws vs w k) (vs.getD k 0 + t.getD (w - ws.getD k 0).toNat 0) else bestN t ws vs w k
/-- the best values for 0, 1, .. n - 1 -/
def bestT (ws vs : List Int) : Nat → List Int
  | 0 => []
  | n + 1 => bestT ws vs n ++ [bestN (bestT ws vs n) ws vs n ws.length]
theorem bestT_length (ws vs : List Int) : ∀ n, (bestT ws vs n).length = n
  | 0 => rfl
  | n + 1 => by rw [bestT, List.length_append, bestT_length ws vs n]; rfl
theorem bestT_getD (ws vs : List Int) : ∀ n k, k < n → (bestT ws vs n).getD k 0 = bestN (bestT ws vs k) ws vs k ws.length
  | 0, k, h => by omega
  | n + 1, k, h => by
    have hl := bestT_length ws vs n
    rw [bestT, List.getD_eq_getElem?_getD]
    by_cases e : k = n
    · subst e
      rw [List.getElem?_append_right (by omega), hl]; simp
    · rw [List.getElem?_append_left (by omega), ← List.getD_eq_getElem?_getD]
      exact bestT_getD ws vs n k (by omega)
/-- the table grows: what was there stays -/
theorem bestT_le (ws vs : List Int) {n m k : Nat} (h : k < n) (h2 : n ≤ m) : (bestT ws vs m).getD k 0 = (bestT ws vs n).getD k 0 := by
  rw [bestT_getD ws vs m k (by omega), bestT_getD ws vs n k h]

theorem bestN_bound {t ws vs : List Int} {w B : Int} (hv : ∀ x ∈ vs, 0 ≤ x ∧ x ≤ 100) (hl : vs.length = ws.length) (hB : 0 ≤ B) (ht : ∀ j, 0 ≤ t.getD j 0 ∧ t.getD j 0 ≤ B) : ∀ k, k ≤ ws.length → 0 ≤ bestN t ws vs w k ∧ bestN t ws vs w k ≤ B + 100
  | 0, _ => by simp [bestN]; omega
  | k + 1, h => by
    have ih := bestN_bound (w := w) hv hl hB ht k (by omega)
    have h1 := hv _ (getD_mem (xs := vs) (k := k) (by omega))
    have h2 := ht (w - ws.getD k 0).toNat
    rw [bestN]
    split <;> omega
theorem bestT_bound {ws vs : List Int} (hv : ∀ x ∈ vs, 0 ≤ x ∧ x ≤ 100) (hl : vs.length = ws.length) : ∀ n j, 0 ≤ (bestT ws vs n).getD j 0 ∧ (bestT ws vs n).getD j 0 ≤ 100 * n
  | 0, j => by simp [bestT]
  | n + 1, j => by
    have ih := bestT_bound hv hl n
    have hlen := bestT_length ws vs n
    rw [bestT, List.getD_eq_getElem?_getD]
    by_cases e : j < n
    · rw [List.getElem?_append_left (by omega), ← List.getD_eq_getElem?_getD]
      have := ih j
      omega
    · rw [List.getElem?_append_right (by omega), hlen]
      by_cases e2 : j = n
      · subst e2
        have := bestN_bound (w := j) hv hl (B := 100 * (j : Int)) (by omega) ih ws.length (Nat.le_refl _)
        simp
        omega
      · rw [List.getElem?_eq_none (by simp; omega)]
        simp
        omega
end Go.PR
