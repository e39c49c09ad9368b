/-
  Slitting, in plain words, the second part: the table of the best values grows with the room; a first roll of a best pattern. No program here. No condition.
-/
import Derived.Test.YtjpbmjigmbfcfaaC3P
namespace Go.PR

/-- the best value for the room r -/
def bv (ws vs : List Int) (r : Nat) : Int := bestN (bestT ws vs r) ws vs r ws.length
theorem bestT_bv (ws vs : List Int) {n k : Nat} (h : k < n) : (bestT ws vs n).getD k 0 = bv ws vs k := bestT_getD ws vs n k h

/-- each roll that fits -/
theorem bestN_ge {t ws vs : List Int} {w : Int} : ∀ {k i : Nat}, i < k → ws.getD i 0 ≤ w → vs.getD i 0 + t.getD (w - ws.getD i 0).toNat 0 ≤ bestN t ws vs w k
  | 0, i, h, _ => by omega
  | k + 1, i, h, h1 => by
    rw [bestN]
    by_cases e : i = k
    · subst e; rw [if_pos h1]; omega
    · have := bestN_ge (t := t) (ws := ws) (vs := vs) (w := w) (k := k) (i := i) (by omega) h1
      split <;> omega
/-- one of them, or nothing -/
theorem bestN_is {t ws vs : List Int} {w : Int} : ∀ k, 0 < bestN t ws vs w k → ∃ i, i < k ∧ ws.getD i 0 ≤ w ∧ bestN t ws vs w k = vs.getD i 0 + t.getD (w - ws.getD i 0).toNat 0
  | 0, h => by simp [bestN] at h
  | k + 1, h => by
    rw [bestN] at h ⊢
    by_cases e : ws.getD k 0 ≤ w
    · rw [if_pos e] at h ⊢
      rcases Int.le_total (bestN t ws vs w k) (vs.getD k 0 + t.getD (w - ws.getD k 0).toNat 0) with h1 | h1
      · exact ⟨k, by omega, e, by omega⟩
      · obtain ⟨i, h2, h3, h4⟩ := bestN_is (t := t) (ws := ws) (vs := vs) (w := w) k (by omega)
        exact ⟨i, by omega, h3, by omega⟩
    · rw [if_neg e] at h ⊢
      obtain ⟨i, h2, h3, h4⟩ := bestN_is (t := t) (ws := ws) (vs := vs) (w := w) k h
      exact ⟨i, by omega, h3, h4⟩
theorem bestN_nonneg {t ws vs : List Int} {w : Int} : ∀ k, 0 ≤ bestN t ws vs w k
  | 0 => by simp [bestN]
  | k + 1 => by
    have := bestN_nonneg (t := t) (ws := ws) (vs := vs) (w := w) k
    rw [bestN]; split <;> omega

theorem bv_nonneg (ws vs : List Int) (r : Nat) : 0 ≤ bv ws vs r := bestN_nonneg _
theorem bv_ge {ws vs : List Int} {r i : Nat} (hi : i < ws.length) (h1 : 1 ≤ ws.getD i 0) (h2 : ws.getD i 0 ≤ r) : vs.getD i 0 + bv ws vs (r - (ws.getD i 0).toNat) ≤ bv ws vs r := by
  have := bestN_ge (t := bestT ws vs r) (ws := ws) (vs := vs) (w := (r : Int)) hi h2
  rw [bestT_bv ws vs (by omega)] at this
  rw [show r - (ws.getD i 0).toNat = ((r : Int) - ws.getD i 0).toNat by omega]
  exact this
theorem bv_is {ws vs : List Int} {r : Nat} (hw : ∀ x ∈ ws, 1 ≤ x) (h : 0 < bv ws vs r) : ∃ i, i < ws.length ∧ ws.getD i 0 ≤ r ∧ bv ws vs r = vs.getD i 0 + bv ws vs (r - (ws.getD i 0).toNat) := by
  obtain ⟨i, h1, h2, h3⟩ := bestN_is ws.length h
  have hx := hw _ (getD_mem (xs := ws) h1)
  refine ⟨i, h1, h2, ?_⟩
  rw [bestT_bv ws vs (by omega)] at h3
  rw [show r - (ws.getD i 0).toNat = ((r : Int) - ws.getD i 0).toNat by omega]
  exact h3
theorem bv_mono {ws vs : List Int} (hw : ∀ x ∈ ws, 1 ≤ x) : ∀ r, bv ws vs r ≤ bv ws vs (r + 1) := by
  intro r
  induction r using Nat.strongRecOn with
  | ind r ih =>
    by_cases h : 0 < bv ws vs r
    · obtain ⟨i, h1, h2, h3⟩ := bv_is hw h
      have hx := hw _ (getD_mem (xs := ws) h1)
      have h4 := bv_ge (vs := vs) (r := r + 1) h1 hx (by omega)
      have h5 := ih (r - (ws.getD i 0).toNat) (by omega)
      rw [show r + 1 - (ws.getD i 0).toNat = r - (ws.getD i 0).toNat + 1 by omega] at h4
      omega
    · have := bv_nonneg ws vs (r + 1); omega
theorem bv_le {ws vs : List Int} (hw : ∀ x ∈ ws, 1 ≤ x) {a b : Nat} (h : a ≤ b) : bv ws vs a ≤ bv ws vs b := by
  induction b with
  | zero => have : a = 0 := by omega
            subst this; exact Int.le_refl _
  | succ b ih =>
    by_cases e : a = b + 1
    · subst e; exact Int.le_refl _
    · have := ih (by omega)
      have := bv_mono (vs := vs) hw b
      omega
/-- a roll with a value, first in a best pattern -/
def good (ws vs : List Int) (r i : Nat) : Prop := 0 < vs.getD i 0 ∧ ws.getD i 0 ≤ r ∧ vs.getD i 0 + bv ws vs (r - (ws.getD i 0).toNat) = bv ws vs r
instance (ws vs : List Int) (r i : Nat) : Decidable (good ws vs r i) := by unfold good; infer_instance
theorem good_is {ws vs : List Int} (hw : ∀ x ∈ ws, 1 ≤ x) (hv : ∀ x ∈ vs, 0 ≤ x) (hl : vs.length = ws.length) : ∀ r, 0 < bv ws vs r → ∃ i, i < ws.length ∧ good ws vs r i := by
  intro r
  induction r using Nat.strongRecOn with
  | ind r ih =>
    intro h
    obtain ⟨k, h1, h2, h3⟩ := bv_is hw h
    have hx := hw _ (getD_mem (xs := ws) h1)
    have hy := hv _ (getD_mem (xs := vs) (k := k) (by omega))
    by_cases e : 0 < vs.getD k 0
    · exact ⟨k, h1, e, h2, h3.symm⟩
    · obtain ⟨i, i1, i2, i3, i4⟩ := ih (r - (ws.getD k 0).toNat) (by omega) (by omega)
      have hz := hw _ (getD_mem (xs := ws) i1)
      have h5 := bv_ge (vs := vs) (r := r) i1 hz (by omega)
      have h6 := bv_le (vs := vs) hw (a := r - (ws.getD k 0).toNat - (ws.getD i 0).toNat) (b := r - (ws.getD i 0).toNat) (by omega)
      exact ⟨i, i1, i2, by omega, by omega⟩
end Go.PR
namespace Go.PR
/-- the first such roll -/
def firstGood (ws vs : List Int) (r : Nat) : Nat := ((List.range ws.length).find? (fun i => decide (good ws vs r i))).getD 0
theorem firstGood_at {ws vs : List Int} {r k : Nat} (hk : k < ws.length) (hg : good ws vs r k) (hn : ∀ j, j < k → ¬ good ws vs r j) : firstGood ws vs r = k := by
  have : (List.range ws.length).find? (fun i => decide (good ws vs r i)) = some k := by
    rw [List.find?_range_eq_some]
    exact ⟨decide_eq_true hg, by simpa using hk, fun j hj => by simpa using hn j hj⟩
  unfold firstGood
  rw [this]; rfl
def patF (ws vs : List Int) : Nat → Nat → List Int → List Int
  | 0, _, c => c
  | f + 1, r, c => if 0 < bv ws vs r then patF ws vs f (r - (ws.getD (firstGood ws vs r) 0).toNat) (c.set (firstGood ws vs r) (c.getD (firstGood ws vs r) 0 + 1)) else c
theorem patF_done {ws vs : List Int} {f r : Nat} {c : List Int} (h : ¬ 0 < bv ws vs r) : patF ws vs f r c = c := by
  cases f with
  | zero => rfl
  | succ f => rw [patF, if_neg h]
def patternF (width : Int) (ws vs : List Int) : List Int := if okV width ws vs then patF ws vs width.toNat width.toNat (List.replicate ws.length 0) else []
end Go.PR
