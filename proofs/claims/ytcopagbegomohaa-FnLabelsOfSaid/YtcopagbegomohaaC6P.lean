/-
  Piles, in plain words: valid piles, labels, places. No program here. No condition.
-/
import Derived.Test.YtcopagbegomohaaPlain
import Derived.Test.YtcopagbegomohaaLib2
import Derived.Test.YtcopagbegomohaaLibS
namespace Go.PR

def nz (xs : List Int) : List Int := xs.filter (fun x => decide (x ≠ 0))
theorem nz_take {xs : List Int} {k : Nat} (h : k < xs.length) : nz (xs.take (k + 1)) = nz (xs.take k) ++ (if xs.getD k 0 = 0 then [] else [xs.getD k 0]) := by
  unfold nz
  rw [take_snoc h, List.filter_append]
  by_cases e : xs.getD k 0 = 0
  · rw [if_pos e, e]; simp
  · rw [if_neg e]; simp only [List.filter_cons, List.filter_nil, ne_eq, e, not_false_eq_true, decide_true, if_true]
theorem nz_length (xs : List Int) : (nz xs).length ≤ xs.length := List.length_filter_le _ _
/-- the labels, row by row -/
def labs (p : List (List Int)) : List Int := p.flatMap nz
theorem labs_take {p : List (List Int)} {r : Nat} (h : r < p.length) : labs (p.take (r + 1)) = labs (p.take r) ++ nz (p.getD r []) := by
  unfold labs
  rw [takeS_snoc h, List.flatMap_append]
  simp
theorem labs_length : ∀ p : List (List Int), (labs p).length ≤ totS p
  | [] => by simp [labs, totS]
  | x :: r => by
    have h1 := labs_length r
    have h2 := nz_length x
    simp only [labs, List.flatMap_cons, List.length_append, totS, List.map_cons, List.sum_cons] at h1 ⊢
    omega
def cellP (p : List (List Int)) (r i : Nat) : Int := (p.getD r []).getD i 0
def liesP (p : List (List Int)) (r i : Nat) : Prop := r = 0 ∨ (cellP p (r - 1) i ≠ 0 ∧ cellP p (r - 1) (i + 1) ≠ 0)
instance (p : List (List Int)) (r i : Nat) : Decidable (liesP p r i) := by unfold liesP; infer_instance
def before (p : List (List Int)) (r i : Nat) : List Int := labs (p.take r) ++ nz ((p.getD r []).take i)
theorem before_zero (p : List (List Int)) (r : Nat) : before p r 0 = labs (p.take r) := by simp [before, nz]
theorem before_all {p : List (List Int)} {r : Nat} (h : r < p.length) : before p r (p.getD r []).length = labs (p.take (r + 1)) := by
  rw [before, List.take_length, labs_take h]
theorem before_succ {p : List (List Int)} {r i : Nat} (h : i < (p.getD r []).length) : before p r (i + 1) = before p r i ++ (if cellP p r i = 0 then [] else [cellP p r i]) := by
  rw [before, nz_take h, ← List.append_assoc]; rfl
theorem before_length {p : List (List Int)} {r i : Nat} (h : r < p.length) (hi : i ≤ (p.getD r []).length) : (before p r i).length ≤ totS p := by
  have h1 := labs_length (p.take r)
  have h2 := nz_length ((p.getD r []).take i)
  have h3 := totS_take h
  have h4 := totS_le (xss := p) (r + 1)
  simp only [before, List.length_append]
  simp only [List.length_take] at h2
  omega
def okCell (p : List (List Int)) (r i : Nat) : Prop := (0 ≤ cellP p r i ∧ cellP p r i ≤ 9999) ∧ (cellP p r i ≠ 0 → cellP p r i ∉ before p r i ∧ liesP p r i)
instance (p : List (List Int)) (r i : Nat) : Decidable (okCell p r i) := by unfold okCell; infer_instance
def shapeP (p : List (List Int)) (r : Nat) : Prop := 1 ≤ (p.getD r []).length ∧ (p.getD r []).length + r = (p.getD 0 []).length
instance (p : List (List Int)) (r : Nat) : Decidable (shapeP p r) := by unfold shapeP; infer_instance
def okPile (p : List (List Int)) : Prop := p.length ≤ 6 ∧ (∀ r, r < p.length → shapeP p r ∧ (p.getD 0 []).length ≤ 6) ∧ ∀ r, r < p.length → ∀ i, i < (p.getD r []).length → okCell p r i
instance (p : List (List Int)) : Decidable (okPile p) := by unfold okPile; infer_instance
theorem okPile.len {p : List (List Int)} (h : okPile p) {r : Nat} (hr : r < p.length) : 1 ≤ (p.getD r []).length ∧ (p.getD r []).length ≤ 6 := by
  have h1 := h.2.1 r hr
  have h2 := h1.1.2
  have h3 := h1.1.1
  omega
/-- the row and the place of a number -/
def findP (a : Int) : List (List Int) → Int × Int
  | [] => (-1, -1)
  | x :: r => if 0 ≤ findI a x then (0, findI a x) else if (findP a r).1 < 0 then (-1, -1) else ((findP a r).1 + 1, (findP a r).2)
theorem findP_none {a : Int} : ∀ {p : List (List Int)}, (∀ r, r < p.length → findI a (p.getD r []) < 0) → findP a p = (-1, -1)
  | [], _ => rfl
  | x :: r, h => by
    have h0 := h 0 (by simp)
    have ih := findP_none (a := a) (p := r) (fun j hj => by have := h (j + 1) (by simpa using hj); simpa using this)
    rw [findP, if_neg (by simp at h0; omega), ih, if_pos (by simp)]
theorem findP_at {a : Int} : ∀ {p : List (List Int)} {k : Nat}, k < p.length → 0 ≤ findI a (p.getD k []) → (∀ r, r < k → findI a (p.getD r []) < 0) → findP a p = ((k : Int), findI a (p.getD k []))
  | [], k, h, _, _ => by simp at h
  | x :: r, 0, _, h, _ => by rw [findP, if_pos (by simpa using h)]; simp
  | x :: r, k + 1, h, h1, h2 => by
    have h0 := h2 0 (by omega)
    have ih := findP_at (a := a) (p := r) (k := k) (by simpa using h) (by simpa using h1) (fun j hj => by have := h2 (j + 1) (by omega); simpa using this)
    rw [findP, if_neg (by simp at h0; omega), ih, if_neg (by simp)]
    simp
theorem findP_get {a : Int} : ∀ {p : List (List Int)}, 0 ≤ (findP a p).1 → (findP a p).1.toNat < p.length ∧ 0 ≤ (findP a p).2 ∧ (findP a p).2 = findI a (p.getD (findP a p).1.toNat [])
  | [], h => by simp [findP] at h
  | x :: r, h => by
    rw [findP] at h ⊢
    by_cases h1 : 0 ≤ findI a x
    · simp only [if_pos h1] at h ⊢; simp [h1]
    · simp only [if_neg h1] at h ⊢
      by_cases h2 : (findP a r).1 < 0
      · simp only [if_pos h2] at h; omega
      · simp only [if_neg h2] at h ⊢
        have ih := findP_get (a := a) (p := r) (by omega)
        have e : ((findP a r).1 + 1).toNat = (findP a r).1.toNat + 1 := by omega
        rw [e]
        exact ⟨by simp; exact ih.1, ih.2.1, by simpa using ih.2.2⟩
/-- the place's number is there -/
theorem findP_cell {a : Int} {p : List (List Int)} (h : 0 ≤ (findP a p).1) : (findP a p).1.toNat < p.length ∧ (findP a p).2.toNat < (p.getD (findP a p).1.toNat []).length ∧ 0 ≤ (findP a p).2 ∧ cellP p (findP a p).1.toNat (findP a p).2.toNat = a := by
  obtain ⟨h1, h2, h3⟩ := findP_get h
  have h4 := findI_get (a := a) (xs := p.getD (findP a p).1.toNat []) (by omega)
  rw [← h3] at h4
  exact ⟨h1, h4.1, h2, h4.2⟩
theorem findP_found {a : Int} {p : List (List Int)} {r : Nat} (hr : r < p.length) (ha : a ∈ p.getD r []) : 0 ≤ (findP a p).1 := by
  induction p generalizing r with
  | nil => simp at hr
  | cons x q ih =>
    rw [findP]
    by_cases h1 : 0 ≤ findI a x
    · simp [h1]
    · rw [if_neg h1]
      cases r with
      | zero => exact absurd (findI_nonneg.2 (by simpa using ha)) h1
      | succ r =>
        have := ih (r := r) (by simpa using hr) (by simpa using ha)
        rw [if_neg (by omega)]
        show 0 ≤ (findP a q).1 + 1
        omega
def findF (p : List (List Int)) (a : Int) : Int × Int := if okPile p ∧ 1 ≤ a ∧ a ≤ 9999 then findP a p else (-1, -1)
def labelsF (p : List (List Int)) : List Int := if okPile p then labs p else []
theorem labelsF_len (p : List (List Int)) : (labelsF p).length ≤ totS p := by
  unfold labelsF
  split
  · exact labs_length p
  · simp
end Go.PR
