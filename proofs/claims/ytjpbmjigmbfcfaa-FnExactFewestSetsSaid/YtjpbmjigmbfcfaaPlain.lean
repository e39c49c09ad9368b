/-
  Plain facts on lists of numbers. No condition.
-/
namespace Go.PR

theorem getD_mem {xs : List Int} {k : Nat} (h : k < xs.length) : xs.getD k 0 ∈ xs := by
  rw [List.getD_eq_getElem?_getD, List.getElem?_eq_getElem h]; exact List.getElem_mem h
theorem all_of_getD {xs : List Int} {p : Int → Prop} (h : ∀ j, j < xs.length → p (xs.getD j 0)) : ∀ x ∈ xs, p x := by
  intro x hx
  obtain ⟨j, hj, rfl⟩ := List.getElem_of_mem hx
  have := h j hj
  rwa [List.getD_eq_getElem?_getD, List.getElem?_eq_getElem hj] at this
theorem getD_eq {xs : List Int} {k : Nat} (h : k < xs.length) : xs.getD k 0 = xs[k] := by
  rw [List.getD_eq_getElem?_getD, List.getElem?_eq_getElem h]; rfl
theorem take_snoc {xs : List Int} {k : Nat} (h : k < xs.length) : xs.take (k + 1) = xs.take k ++ [xs.getD k 0] := by
  rw [List.take_succ_eq_append_getElem h, getD_eq h]
theorem drop_cons {xs : List Int} {k : Nat} (h : k < xs.length) : xs.drop k = xs.getD k 0 :: xs.drop (k + 1) := by
  rw [List.drop_eq_getElem_cons h, getD_eq h]
theorem eq_of_getD {xs ys : List Int} (hl : xs.length = ys.length) (h : ∀ j, j < xs.length → xs.getD j 0 = ys.getD j 0) : xs = ys := by
  apply List.ext_getElem hl
  intro i h1 h2
  have := h i h1
  rwa [getD_eq h1, getD_eq h2] at this

/-- the sum of the first k -/
def psum (xs : List Int) (k : Nat) : Int := (xs.take k).sum
theorem psum_zero (xs : List Int) : psum xs 0 = 0 := rfl
theorem psum_succ {xs : List Int} {k : Nat} (h : k < xs.length) : psum xs (k + 1) = psum xs k + xs.getD k 0 := by
  unfold psum; rw [take_snoc h]; simp
theorem psum_all (xs : List Int) : psum xs xs.length = xs.sum := by unfold psum; rw [List.take_length]
theorem psum_bound {xs : List Int} {lo hi : Int} (h : ∀ x ∈ xs, lo ≤ x ∧ x ≤ hi) (k : Nat) (hk : k ≤ xs.length) : lo * k ≤ psum xs k ∧ psum xs k ≤ hi * k := by
  induction k with
  | zero => simp [psum_zero]
  | succ k ih =>
    have h1 := ih (by omega)
    have h2 := h _ (getD_mem (xs := xs) (k := k) (by omega))
    rw [psum_succ (by omega)]
    have e1 : lo * ((k + 1 : Nat) : Int) = lo * k + lo := by rw [Int.natCast_succ, Int.mul_add, Int.mul_one]
    have e2 : hi * ((k + 1 : Nat) : Int) = hi * k + hi := by rw [Int.natCast_succ, Int.mul_add, Int.mul_one]
    omega

/-- a copy, half done -/
theorem copy_step {xs : List Int} {k : Nat} (h : k < xs.length) : (xs.take k ++ List.replicate (xs.length - k) 0).set k (xs.getD k 0) = xs.take (k + 1) ++ List.replicate (xs.length - (k + 1)) 0 := by
  rw [take_snoc h, show xs.length - k = (xs.length - (k + 1)) + 1 by omega, List.replicate_succ]
  have hl : (xs.take k).length = k := by simp; omega
  rw [List.set_append_right _ _ (by omega), hl]
  simp

/-- the numbers from k on, n of them -/
def marks (k : Int) : Nat → List Int
  | 0 => []
  | n + 1 => k :: marks (k + 1) n
theorem marks_length (n : Nat) : ∀ k, (marks k n).length = n := by
  induction n with
  | zero => intro k; rfl
  | succ n ih => intro k; simp [marks, ih]
theorem marks_getD (n : Nat) : ∀ (k : Int) (j : Nat), j < n → (marks k n).getD j 0 = k + j := by
  induction n with
  | zero => intro k j h; omega
  | succ n ih =>
    intro k j h
    cases j with
    | zero => simp [marks]
    | succ j =>
      have := ih (k + 1) j (by omega)
      simp only [marks, List.getD_cons_succ, this]
      omega
theorem marks_snoc (n : Nat) : ∀ k : Int, marks k (n + 1) = marks k n ++ [k + n] := by
  induction n with
  | zero => intro k; simp [marks]
  | succ n ih =>
    intro k
    have := ih (k + 1)
    rw [marks, this, marks]
    simp
    omega
theorem mark_step {xs : List Int} {k : Nat} (i : Int) (h : k < xs.length) : (marks i k ++ xs.drop k).set k (i + k) = marks i (k + 1) ++ xs.drop (k + 1) := by
  rw [drop_cons h, marks_snoc]
  have hl := marks_length k i
  rw [List.set_append_right _ _ (by omega), hl]
  simp

end Go.PR
