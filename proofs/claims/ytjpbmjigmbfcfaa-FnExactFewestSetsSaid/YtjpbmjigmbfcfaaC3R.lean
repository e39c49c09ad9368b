/-
  Slitting, in plain words, the third part: sums of products, patterns, wants, prices. No program here. No condition.
-/
import Derived.Test.YtjpbmjigmbfcfaaC3Q
namespace Go.PR

/-- the sum of the first k products -/
def dotN (a b : List Int) : Nat → Int
  | 0 => 0
  | k + 1 => dotN a b k + a.getD k 0 * b.getD k 0
theorem dotN_comm (a b : List Int) : ∀ k, dotN a b k = dotN b a k
  | 0 => rfl
  | k + 1 => by rw [dotN, dotN, dotN_comm a b k, Int.mul_comm]
theorem mul_bound {x y A B : Int} (hx : 0 ≤ x ∧ x ≤ A) (hy : 0 ≤ y ∧ y ≤ B) : 0 ≤ x * y ∧ x * y ≤ A * B :=
  ⟨Int.mul_nonneg hx.1 hy.1, Int.mul_le_mul hx.2 hy.2 hy.1 (by omega)⟩
theorem getD_bound {xs : List Int} {A : Int} (hA : 0 ≤ A) (h : ∀ x ∈ xs, 0 ≤ x ∧ x ≤ A) (k : Nat) : 0 ≤ xs.getD k 0 ∧ xs.getD k 0 ≤ A := by
  by_cases hk : k < xs.length
  · exact h _ (getD_mem hk)
  · rw [List.getD_eq_getElem?_getD, List.getElem?_eq_none (by omega)]; simp; exact hA
theorem dotN_bound {a b : List Int} {A B : Int} (hA : 0 ≤ A) (hB : 0 ≤ B) (ha : ∀ x ∈ a, 0 ≤ x ∧ x ≤ A) (hb : ∀ x ∈ b, 0 ≤ x ∧ x ≤ B) : ∀ k : Nat, 0 ≤ dotN a b k ∧ dotN a b k ≤ A * B * k
  | 0 => by simp [dotN]
  | k + 1 => by
    have ih := dotN_bound hA hB ha hb k
    have h1 := mul_bound (getD_bound hA ha k) (getD_bound hB hb k)
    have e : A * B * ((k + 1 : Nat) : Int) = A * B * k + A * B := by rw [Int.natCast_succ, Int.mul_add, Int.mul_one]
    rw [dotN]
    omega
theorem dotN_nonneg {a b : List Int} (ha : ∀ x ∈ a, 0 ≤ x) (hb : ∀ x ∈ b, 0 ≤ x) (k : Nat) : 0 ≤ a.getD k 0 * b.getD k 0 := by
  apply Int.mul_nonneg
  · by_cases hk : k < a.length
    · exact ha _ (getD_mem hk)
    · rw [List.getD_eq_getElem?_getD, List.getElem?_eq_none (by omega)]; simp
  · by_cases hk : k < b.length
    · exact hb _ (getD_mem hk)
    · rw [List.getD_eq_getElem?_getD, List.getElem?_eq_none (by omega)]; simp
theorem dotN_mono {a b : List Int} (ha : ∀ x ∈ a, 0 ≤ x) (hb : ∀ x ∈ b, 0 ≤ x) {k m : Nat} (h : k ≤ m) : dotN a b k ≤ dotN a b m := by
  induction m with
  | zero => have : k = 0 := by omega
            subst this; exact Int.le_refl _
  | succ m ih =>
    by_cases e : k = m + 1
    · subst e; exact Int.le_refl _
    · have := ih (by omega)
      have := dotN_nonneg ha hb m
      rw [dotN]; omega

def okP (width : Int) (ws cs : List Int) : Prop := okW width ws ∧ cs.length = ws.length ∧ (∀ x ∈ cs, 0 ≤ x) ∧ dotN cs ws cs.length ≤ width
instance (width : Int) (ws cs : List Int) : Decidable (okP width ws cs) := by unfold okP; infer_instance
theorem okP.pos {width : Int} {ws cs : List Int} (h : okP width ws cs) : ∀ x ∈ ws, 0 ≤ x := fun x hx => by have := h.1.2.2.1 x hx; omega
theorem okP.part {width : Int} {ws cs : List Int} (h : okP width ws cs) {k : Nat} (hk : k ≤ cs.length) : 0 ≤ dotN cs ws k ∧ dotN cs ws k ≤ width := by
  have h1 := dotN_mono h.2.2.1 h.pos (Nat.zero_le k)
  have h2 := dotN_mono h.2.2.1 h.pos hk
  have h3 := h.2.2.2
  rw [dotN] at h1
  omega
theorem okP.count {width : Int} {ws cs : List Int} (h : okP width ws cs) : ∀ x ∈ cs, 0 ≤ x ∧ x ≤ width := by
  apply all_of_getD
  intro k hk
  have h1 := h.part (k := k + 1) (by omega)
  have h2 := h.part (k := k) (by omega)
  have h3 := h.2.2.1 _ (getD_mem hk)
  have h4 := h.1.2.2.1 _ (getD_mem (xs := ws) (k := k) (by have := h.2.1; omega))
  rw [dotN] at h1
  have h5 : cs.getD k 0 * 1 ≤ cs.getD k 0 * ws.getD k 0 := Int.mul_le_mul_of_nonneg_left h4.1 h3
  omega
def trimF (width : Int) (ws cs : List Int) : Int := if okP width ws cs then width - dotN cs ws cs.length else -1

def okN (width : Int) (ws ns : List Int) : Prop := okW width ws ∧ ns.length = ws.length ∧ (∀ x ∈ ns, 0 ≤ x ∧ x ≤ 20) ∧ ns.sum ≤ 60
instance (width : Int) (ws ns : List Int) : Decidable (okN width ws ns) := by unfold okN; infer_instance

def useF (width : Int) (ws vs : List Int) : Int := if okV width ws vs then bv ws vs width.toNat else -1
theorem bv_bound {ws vs : List Int} (hv : ∀ x ∈ vs, 0 ≤ x ∧ x ≤ 100) (hl : vs.length = ws.length) (r : Nat) : 0 ≤ bv ws vs r ∧ bv ws vs r ≤ 100 * (r + 1) := by
  have := bestT_bound hv hl (r + 1) r
  rw [bestT_bv ws vs (by omega)] at this
  simpa using this
def priceF (width : Int) (ws ns vs : List Int) : Int :=
  if okN width ws ns ∧ okV width ws vs then (if dotN ns vs ns.length = 0 then 0 else (dotN ns vs ns.length + bv ws vs width.toNat - 1) / bv ws vs width.toNat) else -1
/-- a roll of a width with a value fits -/
theorem bv_pos {width : Int} {ws vs : List Int} (hV : okV width ws vs) {i : Nat} (hi : i < ws.length) (h : 0 < vs.getD i 0) : 0 < bv ws vs width.toNat := by
  have h1 := hV.1.2.2.1 _ (getD_mem hi)
  have h2 := bv_ge (vs := vs) (r := width.toNat) hi h1.1 (by omega)
  have h3 := bv_nonneg ws vs (width.toNat - (ws.getD i 0).toNat)
  omega
theorem dotN_pos {a b : List Int} (ha : ∀ x ∈ a, 0 ≤ x) (hb : ∀ x ∈ b, 0 ≤ x) : ∀ k, dotN a b k ≠ 0 → ∃ i, i < k ∧ 0 < b.getD i 0
  | 0, h => by simp [dotN] at h
  | k + 1, h => by
    by_cases e : dotN a b k = 0
    · rw [dotN, e] at h
      refine ⟨k, by omega, ?_⟩
      have h1 : b.getD k 0 ≠ 0 := fun e2 => by rw [e2] at h; simp at h
      have h2 : 0 ≤ b.getD k 0 := by
        by_cases hk : k < b.length
        · exact hb _ (getD_mem hk)
        · rw [List.getD_eq_getElem?_getD, List.getElem?_eq_none (by omega)]; simp
      omega
    · obtain ⟨i, h1, h2⟩ := dotN_pos ha hb k e
      exact ⟨i, by omega, h2⟩
end Go.PR
