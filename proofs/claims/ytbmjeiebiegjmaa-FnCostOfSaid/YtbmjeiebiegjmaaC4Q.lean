/-
  Ways of knives, in plain words: the least way W of the first i places of a list to the first j of another one. No program here. No condition.
-/
import Derived.Test.YtbmjeiebiegjmaaC4P
namespace Go.PR

def dist (x y : Int) : Int := max (x - y) (y - x)
theorem dist_comm (x y : Int) : dist x y = dist y x := by unfold dist; omega
/-- the least way, -1 if the places are too few -/
def W (a b : List Int) : Nat → Nat → Int
  | 0, _ => 0
  | _ + 1, 0 => -1
  | i + 1, j + 1 => if 0 ≤ W a b i j ∧ (W a b (i + 1) j < 0 ∨ W a b i j + dist (a.getD i 0) (b.getD j 0) < W a b (i + 1) j) then W a b i j + dist (a.getD i 0) (b.getD j 0) else W a b (i + 1) j
theorem W_zero (a b : List Int) (j : Nat) : W a b 0 j = 0 := by cases j <;> rfl
theorem W_left (a b : List Int) (i : Nat) : W a b (i + 1) 0 = -1 := rfl
theorem W_step (a b : List Int) (i j : Nat) : W a b (i + 1) (j + 1) = if 0 ≤ W a b i j ∧ (W a b (i + 1) j < 0 ∨ W a b i j + dist (a.getD i 0) (b.getD j 0) < W a b (i + 1) j) then W a b i j + dist (a.getD i 0) (b.getD j 0) else W a b (i + 1) j := rfl
theorem W_few (a b : List Int) : ∀ j i, j < i → W a b i j = -1
  | 0, 0, h => by omega
  | 0, i + 1, _ => rfl
  | j + 1, 0, h => by omega
  | j + 1, i + 1, h => by
    rw [W_step, W_few a b j i (by omega), W_few a b j (i + 1) (by omega), if_neg (by omega)]
/-- the places of a, b lie in 0..60 -/
def In60 (a : List Int) : Prop := ∀ x ∈ a, 0 ≤ x ∧ x ≤ 60
theorem dist_bound {a b : List Int} (ha : In60 a) (hb : In60 b) (i j : Nat) : 0 ≤ dist (a.getD i 0) (b.getD j 0) ∧ dist (a.getD i 0) (b.getD j 0) ≤ 60 := by
  have h1 := getD_bound (A := 60) (by omega) ha i
  have h2 := getD_bound (A := 60) (by omega) hb j
  unfold dist
  omega
theorem W_bound {a b : List Int} (ha : In60 a) (hb : In60 b) : ∀ j i, i ≤ j → 0 ≤ W a b i j ∧ W a b i j ≤ 60 * i
  | j, 0, _ => by rw [W_zero]; omega
  | 0, i + 1, h => by omega
  | j + 1, i + 1, h => by
    have h1 := W_bound ha hb j i (by omega)
    have h2 := dist_bound ha hb i j
    rw [W_step]
    by_cases e : i + 1 ≤ j
    · have h3 := W_bound ha hb j (i + 1) e
      split <;> (push_cast at *; omega)
    · rw [W_few a b j (i + 1) (by omega), if_pos ⟨h1.1, .inl (by omega)⟩]
      push_cast
      omega
/-- the same, far too much if the places are too few -/
def V (a b : List Int) (i j : Nat) : Int := if j < i then 1441 else W a b i j
theorem V_zero (a b : List Int) (j : Nat) : V a b 0 j = 0 := by unfold V; rw [if_neg (by omega), W_zero]
theorem V_few (a b : List Int) {i j : Nat} (h : j < i) : V a b i j = 1441 := by unfold V; rw [if_pos h]
theorem V_step {a b : List Int} (ha : In60 a) (hb : In60 b) {i j : Nat} (hi : i ≤ j) (hl : i < 24) : V a b (i + 1) (j + 1) = min (V a b (i + 1) j) (V a b i j + dist (a.getD i 0) (b.getD j 0)) := by
  have h1 := W_bound ha hb j i hi
  have h2 := dist_bound ha hb i j
  unfold V
  rw [if_neg (show ¬ j + 1 < i + 1 by omega), if_neg (show ¬ j < i by omega), W_step]
  by_cases e : j < i + 1
  · rw [if_pos e, W_few a b j (i + 1) (by omega), if_pos (by omega)]
    omega
  · have h3 := W_bound ha hb j (i + 1) (by omega)
    rw [if_neg e]
    split <;> omega
theorem V_bound {a b : List Int} (ha : In60 a) (hb : In60 b) {i : Nat} (hl : i ≤ 24) (j : Nat) : 0 ≤ V a b i j ∧ V a b i j ≤ 1441 := by
  unfold V
  split
  · omega
  · have := W_bound ha hb j i (by omega); omega

/-- a table of m + 1 places in each of n + 1 rows -/
def Tab (X : List (List Int)) (n m : Nat) (f : Nat → Nat → Int) : Prop := X.length = n + 1 ∧ ∀ i, i ≤ n → (X.getD i []).length = m + 1 ∧ ∀ j, j ≤ m → (X.getD i []).getD j 0 = f i j

/-- the least way of knives -/
def moveF (a b : List Int) : Int := if b.length < a.length then W b a b.length a.length else W a b a.length b.length
theorem moveF_bound {a b : List Int} (ha : okK a) (hb : okK b) : 0 ≤ moveF a b ∧ moveF a b ≤ 1440 := by
  have h1 := ha.1
  have h2 := hb.1
  unfold moveF
  split
  · have := W_bound hb.2.1 ha.2.1 a.length b.length (by omega); omega
  · have := W_bound ha.2.1 hb.2.1 b.length a.length (by omega); omega
def wayF (a b : List Int) : Int := if okK a ∧ okK b then moveF a b else -1

def okS (most : Int) (xss : List (List Int)) : Prop := xss.length ≤ most ∧ ∀ x ∈ xss, okK x
instance (most : Int) (xss : List (List Int)) : Decidable (okS most xss) := by unfold okS; infer_instance
def okO (n : Int) (ord : List Int) : Prop := ord.length = n ∧ (∀ x ∈ ord, 0 ≤ x ∧ x < n) ∧ once ord
instance (n : Int) (ord : List Int) : Decidable (okO n ord) := by unfold okO; infer_instance
def setAt (xss : List (List Int)) (ord : List Int) (k : Nat) : List Int := xss.getD (ord.getD k 0).toNat []
def costN (xss : List (List Int)) (ord : List Int) : Nat → Int
  | 0 => 0
  | k + 1 => costN xss ord k + moveF (setAt xss ord k) (setAt xss ord (k + 1))
def costF (xss : List (List Int)) (ord : List Int) : Int := if okS 10 xss ∧ okO xss.length ord then costN xss ord (ord.length - 1) else -1
theorem okS.at {most : Int} {xss : List (List Int)} (h : okS most xss) {i : Nat} (hi : i < xss.length) : okK (xss.getD i []) := by
  refine h.2 _ ?_
  rw [List.getD_eq_getElem?_getD, List.getElem?_eq_getElem hi]
  exact List.getElem_mem hi
theorem okS.setAt {most : Int} {xss : List (List Int)} {ord : List Int} (h : okS most xss) (ho : okO xss.length ord) {k : Nat} (hk : k < ord.length) : okK (setAt xss ord k) := by
  have := ho.2.1 _ (getD_mem hk)
  exact h.at (by omega)
theorem costN_bound {most : Int} {xss : List (List Int)} {ord : List Int} (h : okS most xss) (ho : okO xss.length ord) : ∀ k, k < ord.length → 0 ≤ costN xss ord k ∧ costN xss ord k ≤ 1440 * k
  | 0, _ => by simp [costN]
  | k + 1, hk => by
    have ih := costN_bound h ho k (by omega)
    have := moveF_bound (h.setAt ho (k := k) (by omega)) (h.setAt ho hk)
    rw [costN]
    push_cast
    omega
theorem once_step {xs : List Int} {n : Nat} (h : ∀ j, j < n → xs.getD j 0 ∉ xs.take j) (hn : n = xs.length) : once xs := fun j hj => h j (by omega)
end Go.PR
