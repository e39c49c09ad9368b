/-
  Slitting, in plain words, the fourth part: the full patterns. No program here. No condition.
-/
import Derived.Test.YtjpbmjigmbfcfaaC3R
namespace Go.PR

def full (W : List Int) (left : Int) : Prop := ∀ x ∈ W, left < x
instance (W : List Int) (left : Int) : Decidable (full W left) := by unfold full; infer_instance
/-- f n, f (n - 1), .. f 0, one behind the other -/
def downTo {α : Type} (f : Nat → List α) : Nat → List α
  | 0 => f 0
  | n + 1 => f (n + 1) ++ downTo f n
theorem downTo_length {α : Type} {f : Nat → List α} {B : Nat} : ∀ n, (∀ k, k ≤ n → (f k).length ≤ B) → (downTo f n).length ≤ (n + 1) * B
  | 0, h => by have := h 0 (Nat.le_refl _); simp [downTo]; exact this
  | n + 1, h => by
    have h1 := h (n + 1) (Nat.le_refl _)
    have h2 := downTo_length (f := f) (B := B) n (fun k hk => h k (by omega))
    rw [downTo, List.length_append, Nat.succ_mul]
    omega
/-- f n, .. f (m + 1): what comes aheadL of f m -/
def aheadL {α : Type} (f : Nat → List α) (n : Nat) : Nat → List α
  | 0 => []
  | k + 1 => aheadL f n k ++ f (n - k)
theorem aheadL_all {α : Type} (f : Nat → List α) : ∀ n, aheadL f n (n + 1) = downTo f n := by
  have key : ∀ k n, k ≤ n → aheadL f n k ++ downTo f (n - k) = downTo f n := by
    intro k
    induction k with
    | zero => intro n _; simp [aheadL]
    | succ k ih =>
      intro n h
      have := ih n (by omega)
      rw [show n - k = (n - (k + 1)) + 1 by omega, downTo] at this
      rw [aheadL, ← this, show n - k = (n - (k + 1)) + 1 by omega, List.append_assoc]
  intro n
  have := key n n (Nat.le_refl _)
  rw [Nat.sub_self, downTo] at this
  rw [aheadL, Nat.sub_self, this]
theorem mem_downTo {α : Type} {f : Nat → List α} {x : α} : ∀ {n}, x ∈ downTo f n ↔ ∃ k, k ≤ n ∧ x ∈ f k
  | 0 => by
    simp only [downTo]
    constructor
    · intro h; exact ⟨0, Nat.le_refl _, h⟩
    · rintro ⟨k, hk, h⟩
      have : k = 0 := by omega
      subst this; exact h
  | n + 1 => by
    simp only [downTo, List.mem_append, mem_downTo (n := n)]
    constructor
    · rintro (h | ⟨k, hk, h⟩)
      · exact ⟨n + 1, Nat.le_refl _, h⟩
      · exact ⟨k, by omega, h⟩
    · rintro ⟨k, hk, h⟩
      by_cases e : k = n + 1
      · subst e; exact .inl h
      · exact .inr ⟨k, by omega, h⟩

/-- the patterns for the widths that are left, behind what is begun -/
def patsF (W : List Int) : List Int → Int → List Int → List (List Int)
  | [], left, b => if full W left then [b] else []
  | x :: r, left, b => downTo (fun n => patsF W r (left - n * x) (b ++ [(n : Int)])) (left / x).toNat
theorem toNat_div {left x : Int} (h0 : 0 ≤ left) (h1 : 1 ≤ x) {n : Nat} (hn : n ≤ (left / x).toNat) : 0 ≤ (n : Int) * x ∧ (n : Int) * x ≤ left := by
  have hd : 0 ≤ left / x := Int.ediv_nonneg h0 (by omega)
  have h2 := (Int.le_ediv_iff_mul_le (a := (n : Int)) (b := left) (c := x) (by omega)).1 (by omega)
  exact ⟨Int.mul_nonneg (by omega) (by omega), h2⟩
theorem patsF_length (W : List Int) : ∀ (r : List Int) (left : Int) (b : List Int), (∀ x ∈ r, 1 ≤ x) → 0 ≤ left → left ≤ 24 → (patsF W r left b).length ≤ 25 ^ r.length
  | [], left, b, _, _, _ => by rw [patsF]; split <;> simp
  | x :: r, left, b, hx, h0, h1 => by
    have hx1 := hx x (by simp)
    have hd : left / x ≤ left := Int.ediv_le_self _ h0
    have hd0 : 0 ≤ left / x := Int.ediv_nonneg h0 (by omega)
    rw [patsF]
    have := downTo_length (f := fun n => patsF W r (left - n * x) (b ++ [(n : Int)])) (B := 25 ^ r.length) (left / x).toNat (fun k hk => by
      have h2 := toNat_div h0 hx1 hk
      exact patsF_length W r _ _ (fun y hy => hx y (by simp [hy])) (by omega) (by omega))
    refine Nat.le_trans this ?_
    rw [List.length_cons, Nat.pow_succ, Nat.mul_comm]
    exact Nat.mul_le_mul_left _ (by omega)
theorem patsF_row (W : List Int) : ∀ (r : List Int) (left : Int) (b p : List Int), p ∈ patsF W r left b → p.length = b.length + r.length
  | [], left, b, p, h => by rw [patsF] at h; split at h <;> simp at h; subst h; simp
  | x :: r, left, b, p, h => by
    rw [patsF, mem_downTo] at h
    obtain ⟨k, _, h⟩ := h
    have := patsF_row W r _ _ p h
    simp at this ⊢
    omega
def fullF (width : Int) (ws : List Int) : List (List Int) := if okW width ws ∧ width ≤ 24 then patsF ws ws width [] else []
theorem fullF_len (width : Int) (ws : List Int) : (fullF width ws).length ≤ 244140625 := by
  unfold fullF
  split
  · rename_i h
    have h1 := patsF_length ws ws width [] (fun x hx => (h.1.2.2.1 x hx).1) (by have := h.1.1; omega) h.2
    have h2 : 25 ^ ws.length ≤ 25 ^ 6 := Nat.pow_le_pow_right (by omega) h.1.2.1.2
    have h3 : (25 : Nat) ^ 6 = 244140625 := by decide
    omega
  · simp
theorem fullF_row (width : Int) (ws : List Int) : ∀ p ∈ fullF width ws, p.length ≤ 6 ∧ p.length = ws.length := by
  intro p hp
  unfold fullF at hp
  split at hp
  · rename_i h
    have h1 := patsF_row ws ws width [] p hp
    have h2 := h.1.2.1.2
    simp at h1
    omega
  · simp at hp
end Go.PR
