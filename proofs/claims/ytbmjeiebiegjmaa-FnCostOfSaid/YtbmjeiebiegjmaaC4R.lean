/-
  Orders of knives and places of knives, in plain words: the way is the same both ways, an order backwards costs the same; the order of the nearest; the places that knives get. No program here. No condition.
-/
import Derived.Test.YtbmjeiebiegjmaaC4Q
namespace Go.PR

theorem dist_nonneg (x y : Int) : 0 ≤ dist x y := by unfold dist; omega
theorem W_diag (a b : List Int) : ∀ n, 0 ≤ W a b n n ∧ W a b n n = W b a n n
  | 0 => by simp [W_zero]
  | n + 1 => by
    obtain ⟨h1, h2⟩ := W_diag a b n
    have hd := dist_nonneg (a.getD n 0) (b.getD n 0)
    rw [W_step, W_step, W_few a b n (n + 1) (by omega), W_few b a n (n + 1) (by omega), if_pos ⟨h1, .inl (by omega)⟩, if_pos ⟨by omega, .inl (by omega)⟩, h2, dist_comm]
    rw [← h2]
    refine ⟨?_, rfl⟩
    rw [dist_comm]
    omega
theorem moveF_comm (a b : List Int) : moveF a b = moveF b a := by
  unfold moveF
  by_cases h : b.length < a.length
  · rw [if_pos h, if_neg (by omega)]
  · rw [if_neg h]
    by_cases h2 : a.length < b.length
    · rw [if_pos h2]
    · rw [if_neg h2]
      have : a.length = b.length := by omega
      rw [this]
      exact (W_diag a b b.length).2

/-- the sum of the first k values of f -/
def sumN (f : Nat → Int) : Nat → Int
  | 0 => 0
  | k + 1 => sumN f k + f k
theorem sumN_congr {f g : Nat → Int} : ∀ {n : Nat}, (∀ k, k < n → f k = g k) → sumN f n = sumN g n
  | 0, _ => rfl
  | n + 1, h => by rw [sumN, sumN, sumN_congr (n := n) (fun k hk => h k (by omega)), h n (by omega)]
theorem sumN_first (f : Nat → Int) : ∀ n, sumN f (n + 1) = f 0 + sumN (fun k => f (k + 1)) n
  | 0 => by simp [sumN]
  | n + 1 => by
    rw [sumN, sumN_first f n, sumN]
    omega
theorem sumN_back (f : Nat → Int) : ∀ n, sumN f n = sumN (fun k => f (n - 1 - k)) n
  | 0 => rfl
  | n + 1 => by
    rw [sumN_first (fun k => f (n + 1 - 1 - k)) n, sumN, sumN_back f n]
    have : sumN (fun k => f (n - 1 - k)) n = sumN (fun k => f (n + 1 - 1 - (k + 1))) n := sumN_congr fun k hk => by
      show f (n - 1 - k) = f (n + 1 - 1 - (k + 1))
      rw [show n + 1 - 1 - (k + 1) = n - 1 - k by omega]
    rw [this, show n + 1 - 1 - 0 = n by omega]
    omega
theorem costN_sum (xss : List (List Int)) (ord : List Int) : ∀ k, costN xss ord k = sumN (fun i => moveF (setAt xss ord i) (setAt xss ord (i + 1))) k
  | 0 => rfl
  | k + 1 => by rw [costN, sumN, costN_sum xss ord k]
theorem getD_reverse {xs : List Int} {k : Nat} (h : k < xs.length) : xs.reverse.getD k 0 = xs.getD (xs.length - 1 - k) 0 := by
  rw [List.getD_eq_getElem?_getD, List.getElem?_reverse h, ← List.getD_eq_getElem?_getD]
theorem costN_back (xss : List (List Int)) (ord : List Int) : costN xss ord.reverse (ord.length - 1) = costN xss ord (ord.length - 1) := by
  rw [costN_sum, costN_sum, sumN_back (fun i => moveF (setAt xss ord i) (setAt xss ord (i + 1)))]
  refine sumN_congr fun k hk => ?_
  show moveF (setAt xss ord.reverse k) (setAt xss ord.reverse (k + 1)) = moveF (setAt xss ord (ord.length - 1 - 1 - k)) (setAt xss ord (ord.length - 1 - 1 - k + 1))
  rw [moveF_comm]
  unfold setAt
  rw [getD_reverse (by omega), getD_reverse (by omega), show ord.length - 1 - (k + 1) = ord.length - 1 - 1 - k by omega, show ord.length - 1 - 1 - k + 1 = ord.length - 1 - k by omega]
theorem mem_take_iff {xs : List Int} {k : Nat} {x : Int} (hk : k ≤ xs.length) : x ∈ xs.take k ↔ ∃ i, i < k ∧ xs.getD i 0 = x := by
  constructor
  · intro h
    obtain ⟨i, hi, rfl⟩ := List.getElem_of_mem h
    simp only [List.length_take] at hi
    refine ⟨i, by omega, ?_⟩
    rw [getD_eq (by omega)]
    simp
  · rintro ⟨i, hi, rfl⟩
    have h1 : i < (xs.take k).length := by simp; omega
    have : (xs.take k).getD i 0 = xs.getD i 0 := by
      rw [getD_eq h1, getD_eq (by omega)]
      simp
    rw [← this]
    exact getD_mem h1
theorem once_iff {xs : List Int} : once xs ↔ ∀ i j, i < j → j < xs.length → xs.getD i 0 ≠ xs.getD j 0 := by
  constructor
  · intro h i j hij hj e
    exact h j hj ((mem_take_iff (by omega)).2 ⟨i, hij, e⟩)
  · intro h j hj hm
    obtain ⟨i, hi, e⟩ := (mem_take_iff (by omega)).1 hm
    exact h i j hi hj e
theorem okO.back {n : Int} {ord : List Int} (h : okO n ord) : okO n ord.reverse := by
  obtain ⟨h1, h2, h3⟩ := h
  refine ⟨by simpa using h1, fun x hx => h2 x (by simpa using hx), once_iff.2 fun i j hij hj => ?_⟩
  simp only [List.length_reverse] at hj
  rw [getD_reverse (by omega), getD_reverse hj]
  exact fun e => once_iff.1 h3 (ord.length - 1 - j) (ord.length - 1 - i) (by omega) (by omega) e.symm
theorem costF_back {xss : List (List Int)} {ord : List Int} (hs : okS 10 xss) (ho : okO xss.length ord) : costF xss ord.reverse = costF xss ord := by
  unfold costF
  rw [if_pos ⟨hs, ho.back⟩, if_pos ⟨hs, ho⟩, List.length_reverse, costN_back]
theorem costF_two {xss : List (List Int)} {ord : List Int} (hs : okS 10 xss) (ho : okO xss.length ord) (h2 : xss.length = 2) : costF xss ord = moveF (xss.getD 0 []) (xss.getD 1 []) := by
  have hl := ho.1
  have hl2 : ord.length = 2 := by omega
  have h0 := ho.2.1 _ (getD_mem (xs := ord) (k := 0) (by omega))
  have h1 := ho.2.1 _ (getD_mem (xs := ord) (k := 1) (by omega))
  have hne := once_iff.1 ho.2.2 0 1 (by omega) (by omega)
  unfold costF
  rw [if_pos ⟨hs, ho⟩, hl2]
  show 0 + moveF (setAt xss ord 0) (setAt xss ord 1) = _
  unfold setAt
  by_cases e : ord.getD 0 0 = 0
  · rw [e, show ord.getD 1 0 = 1 by omega, Int.zero_add]
    rfl
  · rw [show ord.getD 0 0 = 1 by omega, show ord.getD 1 0 = 0 by omega, Int.zero_add, moveF_comm]
    rfl
theorem costF_few {xss : List (List Int)} {ord : List Int} (hs : okS 10 xss) (ho : okO xss.length ord) (h2 : xss.length ≤ 1) : costF xss ord = 0 := by
  have hl := ho.1
  unfold costF
  rw [if_pos ⟨hs, ho⟩, show ord.length - 1 = 0 by omega]
  rfl

/-! ### The nearest one next -/

/-- the way from the last one of the order to the set i, 0 if there is none -/
def wayTo (xss : List (List Int)) (out : List Int) (i : Int) : Int := if out.length = 0 then 0 else moveF (setAt xss out (out.length - 1)) (xss.getD i.toNat [])
/-- the nearest one of the first k that are left, -1 if none is left -/
def nextN (xss : List (List Int)) (out : List Int) : Nat → Int
  | 0 => -1
  | k + 1 => if (k : Int) ∈ out then nextN xss out k else if nextN xss out k < 0 ∨ wayTo xss out k < wayTo xss out (nextN xss out k) then k else nextN xss out k
theorem nextN_range (xss : List (List Int)) (out : List Int) : ∀ k : Nat, -1 ≤ nextN xss out k ∧ nextN xss out k < k
  | 0 => by simp [nextN]
  | k + 1 => by
    have := nextN_range xss out k
    rw [nextN]
    split
    · omega
    · split <;> omega
theorem nextN_free (xss : List (List Int)) (out : List Int) : ∀ k : Nat, 0 ≤ nextN xss out k → nextN xss out k ∉ out
  | 0, h => by simp [nextN] at h
  | k + 1, h => by
    rw [nextN] at h ⊢
    by_cases h1 : (k : Int) ∈ out
    · rw [if_pos h1] at h ⊢
      exact nextN_free xss out k h
    · rw [if_neg h1] at h ⊢
      by_cases h2 : nextN xss out k < 0 ∨ wayTo xss out k < wayTo xss out (nextN xss out k)
      · rw [if_pos h2]; exact h1
      · rw [if_neg h2] at h ⊢
        exact nextN_free xss out k h
theorem nextN_least (xss : List (List Int)) (out : List Int) : ∀ k i : Nat, i < k → (i : Int) ∉ out → 0 ≤ nextN xss out k ∧ wayTo xss out (nextN xss out k) ≤ wayTo xss out i
  | 0, i, h, _ => by omega
  | k + 1, i, h, hi => by
    rw [nextN]
    by_cases h1 : (k : Int) ∈ out
    · rw [if_pos h1]
      exact nextN_least xss out k i (by by_cases e : i = k; · subst e; exact absurd h1 hi
                                        · omega) hi
    · rw [if_neg h1]
      by_cases h2 : nextN xss out k < 0 ∨ wayTo xss out k < wayTo xss out (nextN xss out k)
      · rw [if_pos h2]
        refine ⟨by omega, ?_⟩
        by_cases e : i = k
        · subst e; exact Int.le_refl _
        · have := nextN_least xss out k i (by omega) hi
          omega
      · rw [if_neg h2]
        by_cases e : i = k
        · subst e; omega
        · exact nextN_least xss out k i (by omega) hi
def nearN (xss : List (List Int)) : Nat → List Int
  | 0 => []
  | k + 1 => nearN xss k ++ [nextN xss (nearN xss k) xss.length]
theorem nearN_length (xss : List (List Int)) : ∀ k, (nearN xss k).length = k
  | 0 => rfl
  | k + 1 => by rw [nearN, List.length_append, nearN_length xss k]; rfl
theorem nearN_take (xss : List (List Int)) : ∀ n k, k ≤ n → (nearN xss n).take k = nearN xss k
  | 0, k, h => by have : k = 0 := by omega
                  subst this; rfl
  | n + 1, k, h => by
    by_cases e : k = n + 1
    · subst e
      rw [List.take_of_length_le (by rw [nearN_length]; omega)]
    · rw [nearN, List.take_append_of_le_length (by rw [nearN_length]; omega), nearN_take xss n k (by omega)]
theorem nearN_getD (xss : List (List Int)) {n k : Nat} (h : k < n) : (nearN xss n).getD k 0 = nextN xss (nearN xss k) xss.length := by
  have h1 := nearN_take xss n (k + 1) (by omega)
  have h2 : (nearN xss (k + 1)).getD k 0 = (nearN xss n).getD k 0 := by
    rw [← h1, getD_eq (by simp [nearN_length]; omega), getD_eq (by rw [nearN_length]; omega)]
    simp
  rw [← h2, nearN, List.getD_eq_getElem?_getD, List.getElem?_append_right (by rw [nearN_length]; omega), nearN_length]
  simp
/-- numbers below n, each once, fewer than n of them: one is left -/
theorem one_left : ∀ (n : Nat) (xs : List Int), xs.length < n → ∃ i : Nat, i < n ∧ (i : Int) ∉ xs
  | 0, xs, h => by omega
  | n + 1, xs, h => by
    by_cases hm : (n : Int) ∈ xs
    · obtain ⟨i, hi, hn⟩ := one_left n (xs.erase n) (by rw [List.length_erase_of_mem hm]; have : 0 < xs.length := List.length_pos_of_mem hm; omega)
      refine ⟨i, by omega, fun h2 => hn ?_⟩
      exact (List.mem_erase_of_ne (by omega)).2 h2
    · exact ⟨n, by omega, hm⟩
theorem nextN_nonneg {xss : List (List Int)} {out : List Int} (h : out.length < xss.length) : 0 ≤ nextN xss out xss.length := by
  obtain ⟨i, h1, h2⟩ := one_left _ _ h
  exact (nextN_least xss out _ i h1 h2).1
theorem nearN_ok (xss : List (List Int)) : ∀ k, k ≤ xss.length → (∀ x ∈ nearN xss k, 0 ≤ x ∧ x < xss.length) ∧ once (nearN xss k)
  | 0, _ => ⟨by simp [nearN], fun j hj => by simp [nearN] at hj⟩
  | k + 1, hk => by
    obtain ⟨h1, h2⟩ := nearN_ok xss k (by omega)
    have hb := nextN_range xss (nearN xss k) xss.length
    have hn := nextN_nonneg (xss := xss) (out := nearN xss k) (by rw [nearN_length]; omega)
    have hf := nextN_free xss (nearN xss k) _ hn
    refine ⟨fun x hx => ?_, fun j hj => ?_⟩
    · rw [nearN] at hx
      rcases List.mem_append.1 hx with h | h
      · exact h1 x h
      · simp at h; omega
    · rw [nearN_length] at hj
      rw [nearN_getD xss hj, nearN_take xss (k + 1) j (by omega)]
      by_cases e : j = k
      · subst e; exact hf
      · have := h2 j (by rw [nearN_length]; omega)
        rw [nearN_getD xss (by omega), nearN_take xss k j (by omega)] at this
        exact this
def nearF (xss : List (List Int)) : List Int := if okS 10 xss then nearN xss xss.length else []
theorem nearN_okO {xss : List (List Int)} : okO xss.length (nearN xss xss.length) :=
  ⟨by rw [nearN_length], (nearN_ok xss _ (Nat.le_refl _)).1, (nearN_ok xss _ (Nat.le_refl _)).2⟩
theorem nearF_len (xss : List (List Int)) : (nearF xss).length ≤ 10 := by
  unfold nearF
  split
  · next h => rw [nearN_length]; have := h.1; omega
  · simp
/-- none of those that are left is nearer than the next one -/
theorem near_next {xss : List (List Int)} {i k : Nat} (hi : 1 ≤ i) (hik : i ≤ k) (hk : k < xss.length) : moveF (setAt xss (nearN xss xss.length) (i - 1)) (setAt xss (nearN xss xss.length) i) ≤ moveF (setAt xss (nearN xss xss.length) (i - 1)) (setAt xss (nearN xss xss.length) k) := by
  have ho := nearN_okO (xss := xss)
  have hx := ho.2.1 _ (getD_mem (xs := nearN xss xss.length) (k := k) (by rw [nearN_length]; omega))
  have hl : (nearN xss i).length = i := nearN_length xss i
  have hnot : (((nearN xss xss.length).getD k 0).toNat : Int) ∉ nearN xss i := by
    rw [Int.toNat_of_nonneg hx.1, ← nearN_take xss xss.length i (by omega)]
    intro h
    obtain ⟨j, hj, e⟩ := (mem_take_iff (by rw [nearN_length]; omega)).1 h
    exact once_iff.1 ho.2.2 j k (by omega) (by rw [nearN_length]; omega) e
  have hb := (nextN_least xss (nearN xss i) xss.length _ (by omega) hnot).2
  unfold wayTo at hb
  rw [if_neg (by omega), if_neg (by omega), hl] at hb
  have e1 : setAt xss (nearN xss i) (i - 1) = setAt xss (nearN xss xss.length) (i - 1) := by
    unfold setAt
    rw [nearN_getD xss (by omega), nearN_getD xss (by omega)]
  rw [e1, ← nearN_getD xss (show i < xss.length by omega)] at hb
  rw [Int.toNat_natCast] at hb
  exact hb
theorem nextN_empty (xss : List (List Int)) : ∀ k, 1 ≤ k → nextN xss [] k = 0
  | 0, h => by omega
  | 1, _ => by simp [nextN]
  | k + 2, _ => by
    rw [nextN, nextN_empty xss (k + 1) (by omega)]
    simp [wayTo]
theorem nearN_one {xss : List (List Int)} (h : 1 ≤ xss.length) : nearN xss 1 = [0] := by
  show [] ++ [nextN xss [] xss.length] = [0]
  rw [nextN_empty xss _ h]; rfl
end Go.PR
