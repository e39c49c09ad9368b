/-
  The places that knives get, in plain words: they ascend, their ways are the least way, and no free place is nearer. No program here. No condition.
-/
import Derived.Test.YtbmjeiebiegjmaaC4R
namespace Go.PR

theorem W_nonneg (a b : List Int) : ∀ j i, i ≤ j → 0 ≤ W a b i j
  | j, 0, _ => by rw [W_zero]; omega
  | 0, i + 1, h => by omega
  | j + 1, i + 1, h => by
    have h1 := W_nonneg a b j i (by omega)
    have hd := dist_nonneg (a.getD i 0) (b.getD j 0)
    rw [W_step]
    split
    · omega
    · next h2 =>
      by_cases e : W a b (i + 1) j < 0
      · exact absurd ⟨h1, .inl e⟩ h2
      · omega
theorem W_take (a b : List Int) {i j : Nat} (h : i ≤ j) : W a b (i + 1) (j + 1) ≤ W a b i j + dist (a.getD i 0) (b.getD j 0) := by
  have h1 := W_nonneg a b j i h
  rw [W_step]
  split
  · omega
  · next h2 =>
    apply Decidable.byContradiction
    intro h3
    exact h2 ⟨h1, .inr (by omega)⟩
theorem W_leave (a b : List Int) {i j : Nat} (h : i + 1 ≤ j) : W a b (i + 1) (j + 1) ≤ W a b (i + 1) j := by
  have h1 := W_nonneg a b j (i + 1) h
  rw [W_step]
  split
  · next h2 => omega
  · omega
def hit (a b : List Int) (i j : Nat) : Prop := W a b (i + 1) (j + 1) = W a b i j + dist (a.getD i 0) (b.getD j 0)
instance (a b : List Int) (i j : Nat) : Decidable (hit a b i j) := by unfold hit; infer_instance
theorem hit_diag (a b : List Int) (i : Nat) : hit a b i i := by
  have h1 := W_nonneg a b i i (Nat.le_refl _)
  unfold hit
  rw [W_step, W_few a b i (i + 1) (by omega), if_pos ⟨h1, .inl (by omega)⟩]
theorem not_hit {a b : List Int} {i j : Nat} (h : ¬ hit a b i j) : W a b (i + 1) (j + 1) = W a b (i + 1) j := by
  unfold hit at h
  rw [W_step] at h ⊢
  split
  · next h2 => rw [if_pos h2] at h; exact absurd rfl h
  · rfl
/-- the place that the knife i gets if there are j places -/
def stop (a b : List Int) (i : Nat) : Nat → Nat
  | 0 => 0
  | j + 1 => if hit a b i j then j else stop a b i j
theorem stop_ok (a b : List Int) (i : Nat) : ∀ j, i < j → i ≤ stop a b i j ∧ stop a b i j < j ∧ hit a b i (stop a b i j) ∧ W a b (i + 1) (stop a b i j + 1) = W a b (i + 1) j
  | 0, h => by omega
  | j + 1, h => by
    rw [stop]
    by_cases e : hit a b i j
    · rw [if_pos e]
      exact ⟨by omega, by omega, e, rfl⟩
    · rw [if_neg e]
      have hne : i ≠ j := fun h => e (h ▸ hit_diag a b i)
      obtain ⟨h1, h2, h3, h4⟩ := stop_ok a b i j (by omega)
      exact ⟨h1, by omega, h3, by rw [h4, not_hit e]⟩
/-- the places, from the last knife on -/
def pBack (a b : List Int) (n m : Nat) : Nat → Nat
  | 0 => m
  | t + 1 => stop a b (n - 1 - t) (pBack a b n m t)
def pAt (a b : List Int) (n m i : Nat) : Nat := pBack a b n m (n - i)
theorem pAt_end (a b : List Int) (n m : Nat) : pAt a b n m n = m := by unfold pAt; rw [Nat.sub_self]; rfl
theorem pAt_step (a b : List Int) {n : Nat} (m : Nat) {i : Nat} (h : i < n) : pAt a b n m i = stop a b i (pAt a b n m (i + 1)) := by
  unfold pAt
  rw [show n - i = (n - (i + 1)) + 1 by omega, pBack, show n - 1 - (n - (i + 1)) = i by omega]
theorem pAt_ge (a b : List Int) {n m : Nat} (h : n ≤ m) : ∀ d i, i + d = n → i ≤ pAt a b n m i
  | 0, i, hd => by
    have : i = n := by omega
    subst this
    rw [pAt_end]; exact h
  | d + 1, i, hd => by
    rw [pAt_step a b m (show i < n by omega)]
    exact (stop_ok a b i _ (pAt_ge a b h d (i + 1) (by omega))).1
theorem pAt_ok (a b : List Int) {n m i : Nat} (h : n ≤ m) (hi : i < n) : i ≤ pAt a b n m i ∧ pAt a b n m i < pAt a b n m (i + 1) ∧ hit a b i (pAt a b n m i) ∧ W a b (i + 1) (pAt a b n m i + 1) = W a b (i + 1) (pAt a b n m (i + 1)) := by
  have := pAt_ge a b h (n - (i + 1)) (i + 1) (by omega)
  rw [pAt_step a b m hi]
  exact stop_ok a b i _ this
theorem pAt_mono (a b : List Int) {n m : Nat} (h : n ≤ m) : ∀ d i, i + d ≤ n → pAt a b n m i + d ≤ pAt a b n m (i + d)
  | 0, i, _ => Nat.le_refl _
  | d + 1, i, hd => by
    have h1 := pAt_mono a b h d i (by omega)
    have h2 := (pAt_ok a b h (show i + d < n by omega)).2.1
    show pAt a b n m i + (d + 1) ≤ pAt a b n m (i + d + 1)
    omega
theorem pAt_lt (a b : List Int) {n m i k : Nat} (h : n ≤ m) (hik : i < k) (hk : k ≤ n) : pAt a b n m i < pAt a b n m k := by
  have := pAt_mono a b h (k - i) i (by omega)
  rw [show i + (k - i) = k by omega] at this
  omega
theorem pAt_max (a b : List Int) {n m i : Nat} (h : n ≤ m) (hi : i < n) : pAt a b n m i < m := by
  have := pAt_lt a b h hi (Nat.le_refl _)
  rwa [pAt_end] at this
/-- the way of the knife i to the place q i -/
def wq (a b : List Int) (q : Nat → Nat) (i : Nat) : Int := dist (a.getD i 0) (b.getD (q i) 0)
theorem pAt_sum (a b : List Int) {n m : Nat} (h : n ≤ m) : ∀ i, i ≤ n → sumN (wq a b (pAt a b n m)) i = W a b i (pAt a b n m i)
  | 0, _ => by rw [W_zero]; rfl
  | i + 1, hi => by
    obtain ⟨h1, h2, h3, h4⟩ := pAt_ok a b h (show i < n by omega)
    unfold hit at h3
    rw [sumN, pAt_sum a b h i (by omega), ← h4, h3]
    rfl
/-- no ascending places have a lesser way -/
theorem W_least (a b : List Int) (q : Nat → Nat) : ∀ m n, (∀ i, i + 1 < n → q i < q (i + 1)) → (0 < n → q (n - 1) < m) → W a b n m ≤ sumN (wq a b q) n
  | m, 0, _, _ => by rw [W_zero]; exact Int.le_refl _
  | 0, n + 1, _, h => by have := h (by omega); omega
  | m + 1, n + 1, h1, h2 => by
    have hge : ∀ i, i < n + 1 → i ≤ q i := by
      intro i
      induction i with
      | zero => intro _; omega
      | succ i ih => intro hi; have := ih (by omega); have := h1 i hi; omega
    have hq := h2 (by omega)
    rw [Nat.add_sub_cancel] at hq
    have hqn := hge n (by omega)
    by_cases e : q n = m
    · have ih := W_least a b q m n (fun i hi => h1 i (by omega)) (fun h0 => by have := h1 (n - 1) (by omega); rw [show n - 1 + 1 = n by omega] at this; omega)
      have := W_take a b (i := n) (j := m) (by omega)
      rw [sumN]
      unfold wq at *
      rw [e]
      omega
    · have ih := W_least a b q m (n + 1) h1 (fun _ => by rw [Nat.add_sub_cancel]; omega)
      have := W_leave a b (i := n) (j := m) (by omega)
      omega
theorem dist_shift {x y u v : Int} (h1 : x ≤ y) (h2 : u ≤ v) : dist v y - dist v x ≤ dist u y - dist u x := by
  unfold dist; omega
theorem asc_le {xs : List Int} (h : asc xs) : ∀ d i, i + d < xs.length → xs.getD i 0 ≤ xs.getD (i + d) 0
  | 0, i, _ => Int.le_refl _
  | d + 1, i, hd => by
    have h1 := asc_le h d i (by omega)
    have h2 := h (i + d) (by omega)
    rw [← Nat.add_assoc]
    omega
theorem asc_mono {xs : List Int} (h : asc xs) {i j : Nat} (hij : i ≤ j) (hj : j < xs.length) : xs.getD i 0 ≤ xs.getD j 0 := by
  have := asc_le h (j - i) i (by omega)
  rwa [show i + (j - i) = j by omega] at this

/-- the last one below k, from i on -/
theorem last_below (p : Nat → Nat) (n k : Nat) : ∀ d i, i + d + 1 = n → p i < k → (∀ t, t < n → p t ≠ k) → (∀ t u, t < u → u < n → p t < p u) → ∃ j, i ≤ j ∧ j < n ∧ p j < k ∧ ∀ t, j < t → t < n → k < p t
  | 0, i, h, hi, _, _ => ⟨i, by omega, by omega, hi, fun t h1 h2 => by omega⟩
  | d + 1, i, h, hi, hne, hm => by
    by_cases e : p (i + 1) < k
    · obtain ⟨j, h1, h2, h3, h4⟩ := last_below p n k d (i + 1) (by omega) e hne hm
      exact ⟨j, by omega, h2, h3, h4⟩
    · refine ⟨i, by omega, by omega, hi, fun t h1 h2 => ?_⟩
      have h5 := hne (i + 1) (by omega)
      by_cases e2 : t = i + 1
      · subst e2; omega
      · have := hm (i + 1) t (by omega) h2
        omega
theorem first_above (p : Nat → Nat) (k : Nat) : ∀ i, k < p i → (∀ t, t < i → p t ≠ k) → (∀ t u, t < u → u ≤ i → p t < p u) → ∃ j, j ≤ i ∧ k < p j ∧ ∀ t, t < j → p t < k
  | 0, h, _, _ => ⟨0, by omega, h, fun t ht => by omega⟩
  | i + 1, h, hne, hm => by
    by_cases e : k < p i
    · obtain ⟨j, h1, h2, h3⟩ := first_above p k i e (fun t ht => hne t (by omega)) (fun t u h1 h2 => hm t u h1 (by omega))
      exact ⟨j, by omega, h2, h3⟩
    · refine ⟨i + 1, by omega, h, fun t ht => ?_⟩
      have h5 := hne i (by omega)
      by_cases e2 : t = i
      · subst e2; omega
      · have := hm t i (by omega) (by omega)
        omega
def shiftUp (p : Nat → Nat) (i j k t : Nat) : Nat := if t < i ∨ j < t then p t else if t = j then k else p (t + 1)
def shiftDn (p : Nat → Nat) (j i k t : Nat) : Nat := if t < j ∨ i < t then p t else if t = j then k else p (t - 1)

theorem sum_up {a b : List Int} (ha : asc a) (hb : asc b) (p : Nat → Nat) {n m i j k : Nat} (hn : n = a.length) (hm : m = b.length) (hmono : ∀ t u, t < u → u < n → p t < p u) (hmax : ∀ t, t < n → p t < m) (hij : i ≤ j) (hj : j < n) (hpj : p j < k) (hk : k < m) :
    ∀ s, s ≤ n → (s ≤ i → sumN (wq a b (shiftUp p i j k)) s = sumN (wq a b p) s) ∧ (i < s → sumN (wq a b (shiftUp p i j k)) s - sumN (wq a b p) s ≤ dist (a.getD i 0) (b.getD (shiftUp p i j k (min (s - 1) j)) 0) - dist (a.getD i 0) (b.getD (p i) 0))
  | 0, _ => ⟨fun _ => rfl, fun h => by omega⟩
  | s + 1, hs => by
    obtain ⟨ih1, ih2⟩ := sum_up ha hb p hn hm hmono hmax hij hj hpj hk s (by omega)
    refine ⟨fun h => ?_, fun h => ?_⟩
    · rw [sumN, sumN, ih1 (by omega)]
      have : shiftUp p i j k s = p s := by unfold shiftUp; rw [if_pos (.inl (by omega))]
      unfold wq
      rw [this]
    · rw [sumN, sumN, Nat.add_sub_cancel]
      by_cases e : j < s
      · have h1 : shiftUp p i j k s = p s := by unfold shiftUp; rw [if_pos (.inr e)]
        have h2 := ih2 (by omega)
        rw [show min (s - 1) j = j by omega] at h2
        rw [show min s j = j by omega]
        unfold wq at *
        rw [h1]
        omega
      · rw [show min s j = s by omega]
        have hle : p s ≤ shiftUp p i j k s := by
          unfold shiftUp
          rw [if_neg (by omega)]
          split
          · next h3 => subst h3; omega
          · have := hmono s (s + 1) (by omega) (by omega); omega
        have hlt : shiftUp p i j k s < m := by
          unfold shiftUp
          rw [if_neg (by omega)]
          split
          · exact hk
          · exact hmax _ (by omega)
        have h3 := asc_mono hb hle (by omega)
        have h4 := asc_mono ha (show i ≤ s by omega) (by omega)
        have h5 := dist_shift h3 h4
        by_cases e2 : s = i
        · subst e2
          have := ih1 (Nat.le_refl _)
          unfold wq at *
          omega
        · have h6 := ih2 (by omega)
          have h7 : shiftUp p i j k (min (s - 1) j) = p s := by
            rw [show min (s - 1) j = s - 1 by omega]
            unfold shiftUp
            rw [if_neg (by omega), if_neg (by omega), show s - 1 + 1 = s by omega]
          rw [h7] at h6
          unfold wq at *
          omega
theorem sum_dn {a b : List Int} (ha : asc a) (hb : asc b) (p : Nat → Nat) {n m i j k : Nat} (hn : n = a.length) (hm : m = b.length) (hmono : ∀ t u, t < u → u < n → p t < p u) (hmax : ∀ t, t < n → p t < m) (hij : j ≤ i) (hi : i < n) (hpj : k < p j) :
    ∀ s, s ≤ n → (s ≤ j → sumN (wq a b (shiftDn p j i k)) s = sumN (wq a b p) s) ∧ (j < s → sumN (wq a b (shiftDn p j i k)) s - sumN (wq a b p) s ≤ dist (a.getD i 0) (b.getD k 0) - dist (a.getD i 0) (b.getD (p (min (s - 1) i)) 0))
  | 0, _ => ⟨fun _ => rfl, fun h => by omega⟩
  | s + 1, hs => by
    obtain ⟨ih1, ih2⟩ := sum_dn ha hb p hn hm hmono hmax hij hi hpj s (by omega)
    refine ⟨fun h => ?_, fun h => ?_⟩
    · rw [sumN, sumN, ih1 (by omega)]
      have : shiftDn p j i k s = p s := by unfold shiftDn; rw [if_pos (.inl (by omega))]
      unfold wq
      rw [this]
    · rw [sumN, sumN, Nat.add_sub_cancel]
      by_cases e : i < s
      · have h1 : shiftDn p j i k s = p s := by unfold shiftDn; rw [if_pos (.inr e)]
        have h2 := ih2 (by omega)
        rw [show min (s - 1) i = i by omega] at h2
        rw [show min s i = i by omega]
        unfold wq at *
        rw [h1]
        omega
      · rw [show min s i = s by omega]
        have hle : shiftDn p j i k s ≤ p s := by
          unfold shiftDn
          rw [if_neg (by omega)]
          split
          · next h3 => subst h3; omega
          · have := hmono (s - 1) s (by omega) (by omega); omega
        have h3 := asc_mono hb hle (by have := hmax s (by omega); omega)
        have h4 := asc_mono ha (show s ≤ i by omega) (by omega)
        have h5 := dist_shift h3 h4
        by_cases e2 : s = j
        · subst e2
          have h6 := ih1 (Nat.le_refl _)
          have h7 : shiftDn p s i k s = k := by unfold shiftDn; rw [if_neg (by omega), if_pos rfl]
          unfold wq at *
          rw [h7] at h5 ⊢
          omega
        · have h6 := ih2 (by omega)
          have h7 : shiftDn p j i k s = p (s - 1) := by
            unfold shiftDn
            rw [if_neg (by omega), if_neg e2]
          rw [show min (s - 1) i = s - 1 by omega] at h6
          unfold wq at *
          rw [h7] at h5 ⊢
          omega
/-- no free place is nearer -/
theorem pAt_other {a b : List Int} (ha : asc a) (hb : asc b) (hl : a.length ≤ b.length) {i k : Nat} (hi : i < a.length) (hk : k < b.length) (hfree : ∀ t, t < a.length → pAt a b a.length b.length t ≠ k) :
    dist (a.getD i 0) (b.getD (pAt a b a.length b.length i) 0) ≤ dist (a.getD i 0) (b.getD k 0) := by
  have hmono : ∀ t u, t < u → u < a.length → pAt a b a.length b.length t < pAt a b a.length b.length u := fun t u h1 h2 => pAt_lt a b hl h1 (by omega)
  have hmax : ∀ t, t < a.length → pAt a b a.length b.length t < b.length := fun t ht => pAt_max a b hl ht
  have hsum := pAt_sum a b hl a.length (Nat.le_refl _)
  rw [pAt_end] at hsum
  generalize hp : pAt a b a.length b.length = p at *
  have hne := hfree i hi
  by_cases e : p i < k
  · obtain ⟨j, h1, h2, h3, h4⟩ := last_below p a.length k (a.length - i - 1) i (by omega) e hfree hmono
    have hS := (sum_up ha hb p rfl rfl hmono hmax h1 h2 h3 hk a.length (Nat.le_refl _)).2 hi
    rw [show min (a.length - 1) j = j by omega, show shiftUp p i j k j = k by unfold shiftUp; rw [if_neg (by omega), if_pos rfl]] at hS
    have hL := W_least a b (shiftUp p i j k) b.length a.length (fun t ht => by
      unfold shiftUp
      have h5 := hmono t (t + 1) (by omega) (by omega)
      by_cases c1 : t < i ∨ j < t
      · rw [if_pos c1]
        by_cases c2 : t + 1 < i ∨ j < t + 1
        · rw [if_pos c2]; exact h5
        · rw [if_neg c2]
          split
          · next c4 => rw [← c4] at h3; omega
          · have := hmono (t + 1) (t + 1 + 1) (by omega) (by omega); omega
      · rw [if_neg c1]
        by_cases c3 : t = j
        · rw [if_pos c3, if_pos (.inr (by omega))]
          exact h4 _ (by omega) ht
        · rw [if_neg c3, if_neg (by omega)]
          split
          · next c4 => rw [c4]; exact h3
          · exact hmono _ _ (by omega) (by omega)) (fun h0 => by
      unfold shiftUp
      split
      · exact hmax _ (by omega)
      · split
        · exact hk
        · exact hmax _ (by omega))
    omega
  · obtain ⟨j, h1, h2, h3⟩ := first_above p k i (by omega) (fun t ht => hfree t (by omega)) (fun t u h1 h2 => hmono t u h1 (by omega))
    have hS := (sum_dn ha hb p rfl rfl hmono hmax h1 hi h2 a.length (Nat.le_refl _)).2 (by omega)
    rw [show min (a.length - 1) i = i by omega] at hS
    have hL := W_least a b (shiftDn p j i k) b.length a.length (fun t ht => by
      unfold shiftDn
      have h5 := hmono t (t + 1) (by omega) (by omega)
      by_cases c1 : t < j ∨ i < t
      · rw [if_pos c1]
        by_cases c2 : t + 1 < j ∨ i < t + 1
        · rw [if_pos c2]; exact h5
        · rw [if_neg c2, if_pos (by omega)]
          exact h3 t (by omega)
      · rw [if_neg c1]
        by_cases c3 : t = j
        · rw [if_pos c3]
          by_cases c2 : t + 1 < j ∨ i < t + 1
          · rw [if_pos c2]
            subst c3
            omega
          · rw [if_neg c2, if_neg (by omega), c3]
            exact h2
        · rw [if_neg c3]
          by_cases c2 : t + 1 < j ∨ i < t + 1
          · rw [if_pos c2]
            have := hmono (t - 1) t (by omega) (by omega)
            omega
          · rw [if_neg c2, if_neg (by omega), Nat.add_sub_cancel]
            exact hmono _ _ (by omega) (by omega)) (fun h0 => by
      unfold shiftDn
      split
      · exact hmax _ (by omega)
      · split
        · omega
        · exact hmax _ (by omega))
    omega

def pairL (a b : List Int) : List Int := (List.range a.length).map fun i => (pAt a b a.length b.length i : Int)
def pairsF (a b : List Int) : List Int := if okK a ∧ okK b ∧ a.length ≤ b.length then pairL a b else []
theorem pairL_length (a b : List Int) : (pairL a b).length = a.length := by simp [pairL]
theorem pairL_getD (a b : List Int) {i : Nat} (h : i < a.length) : (pairL a b).getD i 0 = pAt a b a.length b.length i := by
  rw [getD_eq (by rw [pairL_length]; exact h)]
  simp [pairL]
theorem pairsF_len (a b : List Int) : (pairsF a b).length ≤ 24 := by
  unfold pairsF
  split
  · next h => rw [pairL_length]; exact h.1.1
  · simp
theorem pairL_set (a b : List Int) {i : Nat} (h : i < a.length) : (List.replicate (i + 1) 0 ++ (pairL a b).drop (i + 1)).set i (pAt a b a.length b.length i : Int) = List.replicate i 0 ++ (pairL a b).drop i := by
  have e := drop_cons (xs := pairL a b) (k := i) (by rw [pairL_length]; exact h)
  rw [pairL_getD a b h] at e
  rw [e, List.replicate_succ', List.append_assoc, List.set_append_right _ _ (by simp)]
  simp
end Go.PR
