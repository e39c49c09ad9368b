/-
  Slitting, in plain words, the fifth part: what full patterns and best patterns are. No program here. No condition.
-/
import Derived.Test.YtjpbmjigmbfcfaaC3S
import Derived.Test.YtjpbmjigmbfcfaaMem5
namespace Go.PR

/-! ### One roll more -/
theorem dotN_set {c b : List Int} {i : Nat} {y : Int} (hi : i < c.length) : ∀ k, dotN (c.set i y) b k = dotN c b k + (if i < k then (y - c.getD i 0) * b.getD i 0 else 0)
  | 0 => by simp [dotN]
  | k + 1 => by
    rw [dotN, dotN, dotN_set hi k, getD_set hi]
    by_cases e : k = i
    · subst e
      rw [if_pos rfl, if_neg (by omega), if_pos (by omega), Int.sub_mul]
      omega
    · rw [if_neg e]
      by_cases h : i < k
      · rw [if_pos h, if_pos (by omega)]; omega
      · rw [if_neg h, if_neg (by omega)]; omega
theorem dotN_more {c b : List Int} {i : Nat} (hi : i < c.length) : dotN (c.set i (c.getD i 0 + 1)) b c.length = dotN c b c.length + b.getD i 0 := by
  rw [dotN_set hi, if_pos hi]
  congr 1
  rw [show c.getD i 0 + 1 - c.getD i 0 = 1 by omega, Int.one_mul]
theorem dotN_less {c b : List Int} {i : Nat} (hi : i < c.length) : dotN (c.set i (c.getD i 0 - 1)) b c.length = dotN c b c.length - b.getD i 0 := by
  rw [dotN_set hi, if_pos hi, show c.getD i 0 - 1 - c.getD i 0 = -1 by omega]
  omega
theorem set_nonneg {c : List Int} {i : Nat} {y : Int} (h : ∀ x ∈ c, 0 ≤ x) (hy : 0 ≤ y) : ∀ x ∈ c.set i y, 0 ≤ x := fun x hx => by
  rcases List.mem_or_eq_of_mem_set hx with h1 | h1
  · exact h x h1
  · omega

/-! ### Patterns that were begun -/
theorem dotN_append {a a' b : List Int} : ∀ k, k ≤ a.length → dotN (a ++ a') b k = dotN a b k
  | 0, _ => rfl
  | k + 1, h => by rw [dotN, dotN, dotN_append k (by omega), getD_append_left (by omega)]
theorem dotN_cons (x y : Int) (a b : List Int) : ∀ k, dotN (x :: a) (y :: b) (k + 1) = x * y + dotN a b k
  | 0 => by simp [dotN]
  | k + 1 => by rw [dotN, dotN_cons x y a b k, dotN]; simp only [List.getD_cons_succ]; omega
/-- what patsF lists -/
theorem mem_patsF (W : List Int) : ∀ (r : List Int) (left : Int) (b p : List Int), (∀ x ∈ r, 1 ≤ x) → 0 ≤ left →
    (p ∈ patsF W r left b ↔ ∃ q, p = b ++ q ∧ q.length = r.length ∧ (∀ x ∈ q, 0 ≤ x) ∧ dotN q r r.length ≤ left ∧ full W (left - dotN q r r.length))
  | [], left, b, p, _, h0 => by
    rw [patsF]
    constructor
    · intro h
      split at h
      · rename_i hf
        simp at h
        exact ⟨[], by simp [h], rfl, by simp, by simp [dotN]; exact h0, by simpa [dotN] using hf⟩
      · simp at h
    · rintro ⟨q, rfl, hq, _, _, hf⟩
      have : q = [] := List.eq_nil_of_length_eq_zero (by simpa using hq)
      subst this
      have hf' : full W left := by simpa [dotN] using hf
      rw [if_pos hf']; simp
  | x :: r, left, b, p, hx, h0 => by
    have hx1 := hx x (by simp)
    have hr : ∀ y ∈ r, 1 ≤ y := fun y hy => hx y (by simp [hy])
    have hd0 : 0 ≤ left / x := Int.ediv_nonneg h0 (by omega)
    rw [patsF, mem_downTo]
    constructor
    · rintro ⟨n, hn, h⟩
      have h1 := toNat_div h0 hx1 hn
      rw [mem_patsF W r _ _ p hr (by omega)] at h
      obtain ⟨q, rfl, hq, hq0, hq1, hf⟩ := h
      have hc : dotN ((n : Int) :: q) (x :: r) (x :: r).length = (n : Int) * x + dotN q r r.length := dotN_cons _ _ _ _ _
      refine ⟨(n : Int) :: q, by simp, by simp [hq], ?_, by rw [hc]; omega, by rw [hc, show left - ((n : Int) * x + dotN q r r.length) = left - (n : Int) * x - dotN q r r.length by omega]; exact hf⟩
      intro y hy
      simp at hy
      rcases hy with rfl | hy
      · omega
      · exact hq0 y hy
    · rintro ⟨q, rfl, hq, hq0, hq1, hf⟩
      cases q with
      | nil => simp at hq
      | cons y q =>
        have hy0 := hq0 y (by simp)
        have hc : dotN (y :: q) (x :: r) (x :: r).length = y * x + dotN q r r.length := dotN_cons _ _ _ _ _
        rw [hc] at hq1 hf
        have hqn : ∀ z ∈ q, 0 ≤ z := fun z hz => hq0 z (by simp [hz])
        have hdn := dotN_mono (a := q) (b := r) hqn (fun z hz => by have := hr z hz; omega) (Nat.zero_le r.length)
        rw [dotN] at hdn
        have hyx : y ≤ left / x := (Int.le_ediv_iff_mul_le (by omega)).2 (by omega)
        refine ⟨y.toNat, by omega, ?_⟩
        have hyn : ((y.toNat : Nat) : Int) = y := by omega
        rw [hyn, mem_patsF W r _ _ _ hr (by omega)]
        exact ⟨q, by simp, by simpa using hq, hqn, by omega, by rw [show left - y * x - dotN q r r.length = left - (y * x + dotN q r r.length) by omega]; exact hf⟩

theorem mem_fullF {width : Int} {ws p : List Int} (hok : okW width ws) (h24 : width ≤ 24) : p ∈ fullF width ws ↔ okP width ws p ∧ full ws (width - dotN p ws p.length) := by
  unfold fullF
  rw [if_pos ⟨hok, h24⟩, mem_patsF ws ws width [] p (fun x hx => (hok.2.2.1 x hx).1) (by have := hok.1; omega)]
  constructor
  · rintro ⟨q, rfl, hq, hq0, hq1, hf⟩
    rw [← hq] at hq1 hf
    exact ⟨⟨hok, hq, hq0, hq1⟩, hf⟩
  · rintro ⟨⟨_, hq, hq0, hq1⟩, hf⟩
    rw [hq] at hq1 hf
    exact ⟨p, rfl, hq, hq0, hq1, hf⟩

/-- each pattern lies below a full one -/
theorem full_above {width : Int} {ws : List Int} : ∀ (t : Nat) (c : List Int), okP width ws c → (width - dotN c ws c.length).toNat ≤ t → ∃ p, okP width ws p ∧ full ws (width - dotN p ws p.length) ∧ ∀ k, c.getD k 0 ≤ p.getD k 0 := by
  intro t
  induction t with
  | zero =>
    intro c hc ht
    refine ⟨c, hc, fun x hx => ?_, fun _ => Int.le_refl _⟩
    have := (hc.1.2.2.1 x hx).1
    omega
  | succ t ih =>
    intro c hc ht
    by_cases hf : full ws (width - dotN c ws c.length)
    · exact ⟨c, hc, hf, fun _ => Int.le_refl _⟩
    · have : ∃ i, i < ws.length ∧ ws.getD i 0 ≤ width - dotN c ws c.length := by
        apply Classical.byContradiction
        intro hn
        apply hf
        exact all_of_getD fun j hj => by
          apply Classical.byContradiction
          intro h
          exact hn ⟨j, hj, by omega⟩
      obtain ⟨i, hi, hwi⟩ := this
      have hic : i < c.length := by rw [hc.2.1]; exact hi
      have hm := dotN_more (b := ws) hic
      have hw1 := (hc.1.2.2.1 _ (getD_mem hi)).1
      have hl : (c.set i (c.getD i 0 + 1)).length = c.length := by simp
      have hc0 := hc.2.2.1 _ (getD_mem hic)
      have hok : okP width ws (c.set i (c.getD i 0 + 1)) := ⟨hc.1, by rw [hl]; exact hc.2.1, set_nonneg hc.2.2.1 (by omega), by rw [hl, hm]; omega⟩
      obtain ⟨p, h1, h2, h3⟩ := ih _ hok (by rw [hl, hm]; omega)
      refine ⟨p, h1, h2, fun k => ?_⟩
      have := h3 k
      rw [getD_set hic] at this
      by_cases e : k = i
      · subst e; rw [if_pos rfl] at this; omega
      · rw [if_neg e] at this; exact this
theorem fullF_above {width : Int} {ws c : List Int} (hc : okP width ws c) (h24 : width ≤ 24) : ∃ p ∈ fullF width ws, ∀ k, c.getD k 0 ≤ p.getD k 0 := by
  obtain ⟨p, h1, h2, h3⟩ := full_above _ c hc (Nat.le_refl _)
  exact ⟨p, (mem_fullF hc.1 h24).2 ⟨h1, h2⟩, h3⟩

/-- no full pattern twice -/
theorem downTo_nodup {α : Type} {f : Nat → List α} : ∀ n, (∀ k, k ≤ n → (f k).Nodup) → (∀ j k, j < k → k ≤ n → ∀ x, x ∈ f j → x ∈ f k → False) → (downTo f n).Nodup
  | 0, h, _ => h 0 (Nat.le_refl _)
  | n + 1, h, hd => by
    rw [downTo, List.nodup_append]
    refine ⟨h _ (Nat.le_refl _), downTo_nodup n (fun k hk => h k (by omega)) (fun j k hjk hk => hd j k hjk (by omega)), ?_⟩
    intro x hx y hy e
    subst e
    rw [mem_downTo] at hy
    obtain ⟨k, hk, hy⟩ := hy
    exact hd k (n + 1) (by omega) (Nat.le_refl _) x hy hx
theorem patsF_at (W : List Int) : ∀ (r : List Int) (left : Int) (b p : List Int), p ∈ patsF W r left b → ∃ q, p = b ++ q
  | [], left, b, p, h => by rw [patsF] at h; split at h <;> simp at h; exact ⟨[], by simp [h]⟩
  | x :: r, left, b, p, h => by
    rw [patsF, mem_downTo] at h
    obtain ⟨k, _, h⟩ := h
    obtain ⟨q, rfl⟩ := patsF_at W r _ _ p h
    exact ⟨(k : Int) :: q, by simp⟩
theorem patsF_nodup (W : List Int) : ∀ (r : List Int) (left : Int) (b : List Int), (patsF W r left b).Nodup
  | [], left, b => by rw [patsF]; split <;> simp
  | x :: r, left, b => by
    rw [patsF]
    refine downTo_nodup _ (fun k _ => patsF_nodup W r _ _) (fun j k hjk _ p hj hk => ?_)
    obtain ⟨q, rfl⟩ := patsF_at W r _ _ p hj
    obtain ⟨q', e⟩ := patsF_at W r _ _ _ hk
    rw [List.append_assoc, List.append_assoc] at e
    have := List.append_cancel_left e
    simp at this
    omega
theorem fullF_nodup (width : Int) (ws : List Int) : (fullF width ws).Nodup := by
  unfold fullF
  split
  · exact patsF_nodup _ _ _ _
  · simp

/-! ### Values -/
/-- no pattern is worth more than the best value -/
theorem value_le {ws vs : List Int} (hw : ∀ x ∈ ws, 1 ≤ x) (hl : vs.length = ws.length) : ∀ (t : Nat) (c : List Int) (r : Nat), c.length = ws.length → (∀ x ∈ c, 0 ≤ x) → dotN c ws c.length ≤ r → c.sum.toNat ≤ t → dotN c vs c.length ≤ bv ws vs r := by
  have hz : ∀ (c : List Int) (b : List Int), (∀ i, i < c.length → c.getD i 0 = 0) → ∀ k, k ≤ c.length → dotN c b k = 0 := by
    intro c b h k
    induction k with
    | zero => intro _; rfl
    | succ k ih => intro hk; rw [dotN, ih (by omega), h k (by omega)]; simp
  have hs0 : ∀ (c : List Int), (∀ x ∈ c, 0 ≤ x) → 0 ≤ c.sum ∧ ∀ x ∈ c, x ≤ c.sum := by
    intro c
    induction c with
    | nil => intro _; simp
    | cons y c ih =>
      intro h
      have h1 := ih (fun x hx => h x (by simp [hx]))
      have h2 := h y (by simp)
      refine ⟨by simp; omega, fun x hx => ?_⟩
      simp at hx ⊢
      rcases hx with rfl | hx
      · omega
      · have := h1.2 x hx; omega
  intro t
  induction t with
  | zero =>
    intro c r hc h0 _ ht
    rw [hz c vs (fun i hi => by
      have h1 := (hs0 c h0).2 _ (getD_mem hi)
      have h2 := h0 _ (getD_mem hi)
      have h3 := (hs0 c h0).1
      omega) c.length (Nat.le_refl _)]
    exact bv_nonneg _ _ _
  | succ t ih =>
    intro c r hc h0 hr ht
    by_cases hall : ∀ i, i < c.length → c.getD i 0 = 0
    · rw [hz c vs hall c.length (Nat.le_refl _)]
      exact bv_nonneg _ _ _
    · have : ∃ i, i < c.length ∧ 0 < c.getD i 0 := by
        apply Classical.byContradiction
        intro hn
        apply hall
        intro i hi
        have h1 := h0 _ (getD_mem hi)
        apply Classical.byContradiction
        intro hne
        exact hn ⟨i, hi, by omega⟩
      obtain ⟨i, hi, hpos⟩ := this
      have hw1 := hw _ (getD_mem (xs := ws) (k := i) (by omega))
      have hl1 : (c.set i (c.getD i 0 - 1)).length = c.length := by simp
      have e1 := dotN_less (b := ws) hi
      have e2 := dotN_less (b := vs) hi
      have hn1 := set_nonneg (i := i) (y := c.getD i 0 - 1) h0 (by omega)
      have hdn := dotN_mono (a := c.set i (c.getD i 0 - 1)) (b := ws) hn1 (fun x hx => by have := hw x hx; omega) (Nat.zero_le c.length)
      rw [dotN, e1] at hdn
      have hsum : (c.set i (c.getD i 0 - 1)).sum = c.sum - 1 := by
        have key : ∀ (c : List Int) (i : Nat), i < c.length → (c.set i (c.getD i 0 - 1)).sum = c.sum - 1 := by
          intro c
          induction c with
          | nil => intro i h; simp at h
          | cons y c ih =>
            intro i h
            cases i with
            | zero => simp; omega
            | succ i =>
              have := ih i (by simpa using h)
              simp only [List.set_cons_succ, List.sum_cons, List.getD_cons_succ, this]
              omega
        exact key c i hi
      have h1 := ih (c.set i (c.getD i 0 - 1)) (r - (ws.getD i 0).toNat) (by rw [hl1]; exact hc) hn1 (by rw [hl1, e1]; omega) (by rw [hsum]; omega)
      rw [hl1, e2] at h1
      have h2 := bv_ge (vs := vs) (r := r) (i := i) (by omega) hw1 (by omega)
      omega

theorem firstGood_spec {ws vs : List Int} (hw : ∀ x ∈ ws, 1 ≤ x) (hv : ∀ x ∈ vs, 0 ≤ x) (hl : vs.length = ws.length) {r : Nat} (h : 0 < bv ws vs r) : firstGood ws vs r < ws.length ∧ good ws vs r (firstGood ws vs r) := by
  obtain ⟨i, hi, hg⟩ := good_is hw hv hl r h
  unfold firstGood
  cases hf : (List.range ws.length).find? (fun i => decide (good ws vs r i)) with
  | none =>
    rw [List.find?_eq_none] at hf
    exact absurd hg (by simpa using hf i (by simpa using hi))
  | some k =>
    rw [List.find?_range_eq_some] at hf
    exact ⟨by simpa using hf.2.1, by simpa using hf.1⟩
/-- the best pattern has the best value, and fits -/
theorem patF_spec {ws vs : List Int} (hw : ∀ x ∈ ws, 1 ≤ x) (hv : ∀ x ∈ vs, 0 ≤ x) (hl : vs.length = ws.length) : ∀ (f r : Nat) (c : List Int), r ≤ f → c.length = ws.length → (∀ x ∈ c, 0 ≤ x) →
    (patF ws vs f r c).length = ws.length ∧ (∀ x ∈ patF ws vs f r c, 0 ≤ x) ∧ dotN (patF ws vs f r c) ws ws.length ≤ dotN c ws ws.length + r ∧ dotN (patF ws vs f r c) vs ws.length = dotN c vs ws.length + bv ws vs r := by
  intro f
  induction f with
  | zero =>
    intro r c hr hc h0
    have : r = 0 := by omega
    subst this
    have hb : bv ws vs 0 = 0 := by
      apply Classical.byContradiction
      intro hne
      have h1 := bv_nonneg ws vs 0
      obtain ⟨i, h2, h3, _⟩ := bv_is hw (vs := vs) (r := 0) (by omega)
      have := hw _ (getD_mem h2)
      omega
    rw [patF, hb]
    exact ⟨hc, h0, by omega, by omega⟩
  | succ f ih =>
    intro r c hr hc h0
    rw [patF]
    by_cases h : 0 < bv ws vs r
    · rw [if_pos h]
      obtain ⟨hi, hg⟩ := firstGood_spec hw hv hl h
      generalize firstGood ws vs r = i at *
      have hic : i < c.length := by omega
      have hw1 := hw _ (getD_mem hi)
      have hg2 := hg.2.1
      have hc0 := h0 _ (getD_mem hic)
      obtain ⟨a1, a2, a3, a4⟩ := ih (r - (ws.getD i 0).toNat) (c.set i (c.getD i 0 + 1)) (by omega) (by simpa using hc) (set_nonneg h0 (by omega))
      have e1 := dotN_more (b := ws) hic
      have e2 := dotN_more (b := vs) hic
      rw [hc] at e1 e2
      rw [e1] at a3
      rw [e2] at a4
      have hg3 := hg.2.2
      exact ⟨a1, a2, by omega, by omega⟩
    · rw [if_neg h]
      have := bv_nonneg ws vs r
      exact ⟨hc, h0, by omega, by omega⟩
theorem patternF_spec {width : Int} {ws vs : List Int} (hok : okV width ws vs) : okP width ws (patternF width ws vs) ∧ dotN (patternF width ws vs) vs ws.length = bv ws vs width.toNat := by
  have hw : ∀ x ∈ ws, 1 ≤ x := fun x hx => (hok.1.2.2.1 x hx).1
  have hv : ∀ x ∈ vs, 0 ≤ x := fun x hx => (hok.2.2 x hx).1
  have hz : ∀ (b : List Int) k, dotN (List.replicate ws.length 0) b k = 0 := by
    intro b k
    induction k with
    | zero => rfl
    | succ k ih => rw [dotN, ih, getD_replicate]; simp
  obtain ⟨a1, a2, a3, a4⟩ := patF_spec hw hv hok.2.1 width.toNat width.toNat (List.replicate ws.length 0) (Nat.le_refl _) (by simp) (fun x hx => by simp at hx; omega)
  have hw1 := hok.1.1
  have e : patternF width ws vs = patF ws vs width.toNat width.toNat (List.replicate ws.length 0) := by unfold patternF; rw [if_pos hok]
  rw [hz] at a3 a4
  rw [e]
  exact ⟨⟨hok.1, a1, a2, by rw [a1]; omega⟩, by omega⟩

/-- twice the values, twice the best value -/
theorem bv_double {ws vs : List Int} (hw : ∀ x ∈ ws, 1 ≤ x) (hl : vs.length = ws.length) : ∀ r, bv ws (vs.map (2 * ·)) r = 2 * bv ws vs r := by
  have hg : ∀ i, (vs.map (2 * ·)).getD i 0 = 2 * vs.getD i 0 := by
    intro i
    rw [List.getD_eq_getElem?_getD, List.getElem?_map, List.getD_eq_getElem?_getD]
    cases vs[i]? <;> simp
  intro r
  induction r using Nat.strongRecOn with
  | ind r ih =>
    have hN : ∀ k, k ≤ ws.length → bestN (bestT ws (vs.map (2 * ·)) r) ws (vs.map (2 * ·)) r k = 2 * bestN (bestT ws vs r) ws vs r k := by
      intro k
      induction k with
      | zero => intro _; rfl
      | succ k ihk =>
        intro hk
        have hx := hw _ (getD_mem (xs := ws) (k := k) (by omega))
        rw [bestN, bestN, ihk (by omega), hg]
        by_cases h : ws.getD k 0 ≤ (r : Int)
        · rw [if_pos h, if_pos h, bestT_bv _ _ (by omega), bestT_bv _ _ (by omega), ih _ (by omega)]
          omega
        · rw [if_neg h, if_neg h]
    exact hN ws.length (Nat.le_refl _)
end Go.PR
