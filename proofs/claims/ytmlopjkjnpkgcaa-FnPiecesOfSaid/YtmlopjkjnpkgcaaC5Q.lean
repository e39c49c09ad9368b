/-
  Splices, in plain words, the second part: where pieces lie, their order, their sums; splices are ends of parents; what is left. No program here. No condition.
-/
import Derived.Test.YtmlopjkjnpkgcaaC5P
namespace Go.PR

theorem place_step : ∀ (ps : List Int) (x : Int) (n : Int), (∀ y ∈ ps, 1 ≤ y) → 0 ≤ x → 0 < n → (place ps x).1 < ps.length →
    ((place ps x).2 + n < ps.getD (place ps x).1 0 → place ps (x + n) = ((place ps x).1, (place ps x).2 + n)) ∧
    ((place ps x).2 + n = ps.getD (place ps x).1 0 → place ps (x + n) = ((place ps x).1 + 1, 0))
  | [], x, n, _, _, _, h => by simp [place] at h
  | p :: r, x, n, hp, hx, hn, h => by
    by_cases hc : p ≤ x
    · have e1 : place (p :: r) x = ((place r (x - p)).1 + 1, (place r (x - p)).2) := by rw [place, if_pos hc]
      have e2 : place (p :: r) (x + n) = ((place r (x - p + n)).1 + 1, (place r (x - p + n)).2) := by rw [place, if_pos (by omega), show x + n - p = x - p + n by omega]
      rw [e1] at h ⊢
      have ih := place_step r (x - p) n (fun y hy => hp y (by simp [hy])) (by omega) hn (by simpa using h)
      rw [e2]
      simp only [List.getD_cons_succ]
      refine ⟨fun h1 => ?_, fun h1 => ?_⟩
      · rw [ih.1 h1]
      · rw [ih.2 h1]
    · have e1 : place (p :: r) x = (0, x) := by rw [place, if_neg hc]
      rw [e1]
      simp only [List.getD_cons_zero]
      refine ⟨fun h1 => ?_, fun h1 => ?_⟩
      · rw [place, if_neg (by omega)]
      · rw [place, if_pos (by omega), show x + n - p = 0 by omega]
        cases r with
        | nil => simp [place]
        | cons q s =>
          have := hp q (by simp)
          rw [place, if_neg (by omega)]

/-- how long pieces are together -/
def plen (pcs : List Pc) : Int := (pcs.map (fun q => q.2.2.2)).sum
theorem plen_cons (q : Pc) (r : List Pc) : plen (q :: r) = q.2.2.2 + plen r := by simp [plen]
theorem plen_append (a b : List Pc) : plen (a ++ b) = plen a + plen b := by simp [plen]

/-- pieces that follow each other from the place x on -/
def Chain (ps : List Int) : Int → List Pc → Prop
  | _, [] => True
  | x, q :: r => (q.1 = ((place ps x).1 : Nat) ∧ q.2.2.1 = (place ps x).2 ∧ 1 ≤ q.2.2.2 ∧ q.2.2.1 + q.2.2.2 ≤ ps.getD (place ps x).1 0 ∧ (place ps x).1 < ps.length) ∧ Chain ps (x + q.2.2.2) r
theorem Chain.append {ps : List Int} : ∀ {a b : List Pc} {x : Int}, Chain ps x a → Chain ps (x + plen a) b → Chain ps x (a ++ b)
  | [], b, x, _, h => by simpa [plen] using h
  | q :: r, b, x, h1, h2 => by
    refine ⟨h1.1, Chain.append h1.2 ?_⟩
    rw [plen_cons] at h2
    rwa [show x + q.2.2.2 + plen r = x + (q.2.2.2 + plen r) by omega]

/-- the neighbours of a list of pieces are in order -/
def NextTo (p q : Pc) : Prop := p.1 ≤ q.1 ∧ p.2.1 ≤ q.2.1 ∧ ¬ (p.1 = q.1 ∧ p.2.1 = q.2.1)
def Adj : List Pc → Prop
  | p :: q :: r => NextTo p q ∧ Adj (q :: r)
  | _ => True
theorem Adj.append : ∀ {a b : List Pc}, Adj a → Adj b → (∀ p ∈ a, ∀ q ∈ b, NextTo p q) → Adj (a ++ b)
  | [], b, _, h, _ => h
  | [p], [], _, _, _ => trivial
  | [p], q :: r, _, h, hn => ⟨hn p (by simp) q (by simp), h⟩
  | p :: q :: r, b, h1, h2, hn => ⟨h1.1, Adj.append (a := q :: r) h1.2 h2 (fun x hx y hy => hn x (by simp at hx ⊢; right; exact hx) y hy)⟩

/-- the state of the winder at the place x -/
def At (ps : List Int) (x : Int) (j : Nat) (rest : List Int) (frm : Int) : Prop := place ps x = (j, frm) ∧ rest = ps.drop j

theorem cutOne_spec (roll : Int) (ps : List Int) (hp : ∀ y ∈ ps, 1 ≤ y) : ∀ (rest : List Int) (j : Nat) (frm want x : Int), At ps x j rest frm → 0 ≤ x → 0 ≤ want → want ≤ ps.sum - x →
    Chain ps x (cutOne roll j rest frm want) ∧ At ps (x + want) (afterOne j rest frm want).1 (afterOne j rest frm want).2.1 (afterOne j rest frm want).2.2 ∧ plen (cutOne roll j rest frm want) = want ∧
    Adj (cutOne roll j rest frm want) ∧ (∀ q ∈ cutOne roll j rest frm want, (j : Int) ≤ q.1 ∧ q.1 ≤ (afterOne j rest frm want).1) ∧ j ≤ (afterOne j rest frm want).1 ∧ (0 < want → 0 < (cutOne roll j rest frm want).length)
  | [], j, frm, want, x, hA, hx, hw, hs => by
    have h1 := place_spec ps x hp hx (by omega)
    rw [hA.1] at h1
    have h2 := hA.2
    have h3 : ps.length ≤ j := by
      have := congrArg List.length h2
      simp at this; omega
    have h4 : want = 0 := by
      have := h1.2.2.2.1
      rw [← h2] at this
      have := h1.2.2.2.2 (by have := h1.1; simp only at this; omega)
      simp at *
      omega
    subst h4
    simp only [cutOne, afterOne, Int.add_zero]
    exact ⟨trivial, hA, rfl, trivial, by simp, Nat.le_refl _, by omega⟩
  | p :: r, j, frm, want, x, hA, hx, hw, hs => by
    have h1 := place_spec ps x hp hx (by omega)
    rw [hA.1] at h1
    simp only at h1
    have h2 := hA.2
    have hj : j < ps.length := by
      have := congrArg List.length h2
      simp at this; omega
    have hdc := drop_cons (xs := ps) (k := j) hj
    rw [← h2] at hdc
    obtain ⟨rfl, rfl⟩ := List.cons.inj hdc
    have hf := h1.2.2.1 hj
    by_cases hw0 : want ≤ 0
    · have h4 : want = 0 := by omega
      subst h4
      rw [cutOne_done _ _ _ _ _ hw0, afterOne_done _ _ _ _ hw0]
      simp only [Int.add_zero]
      exact ⟨trivial, hA, rfl, trivial, by simp, Nat.le_refl _, by omega⟩
    · have hst := place_step ps x
      rw [hA.1] at hst
      simp only at hst
      by_cases hlt : want < ps.getD j 0 - frm
      · have hc : cutOne roll j (ps.getD j 0 :: ps.drop (j + 1)) frm want = [((j : Int), roll, frm, want)] := by rw [cutOne, if_neg hw0, if_pos hlt]
        have ha : afterOne j (ps.getD j 0 :: ps.drop (j + 1)) frm want = (j, ps.getD j 0 :: ps.drop (j + 1), frm + want) := by rw [afterOne, if_neg hw0, if_pos hlt]
        rw [hc, ha]
        refine ⟨⟨?_, trivial⟩, ⟨(hst want hp hx (by omega) hj).1 (by omega), h2⟩, by simp [plen], trivial, by simp, Nat.le_refl _, by simp⟩
        rw [hA.1]
        exact ⟨rfl, rfl, by simp only; omega, by simp only; omega, hj⟩
      · rw [cutOne_full _ _ _ _ _ _ (by omega) (by omega), afterOne_full _ _ _ _ _ (by omega) (by omega)]
        have hA2 : At ps (x + (ps.getD j 0 - frm)) (j + 1) (ps.drop (j + 1)) 0 := ⟨(hst (ps.getD j 0 - frm) hp hx (by omega) hj).2 (by omega), rfl⟩
        have ih := cutOne_spec roll ps hp (ps.drop (j + 1)) (j + 1) 0 (want - (ps.getD j 0 - frm)) (x + (ps.getD j 0 - frm)) hA2 (by omega) (by omega) (by omega)
        rw [show x + (ps.getD j 0 - frm) + (want - (ps.getD j 0 - frm)) = x + want by omega] at ih
        obtain ⟨i1, i2, i3, i4, i5, i6, i7⟩ := ih
        refine ⟨⟨?_, i1⟩, i2, by rw [plen_cons, i3]; simp only; omega, ?_, ?_, by omega, by simp⟩
        · rw [hA.1]
          exact ⟨rfl, rfl, by simp only; omega, by simp only; omega, hj⟩
        · generalize hg : cutOne roll (j + 1) (ps.drop (j + 1)) 0 (want - (ps.getD j 0 - frm)) = tl at *
          cases tl with
          | nil => trivial
          | cons q t =>
            refine ⟨?_, i4⟩
            have h5 := i5 q (by simp)
            have h6 := cutOne_roll roll (ps.drop (j + 1)) (j + 1) 0 (want - (ps.getD j 0 - frm)) q (by rw [hg]; simp)
            refine ⟨?_, ?_, ?_⟩
            · show (j : Int) ≤ q.1; omega
            · show roll ≤ q.2.1; omega
            · rintro ⟨e1, _⟩
              have e1 : (j : Int) = q.1 := e1
              omega
        · intro q hq
          rcases List.mem_cons.1 hq with h | h
          · subst h; show (j : Int) ≤ (j : Int) ∧ (j : Int) ≤ _; omega
          · have := i5 q h; omega

theorem cutAll_spec (ps : List Int) (hp : ∀ y ∈ ps, 1 ≤ y) : ∀ (ws : List Int) (roll : Int) (j : Nat) (rest : List Int) (frm x : Int), At ps x j rest frm → 0 ≤ x → (∀ y ∈ ws, 1 ≤ y) → ws.sum ≤ ps.sum - x →
    Chain ps x (cutAll ws roll j rest frm) ∧ plen (cutAll ws roll j rest frm) = ws.sum ∧ Adj (cutAll ws roll j rest frm) ∧ (∀ q ∈ cutAll ws roll j rest frm, (j : Int) ≤ q.1)
  | [], roll, j, rest, frm, x, _, _, _, _ => by simp [cutAll, Chain, plen, Adj]
  | want :: ws, roll, j, rest, frm, x, hA, hx, hw, hs => by
    have hwant := hw want (by simp)
    have hpos : ∀ (l : List Int), (∀ y ∈ l, 1 ≤ y) → 0 ≤ l.sum := by
      intro l
      induction l with
      | nil => simp
      | cons a t ih => intro h; have := ih (fun y hy => h y (by simp [hy])); have := h a (by simp); simp; omega
    have hws := hpos ws (fun y hy => hw y (by simp [hy]))
    simp only [List.sum_cons] at hs
    obtain ⟨c1, c2, c3, c4, c5, c6, _⟩ := cutOne_spec roll ps hp rest j frm want x hA hx (by omega) (by omega)
    obtain ⟨d1, d2, d3, d4⟩ := cutAll_spec ps hp ws (roll + 1) _ _ _ (x + want) c2 (by omega) (fun y hy => hw y (by simp [hy])) (by omega)
    rw [cutAll]
    refine ⟨Chain.append c1 (by rw [c3]; exact d1), by rw [plen_append, c3, d2]; simp, Adj.append c4 d3 ?_, ?_⟩
    · intro p hp1 q hq1
      have h1 := cutOne_roll roll rest j frm want p hp1
      have h2 := cutAll_roll ws (roll + 1) _ _ _ q hq1
      have h3 := c5 p hp1
      have h4 := d4 q hq1
      exact ⟨by omega, by omega, fun h => by omega⟩
    · intro q hq
      rcases List.mem_append.1 hq with h | h
      · exact (c5 q h).1
      · have := d4 q h; omega

theorem At_start (ps : List Int) (x : Int) : At ps x (place ps x).1 (ps.drop (place ps x).1) (place ps x).2 := ⟨rfl, rfl⟩

theorem pieces_spec {ps ws : List Int} {skip : Int} (h : enough ps ws skip) : Chain ps skip (pieces ps ws skip) ∧ plen (pieces ps ws skip) = ws.sum ∧ Adj (pieces ps ws skip) := by
  have := cutAll_spec ps (fun y hy => (h.1.2 y hy).1) ws 0 _ _ _ skip (At_start ps skip) h.2.2.1 (fun y hy => (h.2.1.2 y hy).1) (by have := h.2.2.2; omega)
  exact ⟨this.1, this.2.1, this.2.2.1⟩

/-! ### The sums of the rolls -/

def rollSum (pcs : List Pc) (k : Int) : Int := plen (pcs.filter (fun q => decide (q.2.1 = k)))
theorem rollSum_append (a b : List Pc) (k : Int) : rollSum (a ++ b) k = rollSum a k + rollSum b k := by unfold rollSum; rw [List.filter_append, plen_append]
theorem rollSum_none {pcs : List Pc} {k : Int} (h : ∀ q ∈ pcs, q.2.1 ≠ k) : rollSum pcs k = 0 := by
  unfold rollSum
  rw [List.filter_eq_nil_iff.2 (fun q hq => by simpa using h q hq)]; rfl
theorem rollSum_all {pcs : List Pc} {k : Int} (h : ∀ q ∈ pcs, q.2.1 = k) : rollSum pcs k = plen pcs := by
  unfold rollSum
  rw [List.filter_eq_self.2 (fun q hq => by simpa using h q hq)]

theorem cutAll_sums (ps : List Int) (hp : ∀ y ∈ ps, 1 ≤ y) : ∀ (ws : List Int) (roll : Int) (j : Nat) (rest : List Int) (frm x : Int), At ps x j rest frm → 0 ≤ x → (∀ y ∈ ws, 1 ≤ y) → ws.sum ≤ ps.sum - x →
    ∀ k : Nat, k < ws.length → rollSum (cutAll ws roll j rest frm) (roll + k) = ws.getD k 0
  | [], roll, j, rest, frm, x, _, _, _, _, k, hk => by simp at hk
  | want :: ws, roll, j, rest, frm, x, hA, hx, hw, hs, k, hk => by
    have hwant := hw want (by simp)
    have hpos : ∀ (l : List Int), (∀ y ∈ l, 1 ≤ y) → 0 ≤ l.sum := by
      intro l
      induction l with
      | nil => simp
      | cons a t ih => intro h; have := ih (fun y hy => h y (by simp [hy])); have := h a (by simp); simp; omega
    have hws := hpos ws (fun y hy => hw y (by simp [hy]))
    simp only [List.sum_cons] at hs
    obtain ⟨c1, c2, c3, c4, c5, c6, _⟩ := cutOne_spec roll ps hp rest j frm want x hA hx (by omega) (by omega)
    rw [cutAll, rollSum_append]
    cases k with
    | zero =>
      rw [rollSum_all (fun q hq => by rw [cutOne_roll roll rest j frm want q hq]; simp), c3, rollSum_none (fun q hq => by have := cutAll_roll ws (roll + 1) _ _ _ q hq; simp; omega)]
      simp
    | succ k =>
      have ih := cutAll_sums ps hp ws (roll + 1) _ _ _ (x + want) c2 (by omega) (fun y hy => hw y (by simp [hy])) (by omega) k (by simpa using hk)
      rw [rollSum_none (fun q hq => by rw [cutOne_roll roll rest j frm want q hq]; simp; omega)]
      rw [show roll + ((k + 1 : Nat) : Int) = roll + 1 + k by omega, ih]
      simp

theorem pieces_sums {ps ws : List Int} {skip : Int} (h : enough ps ws skip) : ∀ k : Nat, k < ws.length → rollSum (pieces ps ws skip) k = ws.getD k 0 := by
  intro k hk
  have := cutAll_sums ps (fun y hy => (h.1.2 y hy).1) ws 0 _ _ _ skip (At_start ps skip) h.2.2.1 (fun y hy => (h.2.1.2 y hy).1) (by have := h.2.2.2; omega) k hk
  rwa [Int.zero_add] at this

/-! ### Ends -/

def ends : List Int → Int → List Int
  | [], _ => []
  | p :: r, s => (s + p) :: ends r (s + p)
theorem ends_length : ∀ (xs : List Int) (s : Int), (ends xs s).length = xs.length
  | [], _ => rfl
  | _ :: r, s => by simp [ends, ends_length r]
theorem ends_shift : ∀ (xs : List Int) (s t : Int), ends xs (s + t) = (ends xs s).map (fun e => e + t)
  | [], _, _ => rfl
  | p :: r, s, t => by simp only [ends, List.map_cons]; rw [show s + t + p = s + p + t by omega, ends_shift r (s + p) t]
theorem ends_gt : ∀ (xs : List Int) (s : Int), (∀ y ∈ xs, 1 ≤ y) → ∀ e ∈ ends xs s, s < e
  | [], _, _, e, he => by simp [ends] at he
  | p :: r, s, h, e, he => by
    have hp := h p (by simp)
    simp only [ends, List.mem_cons] at he
    rcases he with rfl | he
    · omega
    · have := ends_gt r (s + p) (fun y hy => h y (by simp [hy])) e he; omega
theorem ends_getD : ∀ (xs : List Int) (s : Int) (k : Nat), k < xs.length → (ends xs s).getD k 0 = s + psum xs (k + 1)
  | [], _, k, h => by simp at h
  | p :: r, s, 0, _ => by simp [ends, psum]
  | p :: r, s, k + 1, h => by
    have := ends_getD r (s + p) k (by simpa using h)
    simp only [ends, List.getD_cons_succ, this, psum, List.take_succ_cons, List.sum_cons]
    omega
theorem ends_le : ∀ (xs : List Int) (s : Int), (∀ y ∈ xs, 1 ≤ y) → ∀ e ∈ ends xs s, e ≤ s + xs.sum
  | [], _, _, e, he => by simp [ends] at he
  | p :: r, s, h, e, he => by
    simp only [ends, List.mem_cons] at he
    have hpos : ∀ (l : List Int), (∀ y ∈ l, 1 ≤ y) → 0 ≤ l.sum := by
      intro l
      induction l with
      | nil => simp
      | cons a t ih => intro h; have := ih (fun y hy => h y (by simp [hy])); have := h a (by simp); simp; omega
    have hr := hpos r (fun y hy => h y (by simp [hy]))
    rcases he with rfl | he
    · simp; omega
    · have := ends_le r (s + p) (fun y hy => h y (by simp [hy])) e he; simp; omega

/-- how many of the ends lie inside of rolls -/
def innerB (ws : List Int) (e : Int) : Bool := decide (0 < e ∧ e < ws.sum ∧ e ∉ ends ws 0)
def inner (es ws : List Int) : Nat := (es.filter (innerB ws)).length

theorem sum_pos : ∀ (l : List Int), (∀ y ∈ l, 1 ≤ y) → 0 ≤ l.sum
  | [], _ => by simp
  | a :: t, h => by have := sum_pos t (fun y hy => h y (by simp [hy])); have := h a (by simp); simp; omega

theorem filter_none {l : List Int} {p : Int → Bool} (h : ∀ e ∈ l, p e = false) : l.filter p = [] := List.filter_eq_nil_iff.2 (fun e he => by simp [h e he])
theorem filter_every {l : List Int} {p : Int → Bool} (h : ∀ e ∈ l, p e = true) : l.filter p = l := List.filter_eq_self.2 h

theorem cutOne_count (roll : Int) : ∀ (rest : List Int) (j : Nat) (frm want : Int), (∀ y ∈ rest, 1 ≤ y) → 0 ≤ frm → (rest ≠ [] → frm < rest.getD 0 0) → 0 < want → want ≤ rest.sum - frm →
    (cutOne roll j rest frm want).length = 1 + ((ends rest (-frm)).filter (fun e => decide (e < want))).length ∧
    ends (afterOne j rest frm want).2.1 (-(afterOne j rest frm want).2.2) = ((ends rest (-frm)).filter (fun e => decide (want < e))).map (fun e => e - want) ∧
    (∀ y ∈ (afterOne j rest frm want).2.1, 1 ≤ y) ∧ 0 ≤ (afterOne j rest frm want).2.2 ∧ ((afterOne j rest frm want).2.1 ≠ [] → (afterOne j rest frm want).2.2 < (afterOne j rest frm want).2.1.getD 0 0) ∧ (afterOne j rest frm want).2.1.sum - (afterOne j rest frm want).2.2 = rest.sum - frm - want
  | [], j, frm, want, _, hf0, _, h0, h1 => by simp at h1; omega
  | p :: r, j, frm, want, hp, hf0, hf, h0, h1 => by
    have hf := hf (by simp)
    simp only [List.getD_cons_zero] at hf
    have hr : ∀ y ∈ r, 1 ≤ y := fun y hy => hp y (by simp [hy])
    have hgt := ends_gt r (-frm + p) hr
    by_cases hlt : want < p - frm
    · have hc : cutOne roll j (p :: r) frm want = [((j : Int), roll, frm, want)] := by rw [cutOne, if_neg (by omega), if_pos hlt]
      have ha : afterOne j (p :: r) frm want = (j, p :: r, frm + want) := by rw [afterOne, if_neg (by omega), if_pos hlt]
      rw [hc, ha]
      have hall : ∀ e ∈ ends (p :: r) (-frm), want < e := by
        intro e he
        simp only [ends, List.mem_cons] at he
        rcases he with rfl | he
        · omega
        · have := hgt e he; omega
      refine ⟨?_, ?_, hp, by simp only; omega, fun _ => by simp only [List.getD_cons_zero]; omega, by simp only [List.sum_cons]; omega⟩
      · rw [filter_none (fun e he => by have := hall e he; simp; omega)]; simp
      · rw [filter_every (fun e he => by have := hall e he; simpa using this)]
        rw [show -(frm + want) = -frm + -want by omega, ends_shift]
        apply List.map_congr_left
        intro e _; omega
    · rw [cutOne_full _ _ _ _ _ _ h0 (by omega), afterOne_full _ _ _ _ _ h0 (by omega)]
      have hes : ends (p :: r) (-frm) = (p - frm) :: (ends r 0).map (fun e => e + (p - frm)) := by
        simp only [ends]
        rw [show -frm + p = 0 + (p - frm) by omega, ends_shift]
        simp
      rw [hes]
      by_cases heq : want = p - frm
      · subst heq
        rw [Int.sub_self, cutOne_done _ _ _ _ _ (Int.le_refl _), afterOne_done _ _ _ _ (Int.le_refl _)]
        have h0' := ends_gt r 0 hr
        refine ⟨?_, ?_, hr, Int.le_refl _, fun h => ?_, by simp only [List.sum_cons]; omega⟩
        · rw [filter_none]
          · simp
          · intro e he
            simp only [List.mem_cons, List.mem_map] at he
            rcases he with rfl | ⟨e', h1, rfl⟩
            · simp
            · have := h0' e' h1; simp; omega
        · rw [List.filter_cons]
          simp only [Int.lt_irrefl, decide_false, Bool.false_eq_true, if_false]
          rw [filter_every]
          · simp only [List.map_map, Int.neg_zero]
            rw [show (fun e => e - (p - frm)) ∘ (fun e => e + (p - frm)) = (fun e : Int => e) by funext e; simp only [Function.comp]; omega]
            simp
          · intro e he
            simp only [List.mem_map] at he
            obtain ⟨e', h1, rfl⟩ := he
            have := h0' e' h1; simp; omega
        · cases r with
          | nil => exact absurd rfl h
          | cons q t => have := hr q (by simp); simp only [List.getD_cons_zero]; omega
      · have hw : 0 < want - (p - frm) := by omega
        have ih := cutOne_count roll r (j + 1) 0 (want - (p - frm)) hr (Int.le_refl _) (fun h => by
          cases r with
          | nil => exact absurd rfl h
          | cons q t => have := hr q (by simp); simp only [List.getD_cons_zero]; omega) hw (by simp only [List.sum_cons] at h1; omega)
        obtain ⟨i1, i2, i3, i4, i5, i6⟩ := ih
        rw [Int.neg_zero] at i1 i2
        refine ⟨?_, ?_, i3, i4, i5, by rw [i6]; simp only [List.sum_cons]; omega⟩
        · rw [List.length_cons, i1, List.filter_cons, if_pos (by simp; omega), List.length_cons, List.filter_map, List.length_map]
          have : (fun e => decide (e < want)) ∘ (fun e => e + (p - frm)) = (fun e : Int => decide (e < want - (p - frm))) := by
            funext e; simp only [Function.comp, decide_eq_decide]; omega
          rw [this]; omega
        · rw [i2, List.filter_cons, if_neg (by simp; omega), List.filter_map, List.map_map]
          have e1 : (fun e => decide (want < e)) ∘ (fun e => e + (p - frm)) = (fun e : Int => decide (want - (p - frm) < e)) := by
            funext e; simp only [Function.comp, decide_eq_decide]; omega
          have e2 : (fun e => e - want) ∘ (fun e => e + (p - frm)) = (fun e : Int => e - (want - (p - frm))) := by
            funext e; simp only [Function.comp]; omega
          rw [e1, e2]

theorem inner_step (want : Int) (ws : List Int) (hw : 1 ≤ want) (hws : ∀ y ∈ ws, 1 ≤ y) : ∀ (es : List Int), (∀ e ∈ es, 0 < e) →
    inner es (want :: ws) = (es.filter (fun e => decide (e < want))).length + inner ((es.filter (fun e => decide (want < e))).map (fun e => e - want)) ws
  | [], _ => by simp [inner]
  | e :: es, h => by
    have ih := inner_step want ws hw hws es (fun x hx => h x (by simp [hx]))
    have he := h e (by simp)
    have hsum := sum_pos ws hws
    have hends : ends (want :: ws) 0 = want :: (ends ws 0).map (fun e => e + want) := by
      simp only [ends]; rw [ends_shift]; simp
    have hgt := ends_gt ws 0 hws
    unfold inner at *
    rcases Int.lt_trichotomy e want with h1 | h1 | h1
    · have hb : innerB (want :: ws) e = true := by
        unfold innerB
        rw [hends]
        simp only [decide_eq_true_eq, List.sum_cons, List.mem_cons, List.mem_map, not_or, not_exists, not_and]
        refine ⟨he, by omega, by omega, fun x hx hxe => ?_⟩
        have := hgt x hx; omega
      rw [List.filter_cons, if_pos hb, List.filter_cons, if_pos (by simpa using h1), List.filter_cons, if_neg (by simp; omega)]
      simp only [List.length_cons]
      omega
    · have hb : innerB (want :: ws) e = false := by
        unfold innerB
        rw [hends]
        simp [h1]
      rw [List.filter_cons, if_neg (by simp [hb]), List.filter_cons, if_neg (by simp; omega), List.filter_cons, if_neg (by simp; omega)]
      exact ih
    · have hb : innerB (want :: ws) e = innerB ws (e - want) := by
        unfold innerB
        rw [hends, decide_eq_decide]
        simp only [List.sum_cons, List.mem_cons, List.mem_map, not_or, not_exists, not_and]
        constructor
        · rintro ⟨_, a2, _, a4⟩
          exact ⟨by omega, by omega, fun hx => a4 _ hx (by omega)⟩
        · rintro ⟨_, a2, a3⟩
          exact ⟨by omega, by omega, by omega, fun x hx hxe => a3 (by rwa [← hxe, Int.add_sub_cancel])⟩
      have n1 : decide (e < want) = false := by simp; omega
      have n2 : decide (want < e) = true := by simpa using h1
      simp only [List.filter_cons, hb, n1, n2, if_true, Bool.false_eq_true, if_false, List.map_cons]
      cases innerB ws (e - want)
      · simpa using ih
      · simp only [if_true, List.length_cons]; omega

theorem cutAll_count : ∀ (ws : List Int) (roll : Int) (j : Nat) (rest : List Int) (frm : Int), (∀ y ∈ rest, 1 ≤ y) → 0 ≤ frm → (rest ≠ [] → frm < rest.getD 0 0) → (∀ y ∈ ws, 1 ≤ y) → ws.sum ≤ rest.sum - frm →
    (cutAll ws roll j rest frm).length = ws.length + inner (ends rest (-frm)) ws
  | [], roll, j, rest, frm, _, _, _, _, _ => by
    have : inner (ends rest (-frm)) [] = 0 := by
      unfold inner
      rw [filter_none (fun e _ => by unfold innerB; rw [decide_eq_false_iff_not]; rintro ⟨h1, h2, _⟩; simp at h2; omega)]; rfl
    simp [cutAll, this]
  | want :: ws, roll, j, rest, frm, hr, hf0, hf, hw, hs => by
    have hwant := hw want (by simp)
    have hws' : ∀ y ∈ ws, 1 ≤ y := fun y hy => hw y (by simp [hy])
    have hsum := sum_pos ws hws'
    simp only [List.sum_cons] at hs
    obtain ⟨c1, c2, c3, c4, c5, c6⟩ := cutOne_count roll rest j frm want hr hf0 hf (by omega) (by omega)
    have ih := cutAll_count ws (roll + 1) (afterOne j rest frm want).1 (afterOne j rest frm want).2.1 (afterOne j rest frm want).2.2 c3 c4 c5 hws' (by omega)
    have hpos : ∀ e ∈ ends rest (-frm), 0 < e := by
      intro e he
      cases rest with
      | nil => simp [ends] at he
      | cons p r =>
        have hf := hf (by simp)
        simp only [List.getD_cons_zero] at hf
        simp only [ends, List.mem_cons] at he
        rcases he with rfl | he
        · omega
        · have := ends_gt r (-frm + p) (fun y hy => hr y (by simp [hy])) e he; omega
    rw [cutAll, List.length_append, c1, ih, c2, inner_step want ws hwant hws' _ hpos]
    simp only [List.length_cons]
    omega

theorem inner_place (ws : List Int) : ∀ (ps : List Int) (a : Int), inner (ends ps (-a)) ws = inner (ends (ps.drop (place ps a).1) (-(place ps a).2)) ws
  | [], a => by simp [place]
  | p :: r, a => by
    by_cases h : p ≤ a
    · have e1 : place (p :: r) a = ((place r (a - p)).1 + 1, (place r (a - p)).2) := by rw [place, if_pos h]
      have ih := inner_place ws r (a - p)
      rw [e1]
      simp only [List.drop_succ_cons]
      rw [← ih]
      simp only [ends]
      unfold inner
      rw [List.filter_cons, if_neg (by unfold innerB; simp; omega), show -a + p = -(a - p) by omega]
    · have e1 : place (p :: r) a = (0, a) := by rw [place, if_neg h]
      rw [e1]; simp

theorem pieces_count {ps ws : List Int} {skip : Int} (h : enough ps ws skip) : (pieces ps ws skip).length = ws.length + inner (ends ps (-skip)) ws := by
  have hs := place_spec ps skip (fun y hy => (h.1.2 y hy).1) h.2.2.1 (by have := h.2.2.2; have := sum_pos ws (fun y hy => (h.2.1.2 y hy).1); omega)
  rw [inner_place]
  refine cutAll_count ws 0 _ _ _ (fun y hy => (h.1.2 y (List.mem_of_mem_drop hy)).1) hs.2.1 (fun hne => ?_) (fun y hy => (h.2.1.2 y hy).1) (by have := h.2.2.2; have := hs.2.2.2.1; omega)
  have hlt : (place ps skip).1 < ps.length := by
    rcases Nat.lt_or_ge (place ps skip).1 ps.length with h1 | h1
    · exact h1
    · exact absurd (List.drop_eq_nil_of_le h1) hne
  have := hs.2.2.1 hlt
  rw [drop_cons hlt]
  simpa using this

theorem sum_set : ∀ (xs : List Int) (i : Nat) (v : Int), i < xs.length → (xs.set i v).sum = xs.sum - xs.getD i 0 + v
  | [], i, _, h => by simp at h
  | x :: r, 0, v, _ => by simp; omega
  | x :: r, i + 1, v, h => by
    have := sum_set r i v (by simpa using h)
    simp only [List.set_cons_succ, List.sum_cons, this, List.getD_cons_succ]
    omega
theorem sum_replicate (n : Nat) (c : Int) : (List.replicate n c).sum = n * c := by
  induction n with
  | zero => simp
  | succ n ih => rw [List.replicate_succ, List.sum_cons, ih, Int.natCast_succ, Int.add_mul, Int.one_mul]; omega
theorem counts_sum (pcs : List Pc) (n : Nat) (c : Int) (h : ∀ q ∈ pcs, 0 ≤ q.2.1 ∧ q.2.1 < n) : (counts pcs n c).sum = pcs.length + n * c := by
  have key : ∀ k, k ≤ pcs.length → (counts (pcs.take k) n c).sum = k + n * c := by
    intro k
    induction k with
    | zero => intro _; rw [List.take_zero, counts_nil, sum_replicate]; omega
    | succ k ih =>
      intro hk
      have h1 := ih (by omega)
      have hq := h pcs[k] (List.getElem_mem (by omega))
      rw [List.take_succ_eq_append_getElem (by omega), ← counts_snoc _ _ _ _ hq, sum_set _ _ _ (by rw [counts_length]; omega), h1]
      omega
  have := key pcs.length (Nat.le_refl _)
  rwa [List.take_length] at this

theorem splices_sum {ps ws : List Int} {skip : Int} (h : enough ps ws skip) : (counts (pieces ps ws skip) ws.length (-1)).sum = inner (ends ps (-skip)) ws := by
  rw [counts_sum _ _ _ (pieces_roll ps ws skip), pieces_count h]
  omega

/-! ### The first of the least -/

def argmin (f : Nat → Int) : Nat → Nat
  | 0 => 0
  | n + 1 => if f (n + 1) < f (argmin f n) then n + 1 else argmin f n
theorem argmin_le (f : Nat → Int) : ∀ n, argmin f n ≤ n
  | 0 => Nat.le_refl _
  | n + 1 => by have := argmin_le f n; rw [argmin]; split <;> omega
theorem argmin_least (f : Nat → Int) : ∀ n k, k ≤ n → f (argmin f n) ≤ f k ∧ (f k = f (argmin f n) → argmin f n ≤ k)
  | 0, k, h => by
    have : k = 0 := by omega
    subst this; exact ⟨Int.le_refl _, fun _ => Nat.le_refl _⟩
  | n + 1, k, h => by
    have hle := argmin_le f n
    rw [argmin]
    by_cases hk : k ≤ n
    · have ih := argmin_least f n k hk
      split
      · exact ⟨by omega, fun e => by omega⟩
      · exact ih
    · have : k = n + 1 := by omega
      subst this
      split
      · exact ⟨Int.le_refl _, fun _ => Nat.le_refl _⟩
      · exact ⟨by omega, fun _ => by omega⟩
theorem argmin_congr {f g : Nat → Int} : ∀ n, (∀ k, k ≤ n → f k = g k) → argmin f n = argmin g n
  | 0, _ => rfl
  | n + 1, h => by
    have ih := argmin_congr n (fun k hk => h k (by omega))
    have hle := argmin_le g n
    rw [argmin, argmin, ih, h (n + 1) (Nat.le_refl _), h (argmin g n) (by omega)]

/-! ### What is left -/

def leftL : List Int → Int → List Int
  | [], _ => []
  | p :: r, a => if p ≤ a then leftL r (a - p) else (p - a) :: r
theorem leftL_place : ∀ (ps : List Int) (a : Int), leftL ps a = if (place ps a).1 < ps.length then (ps.getD (place ps a).1 0 - (place ps a).2) :: ps.drop ((place ps a).1 + 1) else []
  | [], a => by simp [leftL, place]
  | p :: r, a => by
    by_cases h : p ≤ a
    · have e1 : place (p :: r) a = ((place r (a - p)).1 + 1, (place r (a - p)).2) := by rw [place, if_pos h]
      have ih := leftL_place r (a - p)
      rw [leftL, if_pos h, ih, e1]
      simp
    · have e1 : place (p :: r) a = (0, a) := by rw [place, if_neg h]
      rw [leftL, if_neg h, e1]
      simp
theorem leftL_zero {ps : List Int} (h : ∀ y ∈ ps, 1 ≤ y) : leftL ps 0 = ps := by
  cases ps with
  | nil => rfl
  | cons p r => have := h p (by simp); rw [leftL, if_neg (by omega)]; simp
theorem leftL_mem : ∀ (ps : List Int) (a : Int), 0 ≤ a → (∀ y ∈ ps, 1 ≤ y ∧ y ≤ 400) → ∀ z ∈ leftL ps a, 1 ≤ z ∧ z ≤ 400
  | [], a, _, _, z, hz => by simp [leftL] at hz
  | p :: r, a, ha, h, z, hz => by
    have hp := h p (by simp)
    rw [leftL] at hz
    split at hz
    · exact leftL_mem r (a - p) (by omega) (fun y hy => h y (by simp [hy])) z hz
    · rcases List.mem_cons.1 hz with rfl | h1
      · omega
      · exact h z (by simp [h1])
theorem leftL_sum : ∀ (ps : List Int) (a : Int), 0 ≤ a → a ≤ ps.sum → (leftL ps a).sum = ps.sum - a
  | [], a, h0, h1 => by simp at h1; simp [leftL]; omega
  | p :: r, a, h0, h1 => by
    rw [leftL]
    split
    · rw [leftL_sum r (a - p) (by omega) (by simp at h1; omega)]; simp; omega
    · simp; omega
theorem leftL_len : ∀ (ps : List Int) (a : Int), (leftL ps a).length ≤ ps.length
  | [], a => by simp [leftL]
  | p :: r, a => by
    rw [leftL]
    split
    · have := leftL_len r (a - p); simp; omega
    · simp

theorem cutAll_append (vs : List Int) : ∀ (ws : List Int) (roll : Int) (j : Nat) (rest : List Int) (frm : Int), ∃ roll' j' rest' frm', cutAll (ws ++ vs) roll j rest frm = cutAll ws roll j rest frm ++ cutAll vs roll' j' rest' frm' ∧
    (∀ (ps : List Int) (x : Int), (∀ y ∈ ps, 1 ≤ y) → At ps x j rest frm → 0 ≤ x → (∀ y ∈ ws, 1 ≤ y) → ws.sum ≤ ps.sum - x → At ps (x + ws.sum) j' rest' frm')
  | [], roll, j, rest, frm => ⟨roll, j, rest, frm, by simp [cutAll], fun ps x _ h _ _ _ => by simpa using h⟩
  | want :: ws, roll, j, rest, frm => by
    obtain ⟨roll', j', rest', frm', h1, h2⟩ := cutAll_append vs ws (roll + 1) (afterOne j rest frm want).1 (afterOne j rest frm want).2.1 (afterOne j rest frm want).2.2
    refine ⟨roll', j', rest', frm', by rw [List.cons_append, cutAll, h1, cutAll, List.append_assoc], fun ps x hp hA hx hw hs => ?_⟩
    have hwant := hw want (by simp)
    have hws' : ∀ y ∈ ws, 1 ≤ y := fun y hy => hw y (by simp [hy])
    have hsum := sum_pos ws hws'
    simp only [List.sum_cons] at hs
    have hc := cutOne_spec 0 ps hp rest j frm want x hA hx (by omega) (by omega)
    have := h2 ps (x + want) hp hc.2.1 (by omega) hws' (by omega)
    rw [List.sum_cons, show x + (want + ws.sum) = x + want + ws.sum by omega]
    exact this

/-- rolls that are just what is left of each parent have one piece each -/
theorem cut_left (ps : List Int) (hp : ∀ y ∈ ps, 1 ≤ y) : ∀ (k : Nat) (j : Nat) (roll : Int), ps.length - j = k → (cutAll (ps.drop j) roll j (ps.drop j) 0).length = (ps.drop j).length
  | 0, j, roll, h => by rw [List.drop_eq_nil_of_le (by omega)]; rfl
  | k + 1, j, roll, h => by
    have hj : j < ps.length := by omega
    have hpj := hp _ (getD_mem (xs := ps) (k := j) hj)
    have ih := cut_left ps hp k (j + 1) (roll + 1) (by omega)
    rw [drop_cons hj, cutAll, cutOne_full _ _ _ _ _ _ (by omega) (by omega), afterOne_full _ _ _ _ _ (by omega) (by omega), Int.sub_zero, Int.sub_self, cutOne_done _ _ _ _ _ (Int.le_refl _), afterOne_done _ _ _ _ (Int.le_refl _)]
    simp only [List.length_append, List.length_cons, List.length_nil]
    rw [ih]; omega

theorem pieces_more {ps ws : List Int} {skip : Int} (h : enough ps ws skip) :
    (pieces ps (ws ++ leftL ps (skip + ws.sum)) skip).length = (pieces ps ws skip).length + (leftL ps (skip + ws.sum)).length := by
  have hp : ∀ y ∈ ps, 1 ≤ y := fun y hy => (h.1.2 y hy).1
  have hw : ∀ y ∈ ws, 1 ≤ y := fun y hy => (h.2.1.2 y hy).1
  have hws := sum_pos ws hw
  have h3 := h.2.2.1
  have h4 := h.2.2.2
  obtain ⟨roll', j', rest', frm', h1, h2⟩ := cutAll_append (leftL ps (skip + ws.sum)) ws 0 (place ps skip).1 (ps.drop (place ps skip).1) (place ps skip).2
  have hA := h2 ps skip hp (At_start ps skip) h3 hw (by omega)
  unfold pieces
  rw [h1, List.length_append]
  congr 1
  obtain ⟨a1, rfl⟩ := hA
  have hs := place_spec ps (skip + ws.sum) hp (by omega) (by omega)
  rw [leftL_place]
  rw [a1] at hs ⊢
  simp only at hs ⊢
  by_cases hj : j' < ps.length
  · rw [if_pos hj, drop_cons hj]
    have hf := hs.2.2.1 hj
    rw [cutAll, cutOne_full _ _ _ _ _ _ (by omega) (by omega), afterOne_full _ _ _ _ _ (by omega) (by omega), Int.sub_self, cutOne_done _ _ _ _ _ (Int.le_refl _), afterOne_done _ _ _ _ (Int.le_refl _)]
    simp only [List.length_append, List.length_cons, List.length_nil]
    rw [cut_left ps hp _ (j' + 1) (roll' + 1) rfl]; omega
  · rw [if_neg hj]; rfl

theorem enough_more {ps ws : List Int} {skip : Int} (h : enough ps ws skip) (hl : ws.length + ps.length ≤ 60) : enough ps (ws ++ leftL ps (skip + ws.sum)) skip ∧ leftL ps (skip + (ws ++ leftL ps (skip + ws.sum)).sum) = [] := by
  have hw : ∀ y ∈ ws, 1 ≤ y := fun y hy => (h.2.1.2 y hy).1
  have hws := sum_pos ws hw
  have h3 := h.2.2.1
  have h4 := h.2.2.2
  have hsum := leftL_sum ps (skip + ws.sum) (by omega) (by omega)
  have hlen := leftL_len ps (skip + ws.sum)
  refine ⟨⟨h.1, ⟨by simp; omega, fun x hx => ?_⟩, h3, by simp; omega⟩, ?_⟩
  · rcases List.mem_append.1 hx with h1 | h1
    · exact h.2.1.2 x h1
    · exact leftL_mem ps _ (by omega) h.1.2 x h1
  · rw [List.sum_append, hsum, show skip + (ws.sum + (ps.sum - (skip + ws.sum))) = ps.sum by omega]
    have hs := place_spec ps ps.sum (fun y hy => (h.1.2 y hy).1) (by omega) (Int.le_refl _)
    rw [leftL_place, if_neg]
    intro hj
    have h5 := hs.2.2.1 hj
    have h6 := hs.2.2.2.1
    rw [drop_cons hj, List.sum_cons] at h6
    have := sum_pos (ps.drop ((place ps ps.sum).1 + 1)) (fun y hy => (h.1.2 y (List.mem_of_mem_drop hy)).1)
    omega
end Go.PR
