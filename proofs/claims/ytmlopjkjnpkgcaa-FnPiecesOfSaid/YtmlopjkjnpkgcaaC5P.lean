/-
  Splices, in plain words: places on parents, pieces, splices. No program here. No condition.
-/
import Derived.Test.YtmlopjkjnpkgcaaPlain
namespace Go.PR

/-- Valid lengths. -/
def okLen (xs : List Int) : Prop := xs.length ≤ 60 ∧ ∀ x ∈ xs, 1 ≤ x ∧ x ≤ 400
instance (xs : List Int) : Decidable (okLen xs) := by unfold okLen; infer_instance

def enough (ps ws : List Int) (skip : Int) : Prop := okLen ps ∧ okLen ws ∧ 0 ≤ skip ∧ skip ≤ ps.sum - ws.sum
instance (ps ws : List Int) (skip : Int) : Decidable (enough ps ws skip) := by unfold enough; infer_instance

theorem okLen.small {xs : List Int} (h : okLen xs) : ∀ x ∈ xs, -1000000 ≤ x ∧ x ≤ 1000000 := fun x hx => by have := h.2 x hx; omega
theorem sum_bound {xs : List Int} {lo hi : Int} (h : ∀ x ∈ xs, lo ≤ x ∧ x ≤ hi) : lo * xs.length ≤ xs.sum ∧ xs.sum ≤ hi * xs.length := by
  have := psum_bound h xs.length (Nat.le_refl _)
  rwa [psum_all] at this
theorem okLen.sum {xs : List Int} (h : okLen xs) : 0 ≤ xs.sum ∧ xs.sum ≤ 24000 := by
  have h1 := sum_bound h.2
  have h2 := h.1
  omega

/-- The parent and the place in it of a place of all the paper. -/
def place : List Int → Int → Nat × Int
  | [], a => (0, a)
  | p :: r, a => if p ≤ a then ((place r (a - p)).1 + 1, (place r (a - p)).2) else (0, a)

/-- A piece: its parent, its roll, where it begins, its length. -/
abbrev Pc := Int × Int × Int × Int

/-- The pieces of one roll, from the place frm of the first of these parents on. -/
def cutOne (roll : Int) : Nat → List Int → Int → Int → List Pc
  | _, [], _, _ => []
  | j, p :: r, frm, want => if want ≤ 0 then [] else if want < p - frm then [((j : Int), roll, frm, want)] else ((j : Int), roll, frm, p - frm) :: cutOne roll (j + 1) r 0 (want - (p - frm))
def afterOne : Nat → List Int → Int → Int → Nat × List Int × Int
  | j, [], frm, _ => (j, [], frm)
  | j, p :: r, frm, want => if want ≤ 0 then (j, p :: r, frm) else if want < p - frm then (j, p :: r, frm + want) else afterOne (j + 1) r 0 (want - (p - frm))
def cutAll : List Int → Int → Nat → List Int → Int → List Pc
  | [], _, _, _, _ => []
  | want :: ws, roll, j, rest, frm => cutOne roll j rest frm want ++ cutAll ws (roll + 1) (afterOne j rest frm want).1 (afterOne j rest frm want).2.1 (afterOne j rest frm want).2.2

def pieces (ps ws : List Int) (skip : Int) : List Pc := cutAll ws 0 (place ps skip).1 (ps.drop (place ps skip).1) (place ps skip).2

/-! ### One step -/

theorem cutOne_done (roll : Int) (j : Nat) (rest : List Int) (frm want : Int) (h : want ≤ 0) : cutOne roll j rest frm want = [] := by
  cases rest <;> simp [cutOne, h]
theorem afterOne_done (j : Nat) (rest : List Int) (frm want : Int) (h : want ≤ 0) : afterOne j rest frm want = (j, rest, frm) := by
  cases rest <;> simp [afterOne, h]
theorem cutOne_full (roll : Int) (j : Nat) (p : Int) (r : List Int) (frm want : Int) (h : 0 < want) (h2 : p - frm ≤ want) :
    cutOne roll j (p :: r) frm want = ((j : Int), roll, frm, p - frm) :: cutOne roll (j + 1) r 0 (want - (p - frm)) := by
  rw [cutOne, if_neg (by omega), if_neg (by omega)]
theorem afterOne_full (j : Nat) (p : Int) (r : List Int) (frm want : Int) (h : 0 < want) (h2 : p - frm ≤ want) :
    afterOne j (p :: r) frm want = afterOne (j + 1) r 0 (want - (p - frm)) := by
  rw [afterOne, if_neg (by omega), if_neg (by omega)]
theorem cutOne_part (roll : Int) (j : Nat) (p : Int) (r : List Int) (frm want : Int) (h : 0 < want) (h2 : want < p - frm) :
    cutOne roll j (p :: r) frm want = ((j : Int), roll, frm, want) :: cutOne roll j (p :: r) (frm + want) 0 := by
  rw [cutOne, if_neg (by omega), if_pos h2, cutOne_done _ _ _ _ _ (Int.le_refl _)]
theorem afterOne_part (j : Nat) (p : Int) (r : List Int) (frm want : Int) (h : 0 < want) (h2 : want < p - frm) :
    afterOne j (p :: r) frm want = afterOne j (p :: r) (frm + want) 0 := by
  rw [afterOne, if_neg (by omega), if_pos h2, afterOne_done _ _ _ _ (Int.le_refl _)]

/-- What is still to be cut: want of this roll, and then the rolls ws. -/
def todo (roll : Int) (ws : List Int) (j : Nat) (rest : List Int) (frm want : Int) : List Pc :=
  cutOne roll j rest frm want ++ cutAll ws (roll + 1) (afterOne j rest frm want).1 (afterOne j rest frm want).2.1 (afterOne j rest frm want).2.2
theorem todo_cons (roll : Int) (ws : List Int) (want : Int) (j : Nat) (rest : List Int) (frm : Int) : cutAll (want :: ws) roll j rest frm = todo roll ws j rest frm want := rfl
theorem todo_done (roll : Int) (ws : List Int) (j : Nat) (rest : List Int) (frm want : Int) (h : want ≤ 0) : todo roll ws j rest frm want = cutAll ws (roll + 1) j rest frm := by
  unfold todo; rw [cutOne_done _ _ _ _ _ h, afterOne_done _ _ _ _ h]; rfl
theorem todo_full (roll : Int) (ws : List Int) (j : Nat) (p : Int) (r : List Int) (frm want : Int) (h : 0 < want) (h2 : p - frm ≤ want) :
    todo roll ws j (p :: r) frm want = ((j : Int), roll, frm, p - frm) :: todo roll ws (j + 1) r 0 (want - (p - frm)) := by
  unfold todo; rw [cutOne_full _ _ _ _ _ _ h h2, afterOne_full _ _ _ _ _ h h2]; rfl
theorem todo_part (roll : Int) (ws : List Int) (j : Nat) (p : Int) (r : List Int) (frm want : Int) (h : 0 < want) (h2 : want < p - frm) :
    todo roll ws j (p :: r) frm want = ((j : Int), roll, frm, want) :: todo roll ws j (p :: r) (frm + want) 0 := by
  unfold todo; rw [cutOne_part _ _ _ _ _ _ h h2, afterOne_part _ _ _ _ _ h h2]; rfl

/-! ### Places -/

theorem place_lt {ps : List Int} {a : Int} {j : Nat} (hj : j < ps.length) (h : ps.getD j 0 ≤ a) : place (ps.drop j) a = ((place (ps.drop (j + 1)) (a - ps.getD j 0)).1 + 1, (place (ps.drop (j + 1)) (a - ps.getD j 0)).2) := by
  rw [drop_cons hj, place, if_pos h]
theorem place_ge {ps : List Int} {a : Int} {j : Nat} (hj : j < ps.length) (h : a < ps.getD j 0) : place (ps.drop j) a = (0, a) := by
  rw [drop_cons hj, place, if_neg (by omega)]
theorem place_end {ps : List Int} {a : Int} {j : Nat} (hj : ps.length ≤ j) : place (ps.drop j) a = (0, a) := by
  rw [List.drop_eq_nil_of_le hj, place]

/-- where a place lies: its parent is there, or it is the end -/
theorem place_spec : ∀ (ps : List Int) (a : Int), (∀ x ∈ ps, 1 ≤ x) → 0 ≤ a → a ≤ ps.sum →
    (place ps a).1 ≤ ps.length ∧ 0 ≤ (place ps a).2 ∧ ((place ps a).1 < ps.length → (place ps a).2 < ps.getD (place ps a).1 0) ∧ (ps.drop (place ps a).1).sum - (place ps a).2 = ps.sum - a ∧ ((place ps a).1 = ps.length → (place ps a).2 = 0)
  | [], a, _, h0, h1 => by simp at h1; simp [place]; omega
  | p :: r, a, hp, h0, h1 => by
    by_cases h : p ≤ a
    · have ih := place_spec r (a - p) (fun x hx => hp x (by simp [hx])) (by omega) (by simp at h1; omega)
      rw [place, if_pos h]
      simp only [List.length_cons, List.getD_cons_succ, List.drop_succ_cons, List.sum_cons]
      omega
    · rw [place, if_neg h]
      simp
      omega

/-! ### Splices -/

def cnt (pcs : List Pc) (k : Int) : Int := ((pcs.filter (fun p => decide (p.2.1 = k))).length : Nat)
theorem cnt_nil (k : Int) : cnt [] k = 0 := rfl
theorem cnt_snoc (pcs : List Pc) (p : Pc) (k : Int) : cnt (pcs ++ [p]) k = cnt pcs k + if p.2.1 = k then 1 else 0 := by
  unfold cnt
  rw [List.filter_append, List.length_append]
  by_cases h : p.2.1 = k <;> simp [h]
theorem cnt_bound (pcs : List Pc) (k : Int) : 0 ≤ cnt pcs k ∧ cnt pcs k ≤ pcs.length := by
  unfold cnt
  have := List.length_filter_le (fun p : Pc => decide (p.2.1 = k)) pcs
  omega
/-- for each of n rolls the number of its pieces, and c more -/
def counts (pcs : List Pc) (n : Nat) (c : Int) : List Int := (List.range n).map (fun k : Nat => cnt pcs (k : Int) + c)
theorem counts_length (pcs : List Pc) (n : Nat) (c : Int) : (counts pcs n c).length = n := by simp [counts]
theorem counts_getD (pcs : List Pc) (n : Nat) (c : Int) (k : Nat) (h : k < n) : (counts pcs n c).getD k 0 = cnt pcs k + c := by
  rw [getD_eq (by rw [counts_length]; exact h)]; simp [counts]
theorem counts_nil (n : Nat) (c : Int) : counts [] n c = List.replicate n c := by
  apply List.ext_getElem
  · simp [counts]
  · intro i h1 h2; simp [counts, cnt_nil]
theorem counts_snoc (pcs : List Pc) (p : Pc) (n : Nat) (c : Int) (h : 0 ≤ p.2.1 ∧ p.2.1 < n) : (counts pcs n c).set p.2.1.toNat ((counts pcs n c).getD p.2.1.toNat 0 + 1) = counts (pcs ++ [p]) n c := by
  rw [counts_getD _ _ _ _ (by omega)]
  apply List.ext_getElem
  · simp [counts]
  · intro i h1 h2
    rw [List.getElem_set]
    simp only [counts, List.getElem_map, List.getElem_range, cnt_snoc]
    by_cases e : p.2.1.toNat = i
    · subst e
      rw [if_pos rfl, if_pos (by omega)]
      omega
    · rw [if_neg e, if_neg (by omega)]
      omega

/-- the rolls of the pieces -/
theorem cutOne_roll (roll : Int) : ∀ (rest : List Int) (j : Nat) (frm want : Int), ∀ q ∈ cutOne roll j rest frm want, q.2.1 = roll
  | [], j, frm, want, q, hq => by simp [cutOne] at hq
  | p :: r, j, frm, want, q, hq => by
    rw [cutOne] at hq
    split at hq
    · simp at hq
    · split at hq
      · simp at hq; subst hq; rfl
      · rcases List.mem_cons.1 hq with h | h
        · subst h; rfl
        · exact cutOne_roll roll r _ _ _ q h
theorem cutAll_roll : ∀ (ws : List Int) (roll : Int) (j : Nat) (rest : List Int) (frm : Int), ∀ q ∈ cutAll ws roll j rest frm, roll ≤ q.2.1 ∧ q.2.1 < roll + ws.length
  | [], roll, j, rest, frm, q, hq => by simp [cutAll] at hq
  | want :: ws, roll, j, rest, frm, q, hq => by
    rw [cutAll] at hq
    rcases List.mem_append.1 hq with h | h
    · have := cutOne_roll roll rest j frm want q h
      simp; omega
    · have := cutAll_roll ws (roll + 1) _ _ _ q h
      simp at this ⊢; omega
theorem pieces_roll (ps ws : List Int) (skip : Int) : ∀ q ∈ pieces ps ws skip, 0 ≤ q.2.1 ∧ q.2.1 < ws.length := by
  intro q hq
  have := cutAll_roll ws 0 _ _ _ q hq
  omega

/-- how many pieces there are at the most -/
theorem cutOne_len (roll : Int) : ∀ (rest : List Int) (j : Nat) (frm want : Int), (cutOne roll j rest frm want).length + (afterOne j rest frm want).2.1.length ≤ rest.length + 1
  | [], j, frm, want => by simp [cutOne, afterOne]
  | p :: r, j, frm, want => by
    have ih := cutOne_len roll r (j + 1) 0 (want - (p - frm))
    rw [cutOne, afterOne]
    split
    · simp
    · split
      · simp; omega
      · simp; omega
theorem cutAll_len : ∀ (ws : List Int) (roll : Int) (j : Nat) (rest : List Int) (frm : Int), (cutAll ws roll j rest frm).length ≤ rest.length + ws.length
  | [], roll, j, rest, frm => by simp [cutAll]
  | want :: ws, roll, j, rest, frm => by
    have h1 := cutOne_len roll rest j frm want
    have h2 := cutAll_len ws (roll + 1) (afterOne j rest frm want).1 (afterOne j rest frm want).2.1 (afterOne j rest frm want).2.2
    rw [cutAll]
    simp only [List.length_append, List.length_cons]
    omega
theorem pieces_len (ps ws : List Int) (skip : Int) : (pieces ps ws skip).length ≤ ps.length + ws.length := by
  have := cutAll_len ws 0 (place ps skip).1 (ps.drop (place ps skip).1) (place ps skip).2
  unfold pieces
  simp only [List.length_drop] at this
  omega
end Go.PR
