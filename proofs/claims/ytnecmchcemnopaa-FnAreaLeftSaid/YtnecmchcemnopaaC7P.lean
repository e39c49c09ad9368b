/-
  Plain facts on cuts of a reel. No condition.
-/
import Derived.Test.YtnecmchcemnopaaC2Q
namespace Go.PR

/-- parts of a reel, no two of them with a lane and a place in common -/
def okC (x : Rel) (ps : List Prt) : Prop := okR x ∧ ps.length ≤ 60 ∧ (∀ p ∈ ps, okT x.w x.n p) ∧ ps.Pairwise (fun a b => ¬ meetT b a)
instance (x : Rel) (ps : List Prt) : Decidable (okC x ps) := by unfold okC; infer_instance
theorem meetT_comm {a b : Prt} : meetT a b ↔ meetT b a := by unfold meetT; omega
theorem okC.at {x : Rel} {ps : List Prt} (h : okC x ps) {i : Nat} (hi : i < ps.length) : okT x.w x.n (ps.getD i pz) := h.2.2.1 _ (getM hi)
/-- what the look at the first k of them tells -/
def okN (x : Rel) (ps : List Prt) (k : Nat) : Prop := (∀ p ∈ ps.take k, okT x.w x.n p) ∧ (ps.take k).Pairwise (fun a b => ¬ meetT b a)
theorem okN_zero (x : Rel) (ps : List Prt) : okN x ps 0 := ⟨by simp, by simp⟩
theorem okN_step {x : Rel} {ps : List Prt} {k : Nat} (h : k < ps.length) : okN x ps (k + 1) ↔ okN x ps k ∧ okT x.w x.n (ps.getD k pz) ∧ ∀ q ∈ ps.take k, ¬ meetT (ps.getD k pz) q := by
  unfold okN
  rw [takeS (z := pz) h, List.pairwise_append]
  simp only [List.mem_append, List.mem_singleton]
  constructor
  · rintro ⟨h1, h2, _, h4⟩
    exact ⟨⟨fun p hp => h1 p (.inl hp), h2⟩, h1 _ (.inr rfl), fun q hq => h4 q hq _ rfl⟩
  · rintro ⟨⟨h1, h2⟩, h3, h4⟩
    refine ⟨fun p hp => ?_, h2, by simp, fun q hq r hr => ?_⟩
    · rcases hp with hp | rfl
      · exact h1 p hp
      · exact h3
    · subst hr; exact h4 q hq
theorem okN_all {x : Rel} {ps : List Prt} : okC x ps ↔ okR x ∧ ps.length ≤ 60 ∧ okN x ps ps.length := by
  unfold okC okN; rw [List.take_length]
theorem okN_less {x : Rel} {ps : List Prt} {j k : Nat} (hjk : j ≤ k) (h : okN x ps k) : okN x ps j := by
  obtain ⟨h1, h2⟩ := h
  have e : ps.take j = (ps.take k).take j := by rw [List.take_take, Nat.min_eq_left hjk]
  rw [okN, e]
  exact ⟨fun p hp => h1 p (List.mem_of_mem_take hp), h2.sublist (List.take_sublist _ _)⟩

/-! ### Which part has a lane and a place -/

def inP (p : Prt) (a b : Int) : Prop := p.l ≤ a ∧ a < p.r ∧ p.f ≤ b ∧ b < p.t
instance (p : Prt) (a b : Int) : Decidable (inP p a b) := by unfold inP; infer_instance
/-- the first one of the first k that has them, -1 if there is none -/
def whichN (ps : List Prt) (a b : Int) : Nat → Int
  | 0 => -1
  | k + 1 => if 0 ≤ whichN ps a b k then whichN ps a b k else if inP (ps.getD k pz) a b then (k : Int) else -1
theorem whichN_range (ps : List Prt) (a b : Int) : ∀ k : Nat, -1 ≤ whichN ps a b k ∧ whichN ps a b k < k
  | 0 => by simp [whichN]
  | k + 1 => by have ih := whichN_range ps a b k; rw [whichN]; split <;> (try split) <;> omega
theorem whichN_none {ps : List Prt} {a b : Int} : ∀ {k : Nat}, whichN ps a b k < 0 → whichN ps a b k = -1 := fun {k} h => by have := whichN_range ps a b k; omega
theorem whichN_in {ps : List Prt} {a b : Int} : ∀ k : Nat, 0 ≤ whichN ps a b k → inP (ps.getD (whichN ps a b k).toNat pz) a b
  | 0, h => by simp [whichN] at h
  | k + 1, h => by
    rw [whichN] at h ⊢
    split at h
    · rename_i h1; rw [if_pos h1]; exact whichN_in k h1
    · rename_i h1
      rw [if_neg h1]
      split at h
      · rename_i h2; rw [if_pos h2]; simpa using h2
      · omega
theorem whichN_not {ps : List Prt} {a b : Int} : ∀ k : Nat, whichN ps a b k < 0 ↔ ∀ j, j < k → ¬ inP (ps.getD j pz) a b
  | 0 => by simp [whichN]
  | k + 1 => by
    have ih := whichN_not (ps := ps) (a := a) (b := b) k
    rw [whichN]
    split
    · rename_i h1
      constructor
      · intro h; omega
      · intro h
        have := ih.2 (fun j hj => h j (by omega))
        omega
    · rename_i h1
      have h3 := ih.1 (by omega)
      split
      · rename_i h2
        constructor
        · intro h; omega
        · intro h; exact absurd h2 (h k (by omega))
      · rename_i h2
        constructor
        · intro _ j hj
          by_cases e : j = k
          · subst e; exact h2
          · exact h3 j (by omega)
        · intro _; omega
theorem whichN_stay {ps : List Prt} {a b : Int} {j : Nat} (h : 0 ≤ whichN ps a b j) : ∀ d, whichN ps a b (j + d) = whichN ps a b j
  | 0 => rfl
  | d + 1 => by rw [← Nat.add_assoc, whichN, whichN_stay h d, if_pos h]
theorem whichN_hit {ps : List Prt} {a b : Int} {j : Nat} (h : whichN ps a b j < 0) (hi : inP (ps.getD j pz) a b) {n : Nat} (hn : j < n) : whichN ps a b n = j := by
  have h1 : whichN ps a b (j + 1) = j := by rw [whichN, if_neg (by omega), if_pos hi]
  have h2 := whichN_stay (j := j + 1) (by rw [h1]; omega) (n - (j + 1))
  rw [show j + 1 + (n - (j + 1)) = n by omega, h1] at h2
  exact h2
def whichF (ps : List Prt) (a b : Int) : Int := whichN ps a b ps.length
theorem whichF_range (ps : List Prt) (a b : Int) : -1 ≤ whichF ps a b ∧ whichF ps a b < ps.length := whichN_range ps a b ps.length
/-- no other part has them -/
theorem which_one {x : Rel} {ps : List Prt} (h : okC x ps) {i : Nat} (hi : i < ps.length) {a b : Int} (hin : inP (ps.getD i pz) a b) : whichF ps a b = i := by
  refine whichN_hit ((whichN_not i).2 (fun j hj hjn => ?_)) hin hi
  have hp := List.pairwise_iff_getElem.1 h.2.2.2 j i (by omega) hi hj
  have e1 : ps.getD i pz = ps[i] := by rw [List.getD_eq_getElem?_getD, List.getElem?_eq_getElem hi]; rfl
  have e2 : ps.getD j pz = ps[j]'(by omega) := by rw [List.getD_eq_getElem?_getD, List.getElem?_eq_getElem (by omega)]; rfl
  apply hp
  rw [← e1, ← e2]
  unfold inP at hin hjn
  unfold meetT
  omega
def rollF (x : Rel) (ps : List Prt) (a b : Int) : Int × Int × Int :=
  if okC x ps ∧ 0 ≤ whichF ps a b then (whichF ps a b, a - (ps.getD (whichF ps a b).toNat pz).l, b - (ps.getD (whichF ps a b).toNat pz).f) else (-1, -1, -1)
def okAt (x : Rel) (ps : List Prt) (i a b : Int) : Prop := okC x ps ∧ (0 ≤ i ∧ i < ps.length) ∧ (0 ≤ a ∧ a < (ps.getD i.toNat pz).r - (ps.getD i.toNat pz).l) ∧ (0 ≤ b ∧ b < (ps.getD i.toNat pz).t - (ps.getD i.toNat pz).f)
instance (x : Rel) (ps : List Prt) (i a b : Int) : Decidable (okAt x ps i a b) := by unfold okAt; infer_instance
def reelF (x : Rel) (ps : List Prt) (i a b : Int) : Int × Int :=
  if okAt x ps i a b then ((ps.getD i.toNat pz).l + a, (ps.getD i.toNat pz).f + b) else (-1, -1)
theorem roll_reel {x : Rel} {ps : List Prt} {i a b : Int} (h : okAt x ps i a b) : rollF x ps (reelF x ps i a b).1 (reelF x ps i a b).2 = (i, a, b) := by
  have hh := h
  obtain ⟨h1, h2, h3, h4⟩ := h
  have hw := which_one h1 (i := i.toNat) (by omega) (a := (ps.getD i.toNat pz).l + a) (b := (ps.getD i.toNat pz).f + b) (by unfold inP; omega)
  unfold reelF
  rw [if_pos hh]
  unfold rollF
  simp only [hw]
  rw [if_pos ⟨h1, by omega⟩]
  simp only [Int.toNat_natCast]
  rw [show (i.toNat : Int) = i by omega]
  congr 1
  congr 1 <;> omega
theorem reel_roll {x : Rel} {ps : List Prt} {a b : Int} (h : okC x ps ∧ 0 ≤ whichF ps a b) : reelF x ps (rollF x ps a b).1 (rollF x ps a b).2.1 (rollF x ps a b).2.2 = (a, b) := by
  have hin := whichN_in ps.length h.2
  have hr := whichF_range ps a b
  have hin : inP (ps.getD (whichF ps a b).toNat pz) a b := hin
  unfold rollF
  rw [if_pos h]
  simp only
  unfold inP at hin
  unfold reelF
  rw [if_pos ⟨h.1, ⟨h.2, hr.2⟩, by omega, by omega⟩]
  congr 1 <;> omega

/-! ### Which parts a defect meets -/

def rollsN (ps : List Prt) (d : Dfc) : Nat → List Int
  | 0 => []
  | k + 1 => if meetD d (ps.getD k pz) then rollsN ps d k ++ [(k : Int)] else rollsN ps d k
theorem rollsN_length (ps : List Prt) (d : Dfc) : ∀ k, (rollsN ps d k).length ≤ k
  | 0 => by simp [rollsN]
  | k + 1 => by have := rollsN_length ps d k; rw [rollsN]; split <;> simp <;> omega
theorem mem_rollsN {ps : List Prt} {d : Dfc} {y : Int} : ∀ {k : Nat}, y ∈ rollsN ps d k ↔ 0 ≤ y ∧ y < k ∧ meetD d (ps.getD y.toNat pz)
  | 0 => by simp [rollsN]; omega
  | k + 1 => by
    have ih := mem_rollsN (ps := ps) (d := d) (y := y) (k := k)
    rw [rollsN]
    split
    · rename_i h
      rw [List.mem_append, ih]
      simp only [List.mem_singleton]
      constructor
      · rintro (h1 | h1)
        · exact ⟨h1.1, by omega, h1.2.2⟩
        · subst h1; exact ⟨by omega, by omega, by simpa using h⟩
      · rintro ⟨h1, h2, h3⟩
        by_cases e : y = k
        · exact .inr e
        · exact .inl ⟨h1, by omega, h3⟩
    · rename_i h
      rw [ih]
      constructor
      · rintro ⟨h1, h2, h3⟩; exact ⟨h1, by omega, h3⟩
      · rintro ⟨h1, h2, h3⟩
        by_cases e : y = k
        · subst e; exact absurd (by simpa using h3) h
        · exact ⟨h1, by omega, h3⟩
def rollsF (x : Rel) (ps : List Prt) (i : Int) : List Int := if okC x ps ∧ 0 ≤ i ∧ i < x.ds.length then rollsN ps (x.ds.getD i.toNat dz) ps.length else []
/-- without one element -/
def less {α : Type} (xs : List α) (i : Nat) : List α := xs.take i ++ xs.drop (i + 1)
theorem less_length {α : Type} {xs : List α} {i : Nat} (h : i < xs.length) : (less xs i).length = xs.length - 1 := by unfold less; simp; omega
theorem less_sub {α : Type} (xs : List α) (i : Nat) : List.Sublist (less xs i) xs := by
  unfold less
  have h1 : xs.take i ++ xs.drop i = xs := List.take_append_drop i xs
  have h2 : List.Sublist (xs.drop (i + 1)) (xs.drop i) := by
    rw [← List.drop_drop]; exact List.drop_sublist _ _
  calc List.Sublist (xs.take i ++ xs.drop (i + 1)) (xs.take i ++ xs.drop i) := List.Sublist.append (List.Sublist.refl _) h2
    _ = xs := h1
theorem less_split {α : Type} {xs : List α} {i : Nat} {z : α} (h : i < xs.length) : xs = xs.take i ++ xs.getD i z :: xs.drop (i + 1) := by
  rw [List.getD_eq_getElem?_getD, List.getElem?_eq_getElem h]
  simp
theorem okC_less {x : Rel} {ps : List Prt} (h : okC x ps) (i : Nat) : okC x (less ps i) := by
  obtain ⟨h1, h2, h3, h4⟩ := h
  have hs := less_sub ps i
  exact ⟨h1, Nat.le_trans hs.length_le h2, fun p hp => h3 p (hs.subset hp), h4.sublist hs⟩
theorem okC_nil {x : Rel} (h : okR x) : okC x [] := ⟨h, by simp, by simp, by simp⟩
theorem okR_less {x : Rel} (h : okR x) (i : Nat) : okR ⟨x.w, x.n, less x.ds i⟩ := by
  obtain ⟨h1, h2, h3, h4⟩ := h
  have hs := less_sub x.ds i
  exact ⟨h1, h2, Nat.le_trans hs.length_le h3, fun p hp => h4 p (hs.subset hp)⟩
theorem worst_less {ds : List Dfc} {i : Nat} (h : i < ds.length) (p : Prt) : worstL ds p = if meetD (ds.getD i dz) p then max (worstL (less ds i) p) (ds.getD i dz).g else worstL (less ds i) p := by
  have hm : ∀ e : Dfc, e ∈ ds ↔ e ∈ less ds i ∨ e = ds.getD i dz := fun e => by
    unfold less
    constructor
    · intro he
      rw [less_split (z := dz) h] at he
      simp only [List.mem_append, List.mem_cons] at he ⊢
      rcases he with he | he | he
      · exact .inl (.inl he)
      · exact .inr he
      · exact .inl (.inr he)
    · intro he
      rw [less_split (z := dz) h]
      simp only [List.mem_append, List.mem_cons] at he ⊢
      rcases he with (he | he) | he
      · exact .inl he
      · exact .inr (.inr he)
      · exact .inr (.inl he)
  have hn := worst_nonneg (less ds i) p
  split
  · rename_i hd
    refine worst_eq (by omega) (fun e he hk => ?_) ?_
    · rcases (hm e).1 he with h1 | h1
      · have := worst_ge e h1 hk; omega
      · subst h1; omega
    · by_cases hc : worstL (less ds i) p ≤ (ds.getD i dz).g
      · right; exact ⟨_, (hm _).2 (.inr rfl), hd, by omega⟩
      · rcases worst_at (less ds i) p with a | ⟨e, b1, b2, b3⟩
        · left; omega
        · right; exact ⟨e, (hm e).2 (.inl b1), b2, by omega⟩
  · rename_i hd
    refine worst_eq hn (fun e he hk => ?_) ?_
    · rcases (hm e).1 he with h1 | h1
      · exact worst_ge e h1 hk
      · subst h1; exact absurd hk hd
    · rcases worst_at (less ds i) p with a | ⟨e, b1, b2, b3⟩
      · exact .inl a
      · right; exact ⟨e, (hm e).2 (.inl b1), b2, b3⟩

/-! ### The area that no part has -/

def areaT (p : Prt) : Int := (p.r - p.l) * (p.t - p.f)
def cutA (ps : List Prt) : Int := (ps.map areaT).sum
theorem cutA_step {ps : List Prt} {k : Nat} (h : k < ps.length) : cutA (ps.take (k + 1)) = cutA (ps.take k) + areaT (ps.getD k pz) := by
  unfold cutA; rw [map_step (z := pz) areaT h]; simp
theorem cutA_less {ps : List Prt} {i : Nat} (h : i < ps.length) : cutA ps = cutA (less ps i) + areaT (ps.getD i pz) := by
  have e : cutA ps = cutA (ps.take i ++ ps.getD i pz :: ps.drop (i + 1)) := by rw [← less_split h]
  rw [e]
  unfold cutA less
  simp
  omega
theorem areaT_bound {x : Rel} (h : okR x) {p : Prt} (hp : okT x.w x.n p) : 1 ≤ areaT p ∧ areaT p ≤ 24000 := by
  unfold okT at hp
  obtain ⟨h1, h2, _⟩ := h
  have a : (p.r - p.l) * (p.t - p.f) ≤ 60 * 400 := Int.mul_le_mul (by omega) (by omega) (by omega) (by omega)
  have b : 1 * 1 ≤ (p.r - p.l) * (p.t - p.f) := Int.mul_le_mul (by omega) (by omega) (by omega) (by omega)
  unfold areaT
  omega
theorem cutA_bound {x : Rel} (h : okR x) : ∀ {ps : List Prt}, (∀ p ∈ ps, okT x.w x.n p) → 0 ≤ cutA ps ∧ cutA ps ≤ 24000 * ps.length
  | [], _ => by simp [cutA]
  | p :: ps, hp => by
    have h1 := cutA_bound h (ps := ps) (fun q hq => hp q (by simp [hq]))
    have h2 := areaT_bound h (hp p (by simp))
    have e : cutA (p :: ps) = areaT p + cutA ps := by simp [cutA]
    rw [e, List.length_cons]
    omega
def leftF (x : Rel) (ps : List Prt) : Int := if okC x ps then x.w * x.n - cutA ps else -1
/-- 1 if no part has the lane and the place -/
def freeN (ps : List Prt) (a b : Nat) : Int := if whichF ps a b < 0 then 1 else 0
def gridN (ps : List Prt) (n : Nat) (a : Nat) : Int := smN (freeN ps a) n
theorem ind_sum (lo hi : Int) (c : Int) : ∀ n : Nat, 0 ≤ lo → lo ≤ hi → hi ≤ n → smN (fun k => if lo ≤ k ∧ (k : Int) < hi then c else 0) n = c * (hi - lo)
  | 0, h1, h2, h3 => by
    have : hi - lo = 0 := by omega
    rw [this, Int.mul_zero]; rfl
  | n + 1, h1, h2, h3 => by
    rw [smN]
    by_cases e : hi ≤ n
    · rw [ind_sum lo hi c n h1 h2 e, if_neg (by omega)]; omega
    · by_cases e2 : lo = hi
      · have : smN (fun k => if lo ≤ k ∧ (k : Int) < hi then c else 0) n = smN (fun _ => 0) n := smN_congr (fun k hk => by rw [if_neg (by omega)])
        rw [this, smN_const, if_neg (by omega), e2, Int.sub_self, Int.mul_zero]; omega
      · have h4 : smN (fun k => if lo ≤ k ∧ (k : Int) < hi then c else 0) n = smN (fun k => if lo ≤ k ∧ (k : Int) < n then c else 0) n := smN_congr (fun k hk => by
          by_cases h : lo ≤ k
          · rw [if_pos ⟨h, by omega⟩, if_pos ⟨h, by omega⟩]
          · rw [if_neg (by omega), if_neg (by omega)])
        rw [h4, ind_sum lo n c n h1 (by omega) (by omega), if_pos (by omega), show hi - lo = (n - lo) + 1 by omega, Int.mul_add, Int.mul_one]
theorem which_snoc {ps : List Prt} {p : Prt} {a b : Int} : whichF (ps ++ [p]) a b < 0 ↔ whichF ps a b < 0 ∧ ¬ inP p a b := by
  unfold whichF
  rw [whichN_not, whichN_not]
  constructor
  · intro h
    refine ⟨fun j hj => ?_, ?_⟩
    · have := h j (by simp; omega)
      rwa [List.getD_eq_getElem?_getD, List.getElem?_append_left hj, ← List.getD_eq_getElem?_getD] at this
    · have := h ps.length (by simp)
      rwa [List.getD_eq_getElem?_getD, List.getElem?_append_right (Nat.le_refl _), Nat.sub_self] at this
  · rintro ⟨h1, h2⟩ j hj
    by_cases e : j < ps.length
    · rw [List.getD_eq_getElem?_getD, List.getElem?_append_left e, ← List.getD_eq_getElem?_getD]; exact h1 j e
    · have : j = ps.length := by simp at hj; omega
      subst this
      rw [List.getD_eq_getElem?_getD, List.getElem?_append_right (Nat.le_refl _), Nat.sub_self]; exact h2
theorem grid_all {x : Rel} (hx : okR x) (ps : List Prt) : okC x ps → smN (gridN ps x.n.toNat) x.w.toNat = x.w * x.n - cutA ps := by
  obtain ⟨hx1, hx2, _⟩ := hx
  induction ps using rev_ind with
  | h0 =>
    intro _
    have h1 : smN (gridN [] x.n.toNat) x.w.toNat = smN (fun _ => x.n) x.w.toNat := smN_congr (fun k _ => by
      have : gridN [] x.n.toNat k = smN (fun _ => 1) x.n.toNat := smN_congr (fun j _ => by unfold freeN; rw [if_pos (by simp [whichF, whichN])])
      rw [this, smN_const]; omega)
    rw [h1, smN_const]
    have : cutA [] = 0 := rfl
    rw [this, show (x.w.toNat : Int) = x.w by omega, Int.mul_comm]; omega
  | h1 ps p ih =>
    intro h
    obtain ⟨c1, c2, c3, c4⟩ := h
    rw [List.pairwise_append] at c4
    have hps : okC x ps := ⟨c1, by simp at c2; omega, fun q hq => c3 q (by simp [hq]), c4.1⟩
    have hp := c3 p (by simp)
    unfold okT at hp
    have ih := ih hps
    have e : cutA (ps ++ [p]) = cutA ps + areaT p := by simp [cutA]
    have free : ∀ a b : Nat, freeN ps a b = freeN (ps ++ [p]) a b + if inP p a b then 1 else 0 := fun a b => by
      unfold freeN
      by_cases h1 : whichF ps a b < 0
      · by_cases h2 : inP p a b
        · rw [if_pos h1, if_neg (fun h => (which_snoc.1 h).2 h2), if_pos h2]; rfl
        · rw [if_pos h1, if_pos (which_snoc.2 ⟨h1, h2⟩), if_neg h2]; rfl
      · have h2 : ¬ inP p a b := by
          intro h2
          have h3 := whichN_in ps.length (show 0 ≤ whichN ps a b ps.length by have : whichF ps a b = whichN ps a b ps.length := rfl; omega)
          have hr := whichN_range ps a b ps.length
          have hm : ps.getD (whichN ps a b ps.length).toNat pz ∈ ps := getM (by have : whichF ps a b = whichN ps a b ps.length := rfl; omega)
          have := c4.2.2 _ hm p (by simp)
          apply this
          unfold inP at h2 h3
          unfold meetT
          omega
        rw [if_neg h1, if_neg (fun h => h1 (which_snoc.1 h).1), if_neg h2]; rfl
    have row : ∀ a : Nat, gridN ps x.n.toNat a = gridN (ps ++ [p]) x.n.toNat a + if p.l ≤ a ∧ (a : Int) < p.r then p.t - p.f else 0 := fun a => by
      unfold gridN
      rw [show freeN ps a = fun b => freeN (ps ++ [p]) a b + if inP p a b then 1 else 0 from funext (free a)]
      rw [smN_add (freeN (ps ++ [p]) a) (fun b => if inP p a b then 1 else 0)]
      congr 1
      by_cases hl : p.l ≤ a ∧ (a : Int) < p.r
      · rw [if_pos hl]
        have : smN (fun b : Nat => if inP p a b then (1 : Int) else 0) x.n.toNat = smN (fun b : Nat => if p.f ≤ b ∧ (b : Int) < p.t then (1 : Int) else 0) x.n.toNat := smN_congr (fun k _ => by
          by_cases h : p.f ≤ k ∧ (k : Int) < p.t
          · rw [if_pos h, if_pos ⟨hl.1, hl.2, h.1, h.2⟩]
          · rw [if_neg h, if_neg (fun h2 => h ⟨h2.2.2.1, h2.2.2.2⟩)])
        rw [this, ind_sum _ _ _ _ (by omega) (by omega) (by omega), Int.one_mul]
      · rw [if_neg hl]
        have : smN (fun b : Nat => if inP p a b then (1 : Int) else 0) x.n.toNat = smN (fun _ => 0) x.n.toNat := smN_congr (fun k _ => by
          rw [if_neg (fun h2 => hl ⟨h2.1, h2.2.1⟩)])
        rw [this, smN_const, Int.zero_mul]
    have all : smN (gridN ps x.n.toNat) x.w.toNat = smN (gridN (ps ++ [p]) x.n.toNat) x.w.toNat + areaT p := by
      rw [show gridN ps x.n.toNat = fun a => gridN (ps ++ [p]) x.n.toNat a + if p.l ≤ a ∧ (a : Int) < p.r then p.t - p.f else 0 from funext row]
      rw [smN_add (gridN (ps ++ [p]) x.n.toNat) (fun a => if p.l ≤ a ∧ (a : Int) < p.r then p.t - p.f else 0), ind_sum _ _ _ _ (by omega) (by omega) (by omega)]
      unfold areaT
      rw [Int.mul_comm]
    omega
end Go.PR
