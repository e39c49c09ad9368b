/-
  Plain facts on reels, parts and defects. No condition.
-/
import Derived.Test.YtnecmchcemnopaaPlain
namespace Go.PR

/-- a defect: lanes, places, grade -/
structure Dfc where
  l : Int
  r : Int
  f : Int
  t : Int
  g : Int
/-- a part: lanes, places -/
structure Prt where
  l : Int
  r : Int
  f : Int
  t : Int
/-- a stretch: places -/
structure Str where
  f : Int
  t : Int
/-- a reel: lanes, places, defects -/
structure Rel where
  w : Int
  n : Int
  ds : List Dfc

theorem Dfc.ext' {a b : Dfc} (h1 : a.l = b.l) (h2 : a.r = b.r) (h3 : a.f = b.f) (h4 : a.t = b.t) (h5 : a.g = b.g) : a = b := by
  cases a; cases b; simp at h1 h2 h3 h4 h5; simp [*]
theorem Prt.ext' {a b : Prt} (h1 : a.l = b.l) (h2 : a.r = b.r) (h3 : a.f = b.f) (h4 : a.t = b.t) : a = b := by
  cases a; cases b; simp at h1 h2 h3 h4; simp [*]
theorem Str.ext' {a b : Str} (h1 : a.f = b.f) (h2 : a.t = b.t) : a = b := by
  cases a; cases b; simp at h1 h2; simp [*]
theorem Rel.ext' {a b : Rel} (h1 : a.w = b.w) (h2 : a.n = b.n) (h3 : a.ds = b.ds) : a = b := by
  cases a; cases b; simp at h1 h2 h3; simp [*]

def dz : Dfc := ⟨0, 0, 0, 0, 0⟩
def pz : Prt := ⟨0, 0, 0, 0⟩
def sz0 : Str := ⟨0, 0⟩
def rz : Rel := ⟨0, 0, []⟩

theorem getM {α : Type} {xs : List α} {z : α} {k : Nat} (h : k < xs.length) : xs.getD k z ∈ xs := by
  rw [List.getD_eq_getElem?_getD, List.getElem?_eq_getElem h]; exact List.getElem_mem h
theorem takeS {α : Type} {xs : List α} {z : α} {k : Nat} (h : k < xs.length) : xs.take (k + 1) = xs.take k ++ [xs.getD k z] := by
  rw [List.take_succ_eq_append_getElem h, List.getD_eq_getElem?_getD, List.getElem?_eq_getElem h]; rfl
theorem all_getD {α : Type} {xs : List α} {z : α} {p : α → Prop} (h : ∀ j, j < xs.length → p (xs.getD j z)) : ∀ x ∈ xs, p x := by
  intro x hx
  obtain ⟨j, hj, rfl⟩ := List.getElem_of_mem hx
  have := h j hj
  rwa [List.getD_eq_getElem?_getD, List.getElem?_eq_getElem hj] at this
theorem eq_getD {α : Type} {xs ys : List α} {z : α} (hl : xs.length = ys.length) (h : ∀ j, j < xs.length → xs.getD j z = ys.getD j z) : xs = ys := by
  apply List.ext_getElem hl
  intro i h1 h2
  have := h i h1
  rwa [List.getD_eq_getElem?_getD, List.getD_eq_getElem?_getD, List.getElem?_eq_getElem h1, List.getElem?_eq_getElem h2] at this

def okT (w n : Int) (p : Prt) : Prop := 0 ≤ p.l ∧ p.l < p.r ∧ p.r ≤ w ∧ 0 ≤ p.f ∧ p.f < p.t ∧ p.t ≤ n
instance (w n : Int) (p : Prt) : Decidable (okT w n p) := by unfold okT; infer_instance
def okD (w n : Int) (d : Dfc) : Prop := (0 ≤ d.l ∧ d.l < d.r ∧ d.r ≤ w ∧ 0 ≤ d.f ∧ d.f < d.t ∧ d.t ≤ n) ∧ 1 ≤ d.g ∧ d.g ≤ 9
instance (w n : Int) (d : Dfc) : Decidable (okD w n d) := by unfold okD; infer_instance
def okR (x : Rel) : Prop := (1 ≤ x.w ∧ x.w ≤ 60) ∧ (1 ≤ x.n ∧ x.n ≤ 400) ∧ x.ds.length ≤ 16 ∧ ∀ d ∈ x.ds, okD x.w x.n d
instance (x : Rel) : Decidable (okR x) := by unfold okR; infer_instance
def meetT (a b : Prt) : Prop := a.l < b.r ∧ b.l < a.r ∧ a.f < b.t ∧ b.f < a.t
instance (a b : Prt) : Decidable (meetT a b) := by unfold meetT; infer_instance
def partD (d : Dfc) : Prt := ⟨d.l, d.r, d.f, d.t⟩
def meetD (d : Dfc) (p : Prt) : Prop := d.l < p.r ∧ p.l < d.r ∧ d.f < p.t ∧ p.f < d.t
instance (d : Dfc) (p : Prt) : Decidable (meetD d p) := by unfold meetD; infer_instance
def wholeF (x : Rel) : Prt := ⟨0, x.w, 0, x.n⟩
theorem whole_ok {x : Rel} (h : okR x) : okT x.w x.n (wholeF x) := by
  obtain ⟨h1, h2, _⟩ := h; unfold okT wholeF; simp only; omega
theorem meetD_whole {x : Rel} {d : Dfc} (h : okD x.w x.n d) : meetD d (wholeF x) := by
  unfold okD at h; unfold meetD wholeF; simp only; omega

/-! ### The worst grade -/

def worstL (ds : List Dfc) (p : Prt) : Int := ds.foldl (fun n d => if meetD d p then max n d.g else n) 0
theorem worstL_snoc (ds : List Dfc) (d : Dfc) (p : Prt) : worstL (ds ++ [d]) p = if meetD d p then max (worstL ds p) d.g else worstL ds p := by
  unfold worstL; rw [List.foldl_append]; rfl
theorem worstL_step {ds : List Dfc} {k : Nat} (h : k < ds.length) (p : Prt) : worstL (ds.take (k + 1)) p = if meetD (ds.getD k dz) p then max (worstL (ds.take k) p) (ds.getD k dz).g else worstL (ds.take k) p := by
  rw [takeS (z := dz) h, worstL_snoc]
theorem rev_ind {α : Type} {P : List α → Prop} (h0 : P []) (h1 : ∀ xs x, P xs → P (xs ++ [x])) : ∀ xs, P xs := by
  intro xs
  have : ∀ k, k ≤ xs.length → P (xs.take k) := by
    intro k
    induction k with
    | zero => intro _; simpa using h0
    | succ k ih =>
      intro hk
      rw [List.take_succ_eq_append_getElem (by omega)]
      exact h1 _ _ (ih (by omega))
  have h := this xs.length (Nat.le_refl _)
  rwa [List.take_length] at h
theorem worst_nonneg (ds : List Dfc) (p : Prt) : 0 ≤ worstL ds p := by
  induction ds using rev_ind with
  | h0 => exact Int.le_refl _
  | h1 xs d ih => rw [worstL_snoc]; split <;> omega
theorem worst_ge {ds : List Dfc} {p : Prt} : ∀ d ∈ ds, meetD d p → d.g ≤ worstL ds p := by
  induction ds using rev_ind with
  | h0 => intro d hd; simp at hd
  | h1 xs d ih =>
    intro e he hm
    rw [worstL_snoc]
    rcases List.mem_append.1 he with h | h
    · have := ih e h hm; split <;> omega
    · simp at h; subst h; rw [if_pos hm]; omega
theorem worst_at (ds : List Dfc) (p : Prt) : worstL ds p = 0 ∨ ∃ d ∈ ds, meetD d p ∧ d.g = worstL ds p := by
  induction ds using rev_ind with
  | h0 => exact .inl rfl
  | h1 xs d ih =>
    rw [worstL_snoc]
    split
    · rename_i hm
      by_cases h : worstL xs p ≤ d.g
      · right; exact ⟨d, by simp, hm, by omega⟩
      · rcases ih with ih | ⟨e, h1, h2, h3⟩
        · left; rw [ih] at h ⊢; omega
        · right; exact ⟨e, by simp [h1], h2, by omega⟩
    · rcases ih with ih | ⟨e, h1, h2, h3⟩
      · exact .inl ih
      · right; exact ⟨e, by simp [h1], h2, h3⟩
theorem worst_eq {ds : List Dfc} {p : Prt} {n : Int} (h0 : 0 ≤ n) (h1 : ∀ d ∈ ds, meetD d p → d.g ≤ n) (h2 : n = 0 ∨ ∃ d ∈ ds, meetD d p ∧ d.g = n) : worstL ds p = n := by
  have a1 := worst_nonneg ds p
  rcases worst_at ds p with a | ⟨d, b1, b2, b3⟩
  · rcases h2 with h2 | ⟨e, c1, c2, c3⟩
    · omega
    · have := worst_ge e c1 c2; omega
  · have a2 := h1 d b1 b2
    rcases h2 with h2 | ⟨e, c1, c2, c3⟩
    · omega
    · have := worst_ge e c1 c2; omega
theorem worst_gt {ds : List Dfc} {p : Prt} {m : Int} (hm : 0 ≤ m) : m < worstL ds p ↔ ∃ d ∈ ds, meetD d p ∧ m < d.g := by
  constructor
  · intro h
    rcases worst_at ds p with a | ⟨d, b1, b2, b3⟩
    · omega
    · exact ⟨d, b1, b2, by omega⟩
  · rintro ⟨d, h1, h2, h3⟩
    have := worst_ge d h1 h2; omega
theorem worst_bound {x : Rel} (h : okR x) (p : Prt) : 0 ≤ worstL x.ds p ∧ worstL x.ds p ≤ 9 := by
  refine ⟨worst_nonneg _ _, ?_⟩
  rcases worst_at x.ds p with a | ⟨d, b1, b2, b3⟩
  · omega
  · have := h.2.2.2 d b1; unfold okD at this; omega
def worstF (x : Rel) (p : Prt) : Int := if okR x ∧ okT x.w x.n p then worstL x.ds p else -1

/-! ### Parts of reels -/

def cutD (p : Prt) (d : Dfc) : Dfc := ⟨max d.l p.l - p.l, min d.r p.r - p.l, max d.f p.f - p.f, min d.t p.t - p.f, d.g⟩
def cutL (ds : List Dfc) (p : Prt) : List Dfc := (ds.filter (fun d => decide (meetD d p))).map (cutD p)
theorem cutL_cons (d : Dfc) (ds : List Dfc) (p : Prt) : cutL (d :: ds) p = if meetD d p then cutD p d :: cutL ds p else cutL ds p := by
  unfold cutL
  by_cases h : meetD d p <;> simp [h]
theorem cutL_append (xs ys : List Dfc) (p : Prt) : cutL (xs ++ ys) p = cutL xs p ++ cutL ys p := by simp [cutL]
theorem cutL_step {ds : List Dfc} {k : Nat} (h : k < ds.length) (p : Prt) : cutL (ds.take (k + 1)) p = if meetD (ds.getD k dz) p then cutL (ds.take k) p ++ [cutD p (ds.getD k dz)] else cutL (ds.take k) p := by
  rw [takeS (z := dz) h, cutL_append, cutL_cons]
  split <;> simp [cutL]
theorem cutL_length (ds : List Dfc) (p : Prt) : (cutL ds p).length ≤ ds.length := by
  unfold cutL; rw [List.length_map]; exact List.length_filter_le _ _
theorem mem_cutL {ds : List Dfc} {p : Prt} {e : Dfc} : e ∈ cutL ds p ↔ ∃ d ∈ ds, meetD d p ∧ cutD p d = e := by
  unfold cutL
  simp only [List.mem_map, List.mem_filter, decide_eq_true_eq]
  constructor
  · rintro ⟨d, ⟨h1, h2⟩, h3⟩; exact ⟨d, h1, h2, h3⟩
  · rintro ⟨d, h1, h2, h3⟩; exact ⟨d, ⟨h1, h2⟩, h3⟩
def cutN (x : Rel) (p : Prt) : Rel := ⟨p.r - p.l, p.t - p.f, cutL x.ds p⟩
def cutF (x : Rel) (p : Prt) : Rel := if okR x ∧ okT x.w x.n p then cutN x p else rz
theorem cutN_ok {x : Rel} {p : Prt} (h : okR x) (hp : okT x.w x.n p) : okR (cutN x p) := by
  obtain ⟨h1, h2, h3, h4⟩ := h
  unfold okT at hp
  refine ⟨by simp only [cutN]; omega, by simp only [cutN]; omega, Nat.le_trans (cutL_length _ _) h3, fun e he => ?_⟩
  obtain ⟨d, hd, hm, rfl⟩ := mem_cutL.1 he
  have := h4 d hd
  unfold okD at this ⊢
  unfold meetD at hm
  simp only [cutN, cutD]
  omega
theorem cut_worst {x : Rel} {p : Prt} (hp : okT x.w x.n p) : worstL (cutN x p).ds (wholeF (cutN x p)) = worstL x.ds p := by
  refine worst_eq (worst_nonneg _ _) ?_ ?_
  · intro e he _
    obtain ⟨d, hd, hm, rfl⟩ := mem_cutL.1 he
    exact worst_ge d hd hm
  · rcases worst_at x.ds p with a | ⟨d, b1, b2, b3⟩
    · exact .inl a
    · right
      refine ⟨cutD p d, mem_cutL.2 ⟨d, b1, b2, rfl⟩, ?_, b3⟩
      unfold okT at hp; unfold meetD at b2 ⊢; simp only [cutD, wholeF, cutN]; omega
theorem cut_whole {x : Rel} (h : okR x) : cutN x (wholeF x) = x := by
  obtain ⟨_, _, _, h4⟩ := h
  refine Rel.ext' (by simp [cutN, wholeF]) (by simp [cutN, wholeF]) ?_
  show cutL x.ds (wholeF x) = x.ds
  have : ∀ ds : List Dfc, (∀ d ∈ ds, okD x.w x.n d) → cutL ds (wholeF x) = ds := by
    intro ds
    induction ds with
    | nil => intro _; rfl
    | cons d ds ih =>
      intro h
      have hd := h d (by simp)
      rw [cutL_cons, if_pos (meetD_whole hd), ih (fun e he => h e (by simp [he]))]
      congr 1
      unfold okD at hd
      refine Dfc.ext' ?_ ?_ ?_ ?_ rfl <;> simp only [cutD, wholeF] <;> omega
  exact this _ h4
/-- a part of a part -/
def movedP (q p : Prt) : Prt := ⟨q.l + p.l, q.r + p.l, q.f + p.f, q.t + p.f⟩
theorem cut_cut {x : Rel} {p q : Prt} (hp : okT x.w x.n p) (hq : okT (cutN x p).w (cutN x p).n q) : cutN (cutN x p) q = cutN x (movedP q p) := by
  refine Rel.ext' (by simp only [cutN, movedP]; omega) (by simp only [cutN, movedP]; omega) ?_
  show cutL (cutL x.ds p) q = cutL x.ds (movedP q p)
  unfold okT at hp hq
  simp only [cutN] at hq
  induction x.ds with
  | nil => rfl
  | cons d ds ih =>
    rw [cutL_cons, cutL_cons]
    by_cases h1 : meetD d p
    · rw [if_pos h1, cutL_cons]
      by_cases h2 : meetD (cutD p d) q
      · rw [if_pos h2, if_pos (by unfold meetD at h1 h2 ⊢; simp only [cutD, movedP] at h2 ⊢; omega), ih]
        congr 1
        refine Dfc.ext' ?_ ?_ ?_ ?_ rfl <;> simp only [cutD, movedP] <;> omega
      · rw [if_neg h2, if_neg (by unfold meetD at h1 h2 ⊢; simp only [cutD, movedP] at h2 ⊢; omega), ih]
    · rw [if_neg h1, if_neg (by unfold meetD at h1 ⊢; simp only [movedP] at h1 ⊢; omega), ih]
theorem moved_ok {x : Rel} {p q : Prt} (hp : okT x.w x.n p) (hq : okT (cutN x p).w (cutN x p).n q) : okT x.w x.n (movedP q p) := by
  unfold okT at hp hq ⊢; simp only [cutN, movedP] at hq ⊢; omega

/-! ### Reels from the other end -/

def turnD (n : Int) (d : Dfc) : Dfc := ⟨d.l, d.r, n - d.t, n - d.f, d.g⟩
def turnN (x : Rel) : Rel := ⟨x.w, x.n, x.ds.map (turnD x.n)⟩
def turnF (x : Rel) : Rel := if okR x then turnN x else rz
theorem map_step {α β : Type} {xs : List α} {z : α} {k : Nat} (g : α → β) (h : k < xs.length) : (xs.take (k + 1)).map g = (xs.take k).map g ++ [g (xs.getD k z)] := by
  rw [takeS (z := z) h]; simp
theorem turnN_ok {x : Rel} (h : okR x) : okR (turnN x) := by
  obtain ⟨h1, h2, h3, h4⟩ := h
  refine ⟨h1, h2, by simpa [turnN] using h3, fun e he => ?_⟩
  obtain ⟨d, hd, rfl⟩ := List.mem_map.1 he
  have := h4 d hd
  unfold okD at this ⊢
  simp only [turnN, turnD]
  omega
theorem turn_turn (x : Rel) : turnN (turnN x) = x := by
  refine Rel.ext' rfl rfl ?_
  simp only [turnN, List.map_map]
  have : (turnD x.n ∘ turnD x.n) = id := by
    funext d
    refine Dfc.ext' rfl rfl ?_ ?_ rfl <;> simp [turnD] <;> omega
  rw [this, List.map_id]
theorem turn_worst {x : Rel} (h : okR x) : worstL (turnN x).ds (wholeF (turnN x)) = worstL x.ds (wholeF x) := by
  refine worst_eq (worst_nonneg _ _) ?_ ?_
  · intro e he _
    obtain ⟨d, hd, rfl⟩ := List.mem_map.1 he
    exact worst_ge d hd (meetD_whole (h.2.2.2 d hd))
  · rcases worst_at x.ds (wholeF x) with a | ⟨d, b1, b2, b3⟩
    · exact .inl a
    · right
      exact ⟨turnD x.n d, List.mem_map.2 ⟨d, b1, rfl⟩, meetD_whole ((turnN_ok h).2.2.2 _ (List.mem_map.2 ⟨d, b1, rfl⟩)), b3⟩

/-! ### Reels one behind the other -/

def shiftD (n : Int) (d : Dfc) : Dfc := ⟨d.l, d.r, d.f + n, d.t + n, d.g⟩
def joinN (a b : Rel) : Rel := ⟨a.w, a.n + b.n, a.ds ++ b.ds.map (shiftD a.n)⟩
def joinOk (a b : Rel) : Prop := okR a ∧ okR b ∧ a.w = b.w ∧ okR (joinN a b)
instance (a b : Rel) : Decidable (joinOk a b) := by unfold joinOk; infer_instance
def joinF (a b : Rel) : Rel := if joinOk a b then joinN a b else rz
theorem cut_left {a b : Rel} (h : joinOk a b) : cutN (joinN a b) ⟨0, a.w, 0, a.n⟩ = a := by
  obtain ⟨ha, hb, hw, hj⟩ := h
  refine Rel.ext' (by simp [cutN]) (by simp [cutN]) ?_
  show cutL (a.ds ++ b.ds.map (shiftD a.n)) ⟨0, a.w, 0, a.n⟩ = a.ds
  rw [cutL_append]
  have h1 : cutL a.ds ⟨0, a.w, 0, a.n⟩ = a.ds := congrArg Rel.ds (cut_whole ha)
  have h2 : cutL (b.ds.map (shiftD a.n)) ⟨0, a.w, 0, a.n⟩ = [] := by
    apply List.eq_nil_iff_forall_not_mem.2
    intro e he
    obtain ⟨d, hd, hm, _⟩ := mem_cutL.1 he
    obtain ⟨d', hd', rfl⟩ := List.mem_map.1 hd
    have := hb.2.2.2 d' hd'
    unfold okD at this
    unfold meetD at hm
    simp only [shiftD] at hm
    omega
  rw [h1, h2, List.append_nil]
theorem cut_right {a b : Rel} (h : joinOk a b) : cutN (joinN a b) ⟨0, a.w, a.n, a.n + b.n⟩ = b := by
  obtain ⟨ha, hb, hw, hj⟩ := h
  refine Rel.ext' (by simp [cutN]; omega) (by simp only [cutN]; omega) ?_
  show cutL (a.ds ++ b.ds.map (shiftD a.n)) ⟨0, a.w, a.n, a.n + b.n⟩ = b.ds
  rw [cutL_append]
  have h1 : cutL a.ds ⟨0, a.w, a.n, a.n + b.n⟩ = [] := by
    apply List.eq_nil_iff_forall_not_mem.2
    intro e he
    obtain ⟨d, hd, hm, _⟩ := mem_cutL.1 he
    have := ha.2.2.2 d hd
    unfold okD at this
    unfold meetD at hm
    simp only at hm
    omega
  have h2 : ∀ ds : List Dfc, (∀ d ∈ ds, okD b.w b.n d) → cutL (ds.map (shiftD a.n)) ⟨0, a.w, a.n, a.n + b.n⟩ = ds := by
    intro ds
    induction ds with
    | nil => intro _; rfl
    | cons d ds ih =>
      intro h
      have hd := h d (by simp)
      unfold okD at hd
      rw [List.map_cons, cutL_cons, if_pos (by unfold meetD; simp only [shiftD]; omega), ih (fun e he => h e (by simp [he]))]
      congr 1
      refine Dfc.ext' ?_ ?_ ?_ ?_ rfl <;> simp only [cutD, shiftD] <;> omega
  rw [h1, h2 _ hb.2.2.2, List.nil_append]
theorem turn_left {a b : Rel} (h : joinOk a b) : cutN (turnN (joinN a b)) ⟨0, b.w, 0, b.n⟩ = turnN b := by
  obtain ⟨ha, hb, hw, hj⟩ := h
  refine Rel.ext' (by simp [cutN, turnN]) (by simp [cutN, turnN]) ?_
  show cutL ((a.ds ++ b.ds.map (shiftD a.n)).map (turnD (a.n + b.n))) ⟨0, b.w, 0, b.n⟩ = b.ds.map (turnD b.n)
  rw [List.map_append, cutL_append, List.map_map]
  have h1 : cutL (a.ds.map (turnD (a.n + b.n))) ⟨0, b.w, 0, b.n⟩ = [] := by
    apply List.eq_nil_iff_forall_not_mem.2
    intro e he
    obtain ⟨d, hd, hm, _⟩ := mem_cutL.1 he
    obtain ⟨d', hd', rfl⟩ := List.mem_map.1 hd
    have := ha.2.2.2 d' hd'
    unfold okD at this
    unfold meetD at hm
    simp only [turnD] at hm
    omega
  have h2 : ∀ ds : List Dfc, (∀ d ∈ ds, okD b.w b.n d) → cutL (ds.map (turnD (a.n + b.n) ∘ shiftD a.n)) ⟨0, b.w, 0, b.n⟩ = ds.map (turnD b.n) := by
    intro ds
    induction ds with
    | nil => intro _; rfl
    | cons d ds ih =>
      intro h
      have hd := h d (by simp)
      unfold okD at hd
      rw [List.map_cons, List.map_cons, cutL_cons, if_pos (by unfold meetD; simp only [Function.comp, shiftD, turnD]; omega), ih (fun e he => h e (by simp [he]))]
      congr 1
      refine Dfc.ext' ?_ ?_ ?_ ?_ rfl <;> simp only [cutD, Function.comp, shiftD, turnD] <;> omega
  rw [h1, h2 _ hb.2.2.2, List.nil_append]
theorem turn_right {a b : Rel} (h : joinOk a b) : cutN (turnN (joinN a b)) ⟨0, b.w, b.n, a.n + b.n⟩ = turnN a := by
  obtain ⟨ha, hb, hw, hj⟩ := h
  refine Rel.ext' (by simp only [cutN, turnN]; omega) (by simp only [cutN, turnN]; omega) ?_
  show cutL ((a.ds ++ b.ds.map (shiftD a.n)).map (turnD (a.n + b.n))) ⟨0, b.w, b.n, a.n + b.n⟩ = a.ds.map (turnD a.n)
  rw [List.map_append, cutL_append, List.map_map]
  have h1 : cutL (b.ds.map (turnD (a.n + b.n) ∘ shiftD a.n)) ⟨0, b.w, b.n, a.n + b.n⟩ = [] := by
    apply List.eq_nil_iff_forall_not_mem.2
    intro e he
    obtain ⟨d, hd, hm, _⟩ := mem_cutL.1 he
    obtain ⟨d', hd', rfl⟩ := List.mem_map.1 hd
    have := hb.2.2.2 d' hd'
    unfold okD at this
    unfold meetD at hm
    simp only [Function.comp, shiftD, turnD] at hm
    omega
  have h2 : ∀ ds : List Dfc, (∀ d ∈ ds, okD a.w a.n d) → cutL (ds.map (turnD (a.n + b.n))) ⟨0, b.w, b.n, a.n + b.n⟩ = ds.map (turnD a.n) := by
    intro ds
    induction ds with
    | nil => intro _; rfl
    | cons d ds ih =>
      intro h
      have hd := h d (by simp)
      unfold okD at hd
      rw [List.map_cons, List.map_cons, cutL_cons, if_pos (by unfold meetD; simp only [turnD]; omega), ih (fun e he => h e (by simp [he]))]
      congr 1
      refine Dfc.ext' ?_ ?_ ?_ ?_ rfl <;> simp only [cutD, turnD] <;> omega
  rw [h1, h2 _ ha.2.2.2, List.append_nil]
theorem cutF_len (x : Rel) (p : Prt) : (cutF x p).ds.length ≤ 1048576 := by
  unfold cutF
  split
  · rename_i h
    have h1 := cutL_length x.ds p
    have h2 := h.1.2.2.1
    show (cutL x.ds p).length ≤ _
    omega
  · simp [rz]
theorem turnF_len (x : Rel) : (turnF x).ds.length ≤ 1048576 := by
  unfold turnF
  split
  · rename_i h
    have h2 := h.2.2.1
    simp [turnN]
    omega
  · simp [rz]
theorem joinF_len (a b : Rel) : (joinF a b).ds.length ≤ 1048576 := by
  unfold joinF
  split
  · rename_i h
    have h2 := h.2.2.2.2.2.1
    omega
  · simp [rz]
end Go.PR
