/-
  Plain facts on bad places, good stretches and the longest of them. No condition.
-/
import Derived.Test.YtnecmchcemnopaaC2P
namespace Go.PR

/-! ### Lists of truths -/

def boolsOf (n : Nat) (p : Nat → Bool) : List Bool := (List.range n).map p
theorem boolsOf_length (n : Nat) (p : Nat → Bool) : (boolsOf n p).length = n := by simp [boolsOf]
theorem boolsOf_getD {n : Nat} {p : Nat → Bool} {k : Nat} (h : k < n) : (boolsOf n p).getD k false = p k := by
  unfold boolsOf; rw [List.getD_eq_getElem?_getD]; simp [h]
theorem boolsOf_congr {n : Nat} {p q : Nat → Bool} (h : ∀ k, k < n → p k = q k) : boolsOf n p = boolsOf n q := by
  apply eq_getD (z := false) (by rw [boolsOf_length, boolsOf_length])
  intro j hj
  rw [boolsOf_length] at hj
  rw [boolsOf_getD hj, boolsOf_getD hj, h j hj]
theorem boolsOf_false (n : Nat) : boolsOf n (fun _ => false) = List.replicate n false := by
  apply List.ext_getElem <;> simp [boolsOf]
theorem boolsOf_set {n : Nat} {p : Nat → Bool} {k : Nat} (h : k < n) : (boolsOf n p).set k true = boolsOf n (fun j => p j || decide (j = k)) := by
  apply eq_getD (z := false) (by rw [List.length_set, boolsOf_length, boolsOf_length])
  intro j hj
  rw [List.length_set, boolsOf_length] at hj
  rw [boolsOf_getD hj, List.getD_eq_getElem?_getD]
  by_cases e : k = j
  · subst e; simp [boolsOf_length, hj]
  · rw [List.getElem?_set_ne e, ← List.getD_eq_getElem?_getD, boolsOf_getD hj]
    simp [show ¬ j = k by omega]

/-- whether a defect is too bad for some lanes -/
def tooBad (l r most : Int) (d : Dfc) : Prop := most < d.g ∧ d.l < r ∧ l < d.r
instance (l r most : Int) (d : Dfc) : Decidable (tooBad l r most d) := by unfold tooBad; infer_instance
def badAt (ds : List Dfc) (l r most : Int) (k : Nat) : Bool := ds.any (fun d => decide (tooBad l r most d ∧ d.f ≤ k ∧ k < d.t))
theorem badAt_iff {ds : List Dfc} {l r most : Int} {k : Nat} : badAt ds l r most k = true ↔ ∃ d ∈ ds, tooBad l r most d ∧ d.f ≤ k ∧ k < d.t := by
  unfold badAt; simp [List.any_eq_true]
theorem badAt_snoc (ds : List Dfc) (d : Dfc) (l r most : Int) (k : Nat) : badAt (ds ++ [d]) l r most k = (badAt ds l r most k || decide (tooBad l r most d ∧ d.f ≤ k ∧ k < d.t)) := by
  simp [badAt]
def badL (ds : List Dfc) (l r most n : Int) : List Bool := boolsOf n.toNat (badAt ds l r most)
theorem badL_length (ds : List Dfc) (l r most n : Int) : (badL ds l r most n).length = n.toNat := boolsOf_length _ _
theorem badL_none (l r most n : Int) : badL [] l r most n = List.replicate n.toNat false := by
  unfold badL; rw [← boolsOf_false]; rfl
/-- the bad places, the defect d half done -/
def badH (ds : List Dfc) (l r most n : Int) (d : Dfc) (k : Int) : List Bool := boolsOf n.toNat (fun j => badAt ds l r most j || decide (d.f ≤ j ∧ (j : Int) < k))
theorem badH_length (ds : List Dfc) (l r most n : Int) (d : Dfc) (k : Int) : (badH ds l r most n d k).length = n.toNat := boolsOf_length _ _
theorem badH_first (ds : List Dfc) (l r most n : Int) (d : Dfc) : badH ds l r most n d d.f = badL ds l r most n := by
  unfold badH badL
  refine boolsOf_congr (fun k _ => ?_)
  rw [show decide (d.f ≤ k ∧ (k : Int) < d.f) = false from decide_eq_false (by omega), Bool.or_false]
theorem badH_step {ds : List Dfc} {l r most n : Int} {d : Dfc} {k : Int} (h0 : 0 ≤ k) (h1 : d.f ≤ k) (h2 : k < n) : (badH ds l r most n d k).set k.toNat true = badH ds l r most n d (k + 1) := by
  unfold badH
  rw [boolsOf_set (by omega)]
  refine boolsOf_congr (fun j _ => ?_)
  rw [Bool.or_assoc]
  congr 1
  rw [← Bool.decide_or]
  exact decide_eq_decide.2 (by omega)
theorem badL_next {ds : List Dfc} {l r most n : Int} {k : Nat} (h : k < ds.length) : badL (ds.take (k + 1)) l r most n = if tooBad l r most (ds.getD k dz) then badH (ds.take k) l r most n (ds.getD k dz) (ds.getD k dz).t else badL (ds.take k) l r most n := by
  rw [takeS (z := dz) h]
  unfold badL badH
  split
  · rename_i ht
    refine boolsOf_congr (fun j _ => ?_)
    rw [badAt_snoc]
    congr 1
    exact decide_eq_decide.2 ⟨fun a => ⟨a.2.1, a.2.2⟩, fun a => ⟨ht, a.1, a.2⟩⟩
  · rename_i ht
    refine boolsOf_congr (fun j _ => ?_)
    rw [badAt_snoc, decide_eq_false (fun a => ht a.1), Bool.or_false]

/-! ### Good stretches -/

/-- the closed stretches of the first k places, and where the open one begins -/
def clN (b : List Bool) : Nat → List Str × Nat
  | 0 => ([], 0)
  | k + 1 => match clN b k with
    | (xs, fr) => if b.getD k false = true then (if fr < k then xs ++ [⟨fr, k⟩] else xs, k + 1) else (xs, fr)
def opN (b : List Bool) (k : Nat) : List Str := (clN b k).1 ++ if (clN b k).2 < k then [⟨(clN b k).2, k⟩] else []
def strL (b : List Bool) : List Str := opN b b.length
theorem clN_bad {b : List Bool} {k : Nat} (h : b.getD k false = true) : clN b (k + 1) = (opN b k, k + 1) := by
  unfold opN
  rw [clN]
  rcases e : clN b k with ⟨xs, fr⟩
  simp only [h, if_true]
  split <;> simp
theorem clN_good {b : List Bool} {k : Nat} (h : b.getD k false = false) : clN b (k + 1) = clN b k := by
  rw [clN]
  rcases e : clN b k with ⟨xs, fr⟩
  simp only [h, Bool.false_eq_true, if_false]
theorem clN_fr (b : List Bool) : ∀ k, (clN b k).2 ≤ k
  | 0 => Nat.le_refl _
  | k + 1 => by
    have ih := clN_fr b k
    cases h : b.getD k false
    · rw [clN_good h]; omega
    · rw [clN_bad h]; exact Nat.le_refl _
/-- from the open stretch's beginning on all places are good, and the one ahead of it is bad -/
theorem clN_open (b : List Bool) : ∀ k, (∀ j, (clN b k).2 ≤ j → j < k → b.getD j false = false) ∧ ((clN b k).2 = 0 ∨ b.getD ((clN b k).2 - 1) false = true)
  | 0 => ⟨fun j _ h => by omega, .inl rfl⟩
  | k + 1 => by
    obtain ⟨h1, h2⟩ := clN_open b k
    cases h : b.getD k false
    · rw [clN_good h]
      refine ⟨fun j a c => ?_, h2⟩
      by_cases e : j = k
      · subst e; exact h
      · exact h1 j a (by omega)
    · rw [clN_bad h]
      refine ⟨fun j a c => ?_, .inr h⟩
      simp only at a
      omega
theorem opN_bad {b : List Bool} {k : Nat} (h : b.getD k false = true) : opN b (k + 1) = opN b k := by
  show (clN b (k + 1)).1 ++ _ = _
  rw [clN_bad h]; simp
/-- a good place opens a stretch, or prolongs the last one -/
theorem opN_new {b : List Bool} {k : Nat} (h : b.getD k false = false) (h2 : k = 0 ∨ b.getD (k - 1) false = true) : opN b (k + 1) = opN b k ++ [⟨k, (k + 1 : Nat)⟩] := by
  have hf : (clN b k).2 = k := by
    rcases h2 with rfl | h2
    · rfl
    · cases k with
      | zero => rfl
      | succ k => rw [clN_bad (by simpa using h2)]
  unfold opN
  rw [clN_good h, hf]
  simp
theorem opN_more {b : List Bool} {k : Nat} (h : b.getD k false = false) (h2 : ¬ (k = 0 ∨ b.getD (k - 1) false = true)) : ∃ (xs : List Str) (fr : Int), opN b k = xs ++ [⟨fr, (k : Int)⟩] ∧ opN b (k + 1) = xs ++ [⟨fr, ((k + 1 : Nat) : Int)⟩] ∧ 0 ≤ fr ∧ fr < k := by
  have hf : (clN b k).2 < k := by
    have h3 := clN_open b k
    have h4 := clN_fr b k
    apply Classical.byContradiction
    intro h5
    have : (clN b k).2 = k := by omega
    rw [this] at h3
    exact h2 h3.2
  refine ⟨(clN b k).1, ((clN b k).2 : Int), ?_, ?_, by omega, by omega⟩
  · unfold opN; rw [if_pos hf]
  · unfold opN; rw [clN_good h, if_pos (by omega)]

/-- a stretch of good places that cannot be longer -/
def isStr (b : List Bool) (n : Nat) (s : Str) : Prop := 0 ≤ s.f ∧ s.f < s.t ∧ s.t ≤ n ∧ (∀ j : Nat, s.f ≤ j → j < s.t → b.getD j false = false) ∧ (s.f = 0 ∨ b.getD (s.f.toNat - 1) false = true) ∧ (s.t = n ∨ b.getD s.t.toNat false = true)
/-- ascending, with a gap between -/
def strAsc (xs : List Str) : Prop := xs.Pairwise (fun a c => a.t < c.f)
theorem clN_str (b : List Bool) : ∀ k, strAsc (clN b k).1 ∧ (∀ s ∈ (clN b k).1, s.t < (clN b k).2) ∧ ∀ s : Str, s ∈ (clN b k).1 ↔ (isStr b k s ∧ s.t < (clN b k).2)
  | 0 => by
    refine ⟨List.Pairwise.nil, fun s hs => ?_, fun s => ⟨fun hs => ?_, fun hs => ?_⟩⟩
    · simp [clN] at hs
    · simp [clN] at hs
    · exfalso; have := hs.1.1; have := hs.1.2.1; have := hs.2; simp [clN] at this; omega
  | k + 1 => by
    obtain ⟨h1, h2, h3⟩ := clN_str b k
    obtain ⟨o1, o2⟩ := clN_open b k
    have hf := clN_fr b k
    cases h : b.getD k false
    · rw [clN_good h]
      refine ⟨h1, h2, fun s => ?_⟩
      rw [h3]
      unfold isStr
      constructor
      · rintro ⟨⟨a1, a2, a3, a4, a5, a6⟩, a7⟩
        refine ⟨⟨a1, a2, by omega, a4, a5, .inr ?_⟩, a7⟩
        rcases a6 with a6 | a6
        · omega
        · exact a6
      · rintro ⟨⟨a1, a2, a3, a4, a5, a6⟩, a7⟩
        refine ⟨⟨a1, a2, by omega, a4, a5, ?_⟩, a7⟩
        rcases a6 with a6 | a6
        · omega
        · exact .inr a6
    · rw [clN_bad h]
      simp only [opN]
      generalize (clN b k).1 = xs at *
      generalize (clN b k).2 = fr at *
      have key : ∀ s : Str, s ∈ xs ++ (if fr < k then [⟨fr, k⟩] else []) ↔ (isStr b (k + 1) s ∧ s.t < ((k + 1 : Nat) : Int)) := by
        intro s
        rw [List.mem_append, h3]
        constructor
        · rintro (⟨⟨a1, a2, a3, a4, a5, a6⟩, a7⟩ | hs)
          · refine ⟨⟨a1, a2, by omega, a4, a5, ?_⟩, by omega⟩
            rcases a6 with a6 | a6
            · omega
            · exact .inr a6
          · split at hs
            · simp at hs
              subst hs
              refine ⟨⟨by simp only; omega, by simp only; omega, by simp only; omega, fun j x y => o1 j (by simp only at x; omega) (by simp only at y; omega), ?_, .inr (by simpa using h)⟩, by simp only; omega⟩
              rcases o2 with o2 | o2
              · left; simp only; omega
              · right; simpa using o2
            · simp at hs
        · rintro ⟨⟨a1, a2, a3, a4, a5, a6⟩, a7⟩
          have a8 : b.getD s.t.toNat false = true := by
            rcases a6 with a6 | a6
            · omega
            · exact a6
          by_cases e : s.t < fr
          · left
            exact ⟨⟨a1, a2, by omega, a4, a5, .inr a8⟩, e⟩
          · right
            have hk : s.t = k := by
              apply Classical.byContradiction
              intro hne
              have := o1 s.t.toNat (by omega) (by omega)
              rw [this] at a8; cases a8
            have hfr : s.f = fr := by
              apply Classical.byContradiction
              intro hne
              by_cases hl : s.f < fr
              · rcases o2 with o2 | o2
                · omega
                · have := a4 (fr - 1) (by omega) (by omega)
                  rw [this] at o2; cases o2
              · rcases a5 with a5 | a5
                · omega
                · have := o1 (s.f.toNat - 1) (by omega) (by omega)
                  rw [this] at a5; cases a5
            rw [if_pos (by omega)]
            simp
            exact Str.ext' hfr hk
      refine ⟨?_, fun s hs => ((key s).1 hs).2, key⟩
      split
      · refine List.pairwise_append.2 ⟨h1, by simp, fun s hs u hu => ?_⟩
        simp at hu
        subst hu
        exact h2 s hs
      · simpa using h1
theorem opN_str (b : List Bool) (k : Nat) : strAsc (opN b k) ∧ ∀ s : Str, s ∈ opN b k ↔ isStr b k s := by
  obtain ⟨h1, h2, h3⟩ := clN_str b k
  obtain ⟨o1, o2⟩ := clN_open b k
  have hf := clN_fr b k
  unfold opN
  generalize (clN b k).1 = xs at *
  generalize (clN b k).2 = fr at *
  constructor
  · split
    · refine List.pairwise_append.2 ⟨h1, by simp, fun s hs u hu => ?_⟩
      simp at hu
      subst hu
      exact h2 s hs
    · simpa using h1
  · intro s
    rw [List.mem_append, h3]
    constructor
    · rintro (⟨a, _⟩ | hs)
      · exact a
      · split at hs
        · simp at hs
          subst hs
          refine ⟨by simp only; omega, by simp only; omega, by simp only; omega, fun j x y => o1 j (by simp only at x; omega) (by simp only at y; omega), ?_, .inl rfl⟩
          rcases o2 with o2 | o2
          · left; simp only; omega
          · right; simpa using o2
        · simp at hs
    · intro a
      by_cases e : s.t < fr
      · exact .inl ⟨a, e⟩
      · right
        obtain ⟨a1, a2, a3, a4, a5, a6⟩ := a
        have hk : s.t = k := by
          rcases a6 with a6 | a6
          · exact a6
          · apply Classical.byContradiction
            intro hne
            have := o1 s.t.toNat (by omega) (by omega)
            rw [this] at a6; cases a6
        have hfr : s.f = fr := by
          apply Classical.byContradiction
          intro hne
          by_cases hl : s.f < fr
          · rcases o2 with o2 | o2
            · omega
            · have := a4 (fr - 1) (by omega) (by omega)
              rw [this] at o2; cases o2
          · rcases a5 with a5 | a5
            · omega
            · have := o1 (s.f.toNat - 1) (by omega) (by omega)
              rw [this] at a5; cases a5
        rw [if_pos (by omega)]
        simp
        exact Str.ext' hfr hk
theorem mem_strL {b : List Bool} {s : Str} : s ∈ strL b ↔ isStr b b.length s := (opN_str b b.length).2 s
theorem strL_asc (b : List Bool) : strAsc (strL b) := (opN_str b b.length).1
theorem opN_length (b : List Bool) : ∀ k, (opN b k).length ≤ k
  | 0 => by simp [opN, clN]
  | k + 1 => by
    have ih := opN_length b k
    cases h : b.getD k false
    · by_cases h2 : k = 0 ∨ b.getD (k - 1) false = true
      · rw [opN_new h h2]; simp; omega
      · obtain ⟨xs, fr, e1, e2, _⟩ := opN_more h h2
        rw [e1] at ih
        rw [e2]
        simp at ih ⊢
        omega
    · rw [opN_bad h]; omega
theorem opN_range (b : List Bool) (k : Nat) : ∀ s ∈ opN b k, 0 ≤ s.f ∧ s.f < s.t ∧ s.t ≤ k := fun s hs => by
  have := ((opN_str b k).2 s).1 hs
  exact ⟨this.1, this.2.1, this.2.2.1⟩

/-- two ascending lists with the same stretches -/
theorem asc_unique : ∀ {xs ys : List Str}, (∀ s ∈ xs, s.f < s.t) → strAsc xs → strAsc ys → (∀ s : Str, s ∈ xs ↔ s ∈ ys) → xs = ys
  | [], [], _, _, _, _ => rfl
  | [], y :: ys, _, _, _, h => by have := (h y).2 (by simp); simp at this
  | x :: xs, [], _, _, _, h => by have := (h x).1 (by simp); simp at this
  | x :: xs, y :: ys, hp, h1, h2, h => by
    have hpx : ∀ s ∈ x :: xs, s.f < s.t := hp
    have hpy : ∀ s ∈ y :: ys, s.f < s.t := fun s hs => hp s ((h s).2 hs)
    obtain ⟨a1, a2⟩ := List.pairwise_cons.1 h1
    obtain ⟨b1, b2⟩ := List.pairwise_cons.1 h2
    have hxy : x = y := by
      rcases List.mem_cons.1 ((h x).1 (by simp)) with e | e
      · exact e
      · rcases List.mem_cons.1 ((h y).2 (by simp)) with e2 | e2
        · exact e2.symm
        · have c1 := b1 x e
          have c2 := a1 y e2
          have c3 := hpx x (by simp)
          have c4 := hpy y (by simp)
          omega
    subst hxy
    congr 1
    refine asc_unique (fun s hs => hp s (by simp [hs])) a2 b2 (fun s => ?_)
    constructor
    · intro hs
      rcases List.mem_cons.1 ((h s).1 (by simp [hs])) with e | e
      · subst e
        have := a1 s hs
        have := hpx s (by simp)
        omega
      · exact e
    · intro hs
      rcases List.mem_cons.1 ((h s).2 (by simp [hs])) with e | e
      · subst e
        have := b1 s hs
        have := hpx s (by simp)
        omega
      · exact e

/-- from the other end -/
def backS (n : Int) (xs : List Str) : List Str := xs.reverse.map (fun s => ⟨n - s.t, n - s.f⟩)
theorem strL_back {b c : List Bool} (hl : c.length = b.length) (h : ∀ k, k < b.length → c.getD k false = b.getD (b.length - 1 - k) false) : strL c = backS b.length (strL b) := by
  have hr := opN_range c c.length
  refine asc_unique (fun s hs => (hr s hs).2.1) (strL_asc c) ?_ (fun s => ?_)
  · have := strL_asc b
    unfold strAsc backS at *
    rw [List.pairwise_map, List.pairwise_reverse]
    refine this.imp (fun {x y} hxy => ?_)
    simp only
    omega
  · have hmem : s ∈ backS b.length (strL b) ↔ (⟨b.length - s.t, b.length - s.f⟩ : Str) ∈ strL b := by
      unfold backS
      simp only [List.mem_map, List.mem_reverse]
      constructor
      · rintro ⟨u, hu, rfl⟩
        have e : (⟨(b.length : Int) - (b.length - u.f), b.length - (b.length - u.t)⟩ : Str) = u := by
          apply Str.ext' <;> simp only <;> omega
        rw [e]; exact hu
      · intro hu
        exact ⟨_, hu, by apply Str.ext' <;> simp only <;> omega⟩
    rw [hmem, mem_strL, mem_strL, hl]
    unfold isStr
    simp only
    constructor
    · rintro ⟨a1, a2, a3, a4, a5, a6⟩
      refine ⟨by omega, by omega, by omega, fun j x y => ?_, ?_, ?_⟩
      · have h1 := a4 (b.length - 1 - j) (by omega) (by omega)
        rw [h _ (by omega), show b.length - 1 - (b.length - 1 - j) = j by omega] at h1
        exact h1
      · rcases a6 with a6 | a6
        · left; omega
        · by_cases e : s.t.toNat < b.length
          · right
            rw [h _ e] at a6
            rw [show ((b.length : Int) - s.t).toNat - 1 = b.length - 1 - s.t.toNat by omega]
            exact a6
          · left; omega
      · rcases a5 with a5 | a5
        · left; omega
        · by_cases e : s.f = 0
          · left; omega
          · right
            rw [h _ (by omega)] at a5
            rw [show ((b.length : Int) - s.f).toNat = b.length - 1 - (s.f.toNat - 1) by omega]
            exact a5
    · rintro ⟨a1, a2, a3, a4, a5, a6⟩
      refine ⟨by omega, by omega, by omega, fun j x y => ?_, ?_, ?_⟩
      · have h1 := a4 (b.length - 1 - j) (by omega) (by omega)
        rw [h _ (by omega)]
        exact h1
      · rcases a6 with a6 | a6
        · left; omega
        · by_cases e : s.f = 0
          · left; exact e
          · right
            rw [h _ (by omega), show b.length - 1 - (s.f.toNat - 1) = ((b.length : Int) - s.f).toNat by omega]
            exact a6
      · rcases a5 with a5 | a5
        · left; omega
        · by_cases e : s.t = b.length
          · left; exact e
          · right
            rw [h _ (by omega), show b.length - 1 - s.t.toNat = ((b.length : Int) - s.t).toNat - 1 by omega]
            exact a5

/-! ### The longest stretch -/

def lngL (xs : List Str) : Int := xs.foldl (fun n s => max n (s.t - s.f)) 0
theorem lngL_snoc (xs : List Str) (s : Str) : lngL (xs ++ [s]) = max (lngL xs) (s.t - s.f) := by unfold lngL; rw [List.foldl_append]; rfl
theorem lngL_step {xs : List Str} {k : Nat} (h : k < xs.length) : lngL (xs.take (k + 1)) = max (lngL (xs.take k)) ((xs.getD k sz0).t - (xs.getD k sz0).f) := by rw [takeS (z := sz0) h, lngL_snoc]
theorem lngL_nonneg (xs : List Str) : 0 ≤ lngL xs := by
  induction xs using rev_ind with
  | h0 => exact Int.le_refl _
  | h1 xs s ih => rw [lngL_snoc]; omega
theorem lngL_ge {xs : List Str} : ∀ s ∈ xs, s.t - s.f ≤ lngL xs := by
  induction xs using rev_ind with
  | h0 => intro s hs; simp at hs
  | h1 xs u ih =>
    intro s hs
    rw [lngL_snoc]
    rcases List.mem_append.1 hs with h | h
    · have := ih s h; omega
    · simp at h; subst h; omega
theorem lngL_at (xs : List Str) : lngL xs = 0 ∨ ∃ s ∈ xs, s.t - s.f = lngL xs := by
  induction xs using rev_ind with
  | h0 => exact .inl rfl
  | h1 xs u ih =>
    rw [lngL_snoc]
    by_cases h : lngL xs ≤ u.t - u.f
    · right; exact ⟨u, by simp, by omega⟩
    · rcases ih with ih | ⟨s, h1, h2⟩
      · left; omega
      · right; exact ⟨s, by simp [h1], by omega⟩
/-- good places one after the other lie in one stretch -/
theorem in_str {b : List Bool} {f t : Nat} (hft : f < t) (ht : t ≤ b.length) (hg : ∀ j, f ≤ j → j < t → b.getD j false = false) : ∃ s ∈ strL b, s.f ≤ f ∧ t ≤ s.t := by
  have down : ∀ d, d ≤ f → (∀ j, f - d ≤ j → j < f → b.getD j false = false) → ∃ x, x ≤ f ∧ (∀ j, x ≤ j → j < f → b.getD j false = false) ∧ (x = 0 ∨ b.getD (x - 1) false = true) := by
    intro d
    induction h : f - d generalizing d with
    | zero => intro hd hj; exact ⟨0, by omega, fun j a c => hj j (by omega) c, .inl rfl⟩
    | succ q ih =>
      intro hd hj
      cases hq : b.getD q false
      · exact ih (d + 1) (by omega) (by omega) (fun j a c => by
          by_cases e : j = q
          · subst e; exact hq
          · exact hj j (by omega) c)
      · exact ⟨q + 1, by omega, fun j a c => hj j (by omega) c, .inr (by simpa using hq)⟩
  have up : ∀ d, t + d ≤ b.length → (∀ j, t ≤ j → j < t + d → b.getD j false = false) → ∃ y, t ≤ y ∧ y ≤ b.length ∧ (∀ j, t ≤ j → j < y → b.getD j false = false) ∧ (y = b.length ∨ b.getD y false = true) := by
    intro d
    induction h : b.length - (t + d) generalizing d with
    | zero => intro hd hj; exact ⟨b.length, by omega, Nat.le_refl _, fun j a c => hj j a (by omega), .inl rfl⟩
    | succ q ih =>
      intro hd hj
      cases hq : b.getD (t + d) false
      · exact ih (d + 1) (by omega) (by omega) (fun j a c => by
          by_cases e : j = t + d
          · subst e; exact hq
          · exact hj j a (by omega))
      · exact ⟨t + d, by omega, by omega, hj, .inr hq⟩
  obtain ⟨x, x1, x2, x3⟩ := down 0 (by omega) (fun j a c => by omega)
  obtain ⟨y, y1, y2, y3, y4⟩ := up 0 (by omega) (fun j a c => by omega)
  refine ⟨⟨x, y⟩, mem_strL.2 ⟨by simp only; omega, by simp only; omega, by simp only; omega, fun j a c => ?_, ?_, ?_⟩, by simp only; omega, by simp only; omega⟩
  · simp only at a c
    by_cases e1 : j < f
    · exact x2 j (by omega) e1
    · by_cases e2 : j < t
      · exact hg j (by omega) e2
      · exact y3 j (by omega) (by omega)
  · rcases x3 with x3 | x3
    · left; simp only; omega
    · right; simpa using x3
  · rcases y4 with y4 | y4
    · left; simp only; omega
    · right; simpa using y4
theorem lng_mono {b c : List Bool} (hl : c.length = b.length) (h : ∀ k, k < b.length → b.getD k false = false → c.getD k false = false) : lngL (strL b) ≤ lngL (strL c) := by
  rcases lngL_at (strL b) with e | ⟨s, hs, e⟩
  · have := lngL_nonneg (strL c); omega
  · obtain ⟨a1, a2, a3, a4, _⟩ := mem_strL.1 hs
    obtain ⟨u, hu, u1, u2⟩ := in_str (b := c) (f := s.f.toNat) (t := s.t.toNat) (by omega) (by omega) (fun j x y => h j (by omega) (a4 j (by omega) (by omega)))
    have := lngL_ge u hu
    omega
theorem lng_all {b : List Bool} (h : ∀ k, k < b.length → b.getD k false = false) : lngL (strL b) = b.length := by
  have hr := opN_range b b.length
  by_cases h0 : b.length = 0
  · have : strL b = [] := by
      apply List.eq_nil_iff_forall_not_mem.2
      intro s hs
      have := hr s hs
      omega
    rw [this, h0]; rfl
  · obtain ⟨u, hu, u1, u2⟩ := in_str (b := b) (f := 0) (t := b.length) (by omega) (Nat.le_refl _) (fun j _ y => h j y)
    have h1 := lngL_ge u hu
    have h2 := hr u hu
    rcases lngL_at (strL b) with e | ⟨s, hs, e⟩
    · omega
    · have := hr s hs
      omega
theorem lng_le (b : List Bool) : lngL (strL b) ≤ b.length := by
  have hr := opN_range b b.length
  rcases lngL_at (strL b) with e | ⟨s, hs, e⟩
  · omega
  · have := hr s hs; omega

/-! ### How many places are bad -/

def cntN (b : List Bool) : Nat → Int
  | 0 => 0
  | k + 1 => if b.getD k false = true then cntN b k + 1 else cntN b k
theorem cntN_bound (b : List Bool) : ∀ k, 0 ≤ cntN b k ∧ cntN b k ≤ k
  | 0 => by simp [cntN]
  | k + 1 => by have := cntN_bound b k; rw [cntN]; split <;> omega
def sumS (xs : List Str) : Int := (xs.map (fun s => s.t - s.f)).sum
theorem sumS_snoc (xs : List Str) (s : Str) : sumS (xs ++ [s]) = sumS xs + (s.t - s.f) := by simp [sumS]
theorem sumS_step {xs : List Str} {k : Nat} (h : k < xs.length) : sumS (xs.take (k + 1)) = sumS (xs.take k) + ((xs.getD k sz0).t - (xs.getD k sz0).f) := by rw [takeS (z := sz0) h, sumS_snoc]
theorem sumS_opN (b : List Bool) : ∀ k, sumS (opN b k) = k - cntN b k
  | 0 => by simp [opN, clN, sumS, cntN]
  | k + 1 => by
    have ih := sumS_opN b k
    rw [cntN]
    cases h : b.getD k false
    · simp only [Bool.false_eq_true, if_false]
      by_cases h2 : k = 0 ∨ b.getD (k - 1) false = true
      · rw [opN_new h h2, sumS_snoc]; simp only; omega
      · obtain ⟨xs, fr, e1, e2, _⟩ := opN_more h h2
        rw [e1, sumS_snoc] at ih
        rw [e2, sumS_snoc]
        simp only at ih ⊢
        omega
    · rw [opN_bad h]; simp only [if_true]; omega

/-! ### Sums -/

def smN (f : Nat → Int) : Nat → Int
  | 0 => 0
  | n + 1 => smN f n + f n
theorem smN_congr {f g : Nat → Int} : ∀ {n : Nat}, (∀ k, k < n → f k = g k) → smN f n = smN g n
  | 0, _ => rfl
  | n + 1, h => by rw [smN, smN, smN_congr (fun k hk => h k (by omega)), h n (by omega)]
theorem smN_first (f : Nat → Int) : ∀ n, smN f (n + 1) = f 0 + smN (fun k => f (k + 1)) n
  | 0 => by simp [smN]
  | n + 1 => by rw [smN, smN_first f n, smN]; omega
theorem smN_back (f : Nat → Int) : ∀ n, smN f n = smN (fun k => f (n - 1 - k)) n
  | 0 => rfl
  | n + 1 => by
    rw [smN_first (fun k => f (n + 1 - 1 - k)) n, smN]
    have h1 := smN_back f n
    have h2 : smN (fun k => f (n + 1 - 1 - (k + 1))) n = smN (fun k => f (n - 1 - k)) n := smN_congr (fun k hk => by congr 1; omega)
    rw [h2, ← h1]
    simp
    omega
theorem smN_split (f : Nat → Int) (m : Nat) : ∀ n, smN f (m + n) = smN f m + smN (fun k => f (m + k)) n
  | 0 => by simp [smN]
  | n + 1 => by rw [← Nat.add_assoc, smN, smN_split f m n, smN]; omega
theorem smN_add (f g : Nat → Int) : ∀ n, smN (fun k => f k + g k) n = smN f n + smN g n
  | 0 => rfl
  | n + 1 => by rw [smN, smN_add f g n, smN, smN]; omega
theorem smN_const (c : Int) : ∀ n : Nat, smN (fun _ => c) n = c * n
  | 0 => by simp [smN]
  | n + 1 => by rw [smN, smN_const c n, Int.natCast_succ, Int.mul_add, Int.mul_one]
theorem smN_bound {f : Nat → Int} {lo hi : Int} : ∀ {n : Nat}, (∀ k, k < n → lo ≤ f k ∧ f k ≤ hi) → lo * n ≤ smN f n ∧ smN f n ≤ hi * n
  | 0, _ => by simp [smN]
  | n + 1, h => by
    have h1 := smN_bound (n := n) (fun k hk => h k (by omega))
    have h2 := h n (by omega)
    have e1 : lo * ((n + 1 : Nat) : Int) = lo * n + lo := by rw [Int.natCast_succ, Int.mul_add, Int.mul_one]
    have e2 : hi * ((n + 1 : Nat) : Int) = hi * n + hi := by rw [Int.natCast_succ, Int.mul_add, Int.mul_one]
    rw [smN]
    omega
theorem cntN_sum (b : List Bool) : ∀ k, cntN b k = smN (fun j => if b.getD j false = true then 1 else 0) k
  | 0 => rfl
  | k + 1 => by rw [cntN, smN, cntN_sum b k]; split <;> omega

/-! ### The bad area -/

def laneN (x : Rel) (most : Int) (k : Nat) : Int := cntN (badL x.ds k (k + 1) most x.n) x.n.toNat
def areaN (x : Rel) (most : Int) (k : Nat) : Int := smN (laneN x most) k
theorem areaN_step (x : Rel) (most : Int) (k : Nat) : areaN x most (k + 1) = areaN x most k + laneN x most k := rfl
def areaF (x : Rel) (most : Int) : Int := if okR x then areaN x most x.w.toNat else -1
theorem laneN_bound (x : Rel) (most : Int) (k : Nat) : 0 ≤ laneN x most k ∧ laneN x most k ≤ x.n.toNat := cntN_bound _ _
theorem areaN_bound {x : Rel} (h : okR x) (most : Int) (k : Nat) (hk : k ≤ 60) : 0 ≤ areaN x most k ∧ areaN x most k ≤ x.n * k ∧ areaN x most k ≤ 24000 := by
  have h1 := smN_bound (f := laneN x most) (lo := 0) (hi := x.n) (n := k) (fun j _ => by have := laneN_bound x most j; have := h.2.1; omega)
  have h2 : x.n * k ≤ 400 * 60 := Int.mul_le_mul h.2.1.2 (by omega) (by omega) (by omega)
  unfold areaN
  omega
theorem tooBad_turn {n l r most : Int} {d : Dfc} : tooBad l r most (turnD n d) ↔ tooBad l r most d := Iff.rfl
theorem badL_turn {x : Rel} (h : okR x) (l r most : Int) {k : Nat} (hk : k < x.n.toNat) : (badL (turnN x).ds l r most x.n).getD k false = (badL x.ds l r most x.n).getD (x.n.toNat - 1 - k) false := by
  unfold badL
  rw [boolsOf_getD hk, boolsOf_getD (by omega), Bool.eq_iff_iff, badAt_iff, badAt_iff]
  constructor
  · rintro ⟨e, he, h1, h2, h3⟩
    obtain ⟨d, hd, rfl⟩ := List.mem_map.1 he
    exact ⟨d, hd, h1, by simp only [turnD] at h3; omega, by simp only [turnD] at h2; omega⟩
  · rintro ⟨d, hd, h1, h2, h3⟩
    exact ⟨turnD x.n d, List.mem_map.2 ⟨d, hd, rfl⟩, h1, by simp only [turnD]; omega, by simp only [turnD]; omega⟩
theorem lane_turn {x : Rel} (h : okR x) (most : Int) (k : Nat) : laneN (turnN x) most k = laneN x most k := by
  unfold laneN
  rw [cntN_sum, cntN_sum, smN_back _ x.n.toNat]
  refine smN_congr (fun j hj => ?_)
  have hj : j < x.n.toNat := hj
  have h2 := badL_turn h (k : Int) (k + 1) most (k := j) hj
  show (if (badL (turnN x).ds (k : Int) (k + 1) most x.n).getD j false = true then (1 : Int) else 0) = if (badL x.ds (k : Int) (k + 1) most x.n).getD (x.n.toNat - 1 - j) false = true then 1 else 0
  rw [h2]
theorem area_turn {x : Rel} (h : okR x) (most : Int) : areaF (turnN x) most = areaF x most := by
  unfold areaF
  rw [if_pos (turnN_ok h), if_pos h]
  exact smN_congr (fun k _ => lane_turn h most k)
theorem badL_join {a b : Rel} (h : joinOk a b) (l r most : Int) {k : Nat} (hk : k < (joinN a b).n.toNat) : (badL (joinN a b).ds l r most (joinN a b).n).getD k false = if k < a.n.toNat then (badL a.ds l r most a.n).getD k false else (badL b.ds l r most b.n).getD (k - a.n.toNat) false := by
  obtain ⟨ha, hb, hw, hj⟩ := h
  have hna := ha.2.1
  have hnb := hb.2.1
  have hn : (joinN a b).n = a.n + b.n := rfl
  unfold badL
  rw [boolsOf_getD hk]
  split
  · rename_i hlt
    rw [boolsOf_getD hlt, Bool.eq_iff_iff, badAt_iff, badAt_iff]
    constructor
    · rintro ⟨e, he, h1, h2, h3⟩
      rcases List.mem_append.1 he with he | he
      · exact ⟨e, he, h1, h2, h3⟩
      · obtain ⟨d, hd, rfl⟩ := List.mem_map.1 he
        have := hb.2.2.2 d hd
        unfold okD at this
        simp only [shiftD] at h2
        omega
    · rintro ⟨d, hd, h1, h2, h3⟩
      exact ⟨d, List.mem_append.2 (.inl hd), h1, h2, h3⟩
  · rename_i hlt
    rw [boolsOf_getD (by omega), Bool.eq_iff_iff, badAt_iff, badAt_iff]
    constructor
    · rintro ⟨e, he, h1, h2, h3⟩
      rcases List.mem_append.1 he with he | he
      · have := ha.2.2.2 e he
        unfold okD at this
        omega
      · obtain ⟨d, hd, rfl⟩ := List.mem_map.1 he
        exact ⟨d, hd, h1, by simp only [shiftD] at h2; omega, by simp only [shiftD] at h3; omega⟩
    · rintro ⟨d, hd, h1, h2, h3⟩
      exact ⟨shiftD a.n d, List.mem_append.2 (.inr (List.mem_map.2 ⟨d, hd, rfl⟩)), h1, by simp only [shiftD]; omega, by simp only [shiftD]; omega⟩
theorem lane_join {a b : Rel} (h : joinOk a b) (most : Int) (k : Nat) : laneN (joinN a b) most k = laneN a most k + laneN b most k := by
  have hna := h.1.2.1
  have hnb := h.2.1.2.1
  have hn : (joinN a b).n.toNat = a.n.toNat + b.n.toNat := by show (a.n + b.n).toNat = _; omega
  unfold laneN
  rw [cntN_sum, cntN_sum, cntN_sum, hn, smN_split]
  congr 1
  · refine smN_congr (fun j hj => ?_)
    have e := badL_join h (k : Int) (k + 1) most (k := j) (by omega)
    rw [if_pos hj] at e
    rw [e]
  · refine smN_congr (fun j hj => ?_)
    have e := badL_join h (k : Int) (k + 1) most (k := a.n.toNat + j) (by omega)
    rw [if_neg (by omega), show a.n.toNat + j - a.n.toNat = j by omega] at e
    rw [e]
theorem area_join {a b : Rel} (h : joinOk a b) (most : Int) : areaF (joinN a b) most = areaF a most + areaF b most := by
  unfold areaF
  rw [if_pos h.2.2.2, if_pos h.1, if_pos h.2.1]
  show smN _ a.w.toNat = smN _ a.w.toNat + smN _ b.w.toNat
  rw [← h.2.2.1, ← smN_add]
  exact smN_congr (fun k _ => lane_join h most k)

/-! ### The best lanes -/

def okL (x : Rel) (l r : Int) : Prop := okR x ∧ 0 ≤ l ∧ l < r ∧ r ≤ x.w
instance (x : Rel) (l r : Int) : Decidable (okL x l r) := by unfold okL; infer_instance
def strF (x : Rel) (l r most : Int) : List Str := if okL x l r then strL (badL x.ds l r most x.n) else []
def longN (x : Rel) (l r most : Int) : Int := lngL (strL (badL x.ds l r most x.n))
def longF (x : Rel) (l r most : Int) : Int := if okL x l r then longN x l r most else -1
theorem longN_bound {x : Rel} (h : okR x) (l r most : Int) : 0 ≤ longN x l r most ∧ longN x l r most ≤ x.n := by
  have h1 := lng_le (badL x.ds l r most x.n)
  have h2 := lngL_nonneg (strL (badL x.ds l r most x.n))
  rw [badL_length] at h1
  have := h.2.1
  unfold longN
  omega
theorem strF_len {x : Rel} (l r most : Int) : (strF x l r most).length ≤ 400 := by
  unfold strF
  split
  · rename_i h
    have := opN_length (badL x.ds l r most x.n) (badL x.ds l r most x.n).length
    rw [badL_length] at this
    have h2 := h.1.2.1
    unfold strL
    rw [badL_length]
    omega
  · simp
theorem long_fewer {x : Rel} {l r l' r' most : Int} (h1 : l ≤ l') (h2 : r' ≤ r) : longN x l r most ≤ longN x l' r' most := by
  refine lng_mono (by rw [badL_length, badL_length]) (fun k hk hg => ?_)
  rw [badL_length] at hk
  unfold badL at hg ⊢
  rw [boolsOf_getD hk] at hg ⊢
  apply Bool.eq_false_iff.2
  intro hb
  rw [Bool.eq_false_iff] at hg
  apply hg
  rw [badAt_iff] at hb ⊢
  obtain ⟨d, hd, ht, h3⟩ := hb
  refine ⟨d, hd, ?_, h3⟩
  unfold tooBad at ht ⊢
  omega
theorem long_nine {x : Rel} (h : okR x) (l r : Int) : longN x l r 9 = x.n := by
  unfold longN
  rw [lng_all (fun k hk => ?_), badL_length]
  · have := h.2.1; omega
  · rw [badL_length] at hk
    unfold badL
    rw [boolsOf_getD hk]
    apply Bool.eq_false_iff.2
    intro hb
    obtain ⟨d, hd, ht, h3⟩ := badAt_iff.1 hb
    have := h.2.2.2 d hd
    unfold okD at this
    unfold tooBad at ht
    omega
def laneG (x : Rel) (wd most : Int) (l : Int) : Int := longN x l (l + wd) most
def bestN (x : Rel) (wd most : Int) : Nat → Int
  | 0 => 0
  | k + 1 => if laneG x wd most (bestN x wd most k) < laneG x wd most k then (k : Int) else bestN x wd most k
theorem bestN_range (x : Rel) (wd most : Int) : ∀ k : Nat, 0 ≤ bestN x wd most k ∧ (1 ≤ k → bestN x wd most k < k)
  | 0 => by simp [bestN]
  | k + 1 => by
    have ih := bestN_range x wd most k
    rw [bestN]
    split
    · omega
    · refine ⟨ih.1, fun _ => ?_⟩
      cases k with
      | zero => simp [bestN]
      | succ k => have := ih.2 (by omega); omega
theorem bestN_best (x : Rel) (wd most : Int) : ∀ k j : Nat, j < k → laneG x wd most j ≤ laneG x wd most (bestN x wd most k) ∧ ((j : Int) < bestN x wd most k → laneG x wd most j < laneG x wd most (bestN x wd most k))
  | 0, j, h => by omega
  | k + 1, j, h => by
    have ih := bestN_best x wd most k
    rw [bestN]
    by_cases e : j = k
    · subst e
      split
      · exact ⟨Int.le_refl _, fun h => by omega⟩
      · rename_i hn
        refine ⟨by omega, fun h2 => ?_⟩
        have := bestN_range x wd most j
        by_cases e0 : j = 0
        · subst e0; simp [bestN] at h2
        · have := this.2 (by omega); omega
    · have h1 := ih j (by omega)
      split
      · exact ⟨by omega, fun _ => by omega⟩
      · exact h1
def bestF (x : Rel) (wd most : Int) : Int := if okR x ∧ 1 ≤ wd ∧ wd ≤ x.w then bestN x wd most (x.w - wd + 1).toNat else -1

/-! ### What the stretches tell -/

theorem place_bad {x : Rel} {l r most : Int} (hm : 0 ≤ most) {k : Int} (h0 : 0 ≤ k) (h1 : k < x.n) : most < worstL x.ds ⟨l, r, k, k + 1⟩ ↔ (badL x.ds l r most x.n).getD k.toNat false = true := by
  unfold badL
  rw [boolsOf_getD (by omega), badAt_iff, worst_gt hm]
  constructor
  · rintro ⟨d, hd, hk, hg⟩
    unfold meetD at hk
    simp only at hk
    exact ⟨d, hd, ⟨hg, hk.1, hk.2.1⟩, by omega, by omega⟩
  · rintro ⟨d, hd, ⟨a1, a2, a3⟩, a4, a5⟩
    exact ⟨d, hd, by unfold meetD; simp only; omega, a1⟩
theorem str_good {x : Rel} (hx : okR x) {l r most : Int} (hm : 0 ≤ most) {s : Str} (hs : s ∈ strL (badL x.ds l r most x.n)) : worstL x.ds ⟨l, r, s.f, s.t⟩ ≤ most := by
  apply Classical.byContradiction
  intro hc
  obtain ⟨d, hd, hk, hg⟩ := (worst_gt (ds := x.ds) (p := ⟨l, r, s.f, s.t⟩) hm).1 (by omega)
  have hi := mem_strL.1 hs
  rw [badL_length] at hi
  obtain ⟨a1, a2, a3, a4, _⟩ := hi
  unfold meetD at hk
  simp only at hk
  have hd5 := hx.2.2.2 d hd
  unfold okD at hd5
  obtain ⟨k, k1, k2, k3, k4⟩ : ∃ k : Nat, d.f ≤ k ∧ (k : Int) < d.t ∧ s.f ≤ k ∧ (k : Int) < s.t := by
    by_cases e : d.f ≤ s.f
    · exact ⟨s.f.toNat, by omega, by omega, by omega, by omega⟩
    · exact ⟨d.f.toNat, by omega, by omega, by omega, by omega⟩
  have h1 := a4 k k3 k4
  unfold badL at h1
  rw [boolsOf_getD (by omega)] at h1
  rw [Bool.eq_false_iff] at h1
  exact h1 (badAt_iff.2 ⟨d, hd, ⟨hg, hk.1, hk.2.1⟩, k1, k2⟩)
theorem str_before {x : Rel} {l r most : Int} (hm : 0 ≤ most) {s : Str} (hs : s ∈ strL (badL x.ds l r most x.n)) (h0 : 0 < s.f) : most < worstL x.ds ⟨l, r, s.f - 1, s.f⟩ := by
  have hi := mem_strL.1 hs
  rw [badL_length] at hi
  obtain ⟨a1, a2, a3, a4, a5, a6⟩ := hi
  rcases a5 with a5 | a5
  · omega
  · have h := (place_bad (x := x) (l := l) (r := r) hm (k := s.f - 1) (by omega) (by omega)).2 (by rw [show (s.f - 1).toNat = s.f.toNat - 1 by omega]; exact a5)
    rw [show s.f - 1 + 1 = s.f by omega] at h
    exact h
theorem str_behind {x : Rel} {l r most : Int} (hm : 0 ≤ most) {s : Str} (hs : s ∈ strL (badL x.ds l r most x.n)) (h0 : s.t < x.n) : most < worstL x.ds ⟨l, r, s.t, s.t + 1⟩ := by
  have hi := mem_strL.1 hs
  rw [badL_length] at hi
  obtain ⟨a1, a2, a3, a4, a5, a6⟩ := hi
  rcases a6 with a6 | a6
  · omega
  · exact (place_bad hm (by omega) h0).2 a6
theorem str_gap {b : List Bool} {i : Nat} (h1 : 1 ≤ i) (h2 : i < (strL b).length) : ((strL b).getD (i - 1) sz0).t < ((strL b).getD i sz0).f := by
  have h := List.pairwise_iff_getElem.1 (strL_asc b) (i - 1) i (by omega) h2 (by omega)
  rw [List.getD_eq_getElem?_getD, List.getD_eq_getElem?_getD, List.getElem?_eq_getElem h2, List.getElem?_eq_getElem (by omega)]
  exact h
theorem strF_turn {x : Rel} (h : okR x) {l r most : Int} : strF (turnN x) l r most = backS x.n (strF x l r most) := by
  unfold strF
  have e : okL (turnN x) l r ↔ okL x l r := by
    unfold okL
    exact ⟨fun a => ⟨h, a.2⟩, fun a => ⟨turnN_ok h, a.2⟩⟩
  by_cases ho : okL x l r
  · rw [if_pos ho, if_pos (e.2 ho)]
    have h1 := strL_back (b := badL x.ds l r most x.n) (c := badL (turnN x).ds l r most x.n) (by rw [badL_length, badL_length]) (fun k hk => by
      rw [badL_length] at hk ⊢
      exact badL_turn h l r most hk)
    rw [badL_length] at h1
    show strL (badL (turnN x).ds l r most x.n) = _
    rw [h1]
    congr 1
    have := h.2.1
    omega
  · rw [if_neg ho, if_neg (fun a => ho (e.1 a))]; rfl
end Go.PR
