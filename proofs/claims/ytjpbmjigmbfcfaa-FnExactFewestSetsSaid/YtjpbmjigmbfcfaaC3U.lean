/-
  Slitting, in plain words, the sixth part: the least number of patterns that cover some wants. No program here. No condition.
-/
import Derived.Test.YtjpbmjigmbfcfaaC3T
namespace Go.PR

/-- k patterns cover the wants f -/
def cov (width : Int) (ws : List Int) : Nat → (Nat → Int) → Prop
  | 0, f => ∀ i, f i ≤ 0
  | k + 1, f => ∃ c, okP width ws c ∧ cov width ws k (fun i => f i - c.getD i 0)
theorem okP.getD {width : Int} {ws c : List Int} (h : okP width ws c) (i : Nat) : 0 ≤ c.getD i 0 := by
  by_cases hi : i < c.length
  · exact h.2.2.1 _ (getD_mem hi)
  · rw [List.getD_eq_getElem?_getD, List.getElem?_eq_none (by omega)]; exact Int.le_refl _
theorem cov_mono {width : Int} {ws : List Int} : ∀ {k : Nat} {f g : Nat → Int}, (∀ i, f i ≤ g i ∨ f i ≤ 0) → cov width ws k g → cov width ws k f
  | 0, f, g, h, hc => fun i => by
    have := hc i
    rcases h i with h1 | h1 <;> omega
  | k + 1, f, g, h, ⟨c, hok, hc⟩ => ⟨c, hok, cov_mono (fun i => by
      have := hok.getD i
      rcases h i with h1 | h1
      · exact .inl (by show f i - c.getD i 0 ≤ g i - c.getD i 0; omega)
      · exact .inr (by show f i - c.getD i 0 ≤ 0; omega)) hc⟩
/-- a pattern with a wanted roll can be the first one -/
theorem cov_first {width : Int} {ws : List Int} : ∀ {k : Nat} {f : Nat → Int} {i0 : Nat}, 0 < f i0 → cov width ws k f → ∃ j c, k = j + 1 ∧ okP width ws c ∧ 0 < c.getD i0 0 ∧ cov width ws j (fun i => f i - c.getD i 0)
  | 0, f, i0, h, hc => by have := hc i0; omega
  | k + 1, f, i0, h, ⟨c, hok, hc⟩ => by
    by_cases h0 : 0 < c.getD i0 0
    · exact ⟨k, c, rfl, hok, h0, hc⟩
    · have h1 := hok.getD i0
      obtain ⟨j, d, rfl, hd, hd0, hcd⟩ := cov_first (k := k) (f := fun i => f i - c.getD i 0) (i0 := i0) (by show 0 < f i0 - c.getD i0 0; omega) hc
      refine ⟨j + 1, d, rfl, hd, hd0, c, hok, ?_⟩
      exact cov_mono (fun i => .inl (by show f i - d.getD i 0 - c.getD i 0 ≤ f i - c.getD i 0 - d.getD i 0; omega)) hcd
/-- k is the least number of patterns that cover f -/
def least (width : Int) (ws : List Int) (k : Nat) (f : Nat → Int) : Prop := cov width ws k f ∧ ∀ j, j < k → ¬ cov width ws j f
theorem least_one {width : Int} {ws : List Int} {k j : Nat} {f : Nat → Int} (h : least width ws k f) (h' : least width ws j f) : k = j := by
  have h1 := h.2 j
  have h2 := h'.2 k
  have h3 := h.1
  have h4 := h'.1
  apply Classical.byContradiction
  intro hne
  rcases Nat.lt_or_gt_of_ne hne with hl | hl
  · exact h2 hl h3
  · exact h1 hl h4

/-! ### Sums up to a place -/
def sumF (f : Nat → Int) : Nat → Int
  | 0 => 0
  | n + 1 => sumF f n + f n
theorem sumF_le {f g : Nat → Int} : ∀ {n : Nat}, (∀ i, i < n → f i ≤ g i) → sumF f n ≤ sumF g n
  | 0, _ => Int.le_refl _
  | n + 1, h => by
    have h1 := sumF_le (n := n) (fun i hi => h i (by omega))
    have h2 := h n (by omega)
    show sumF f n + f n ≤ sumF g n + g n
    omega
theorem sumF_sub (f g : Nat → Int) : ∀ n : Nat, sumF (fun i => f i - g i) n = sumF f n - sumF g n
  | 0 => rfl
  | n + 1 => by
    have := sumF_sub f g n
    show sumF (fun i => f i - g i) n + (f n - g n) = sumF f n + f n - (sumF g n + g n)
    omega
theorem sumF_one {n i0 : Nat} (h : i0 < n) (y : Int) : sumF (fun i => if i = i0 then y else 0) n = y := by
  have key : ∀ m : Nat, sumF (fun i => if i = i0 then y else 0) m = if i0 < m then y else 0 := by
    intro m
    induction m with
    | zero => rfl
    | succ m ih =>
      show sumF (fun i => if i = i0 then y else 0) m + (if m = i0 then y else 0) = _
      rw [ih]
      by_cases h1 : m = i0
      · subst h1; rw [if_neg (by omega), if_pos rfl, if_pos (by omega)]; omega
      · rw [if_neg h1]
        by_cases h2 : i0 < m
        · rw [if_pos h2, if_pos (by omega)]; omega
        · rw [if_neg h2, if_neg (by omega)]; omega
  rw [key, if_pos h]
theorem sumF_dot (a b : List Int) : ∀ n, sumF (fun i => a.getD i 0 * b.getD i 0) n = dotN a b n
  | 0 => rfl
  | n + 1 => by
    show sumF (fun i => a.getD i 0 * b.getD i 0) n + a.getD n 0 * b.getD n 0 = _
    rw [sumF_dot a b n]; rfl
theorem sumF_list (xs : List Int) : sumF (fun i => xs.getD i 0) xs.length = xs.sum := by
  have key : ∀ n, n ≤ xs.length → sumF (fun i => xs.getD i 0) n = (xs.take n).sum := by
    intro n
    induction n with
    | zero => intro _; rfl
    | succ n ih =>
      intro h
      have := ih (by omega)
      show sumF (fun i => xs.getD i 0) n + xs.getD n 0 = _
      rw [this, take_snoc (by omega)]
      simp
  have := key xs.length (Nat.le_refl _)
  rwa [List.take_length] at this

/-! ### One roll alone, none at all -/
def unitP (n i0 : Nat) : List Int := (List.range n).map (fun i => if i = i0 then 1 else 0)
theorem unitP_getD {n i0 : Nat} (i : Nat) (h0 : i0 < n) : (unitP n i0).getD i 0 = if i = i0 then 1 else 0 := by
  unfold unitP
  rw [List.getD_eq_getElem?_getD]
  by_cases h : i < n
  · simp [h]
  · rw [List.getElem?_eq_none (by simp; omega), if_neg (by omega)]; rfl
theorem unitP_ok {width : Int} {ws : List Int} (hok : okW width ws) {i0 : Nat} (h : i0 < ws.length) : okP width ws (unitP ws.length i0) := by
  refine ⟨hok, by simp [unitP], fun x hx => ?_, ?_⟩
  · simp only [unitP, List.mem_map] at hx
    obtain ⟨i, _, rfl⟩ := hx
    split <;> omega
  · have e : (unitP ws.length i0).length = ws.length := by simp [unitP]
    rw [e, ← sumF_dot]
    have e2 : (fun i => (unitP ws.length i0).getD i 0 * ws.getD i 0) = fun i => if i = i0 then ws.getD i0 0 else 0 := by
      funext i
      rw [unitP_getD i h]
      by_cases h1 : i = i0
      · subst h1; rw [if_pos rfl, if_pos rfl]; omega
      · rw [if_neg h1, if_neg h1]; omega
    rw [e2, sumF_one h]
    exact (hok.2.2.1 _ (getD_mem h)).2
/-- each roll alone -/
theorem cov_total {width : Int} {ws : List Int} (hok : okW width ws) : ∀ {k : Nat} {f : Nat → Int}, (∀ i, 0 ≤ f i) → (∀ i, ws.length ≤ i → f i = 0) → sumF f ws.length ≤ k → cov width ws k f
  | 0, f, h0, hz, hs => by
    intro i
    by_cases hi : i < ws.length
    · have h1 : sumF (fun j => if j = i then f i else 0) ws.length ≤ sumF f ws.length := sumF_le (fun j hj => by
        by_cases e : j = i
        · subst e; rw [if_pos rfl]; exact Int.le_refl _
        · rw [if_neg e]; exact h0 j)
      rw [sumF_one hi] at h1
      omega
    · rw [hz i (by omega)]; exact Int.le_refl _
  | k + 1, f, h0, hz, hs => by
    by_cases hp : ∃ i0, i0 < ws.length ∧ 0 < f i0
    · obtain ⟨i0, hi, hp⟩ := hp
      refine ⟨unitP ws.length i0, unitP_ok hok hi, cov_total hok (fun i => ?_) (fun i h => ?_) ?_⟩
      · show 0 ≤ f i - (unitP ws.length i0).getD i 0
        rw [unitP_getD i hi]
        by_cases e : i = i0
        · subst e; rw [if_pos rfl]; omega
        · rw [if_neg e]; have := h0 i; omega
      · show f i - (unitP ws.length i0).getD i 0 = 0
        rw [unitP_getD i hi, if_neg (by omega), hz i h]; rfl
      · have e : sumF (fun i => f i - (unitP ws.length i0).getD i 0) ws.length = sumF f ws.length - sumF (fun i => (unitP ws.length i0).getD i 0) ws.length := sumF_sub _ _ _
        have e2 : (fun i => (unitP ws.length i0).getD i 0) = fun i => if i = i0 then (1 : Int) else 0 := by
          funext i; exact unitP_getD i hi
        rw [e2, sumF_one hi] at e
        omega
    · have hn : ∀ i, f i ≤ 0 := fun i => by
        by_cases hi : i < ws.length
        · apply Classical.byContradiction
          intro h
          exact hp ⟨i, hi, by omega⟩
        · rw [hz i (by omega)]; exact Int.le_refl _
      refine ⟨unitP ws.length 0, unitP_ok hok (by have := hok.2.1.1; omega), cov_mono (g := fun _ => 0) (fun i => .inl ?_) (cov_total hok (fun _ => Int.le_refl _) (fun _ _ => rfl) ?_)⟩
      · show f i - (unitP ws.length 0).getD i 0 ≤ 0
        have h1 := hn i
        have h2 := (unitP_ok hok (i0 := 0) (by have := hok.2.1.1; omega)).getD i
        omega
      · have : sumF (fun _ => 0) ws.length = 0 := by
          have key : ∀ n, sumF (fun _ => 0) n = 0 := fun n => by
            induction n with
            | zero => rfl
            | succ n ih => show sumF (fun _ => 0) n + 0 = 0; omega
          exact key _
        omega
/-- the widths together -/
theorem cov_width {width : Int} {ws : List Int} (hok : okW width ws) : ∀ {k : Nat} {f : Nat → Int}, cov width ws k f → sumF (fun i => f i * ws.getD i 0) ws.length ≤ k * width
  | 0, f, hc => by
    have key : ∀ n, n ≤ ws.length → sumF (fun i => f i * ws.getD i 0) n ≤ 0 := fun n => by
      induction n with
      | zero => intro _; exact Int.le_refl _
      | succ n ih =>
        intro h
        have h1 := ih (by omega)
        have h2 : f n * ws.getD n 0 ≤ 0 := Int.mul_nonpos_of_nonpos_of_nonneg (hc n) (by have := (hok.2.2.1 _ (getD_mem (xs := ws) (k := n) (by omega))).1; omega)
        show sumF (fun i => f i * ws.getD i 0) n + f n * ws.getD n 0 ≤ 0
        omega
    have := key ws.length (Nat.le_refl _)
    simp; exact this
  | k + 1, f, ⟨c, hc, hk⟩ => by
    have h1 := cov_width hok hk
    have h2 := hc.2.2.2
    rw [hc.2.1, ← sumF_dot] at h2
    have e : sumF (fun i => f i * ws.getD i 0 - c.getD i 0 * ws.getD i 0) ws.length = sumF (fun i => f i * ws.getD i 0) ws.length - sumF (fun i => c.getD i 0 * ws.getD i 0) ws.length := sumF_sub _ _ _
    have e2 : (fun i => (f i - c.getD i 0) * ws.getD i 0) = fun i => f i * ws.getD i 0 - c.getD i 0 * ws.getD i 0 := by
      funext i; exact Int.sub_mul _ _ _
    rw [e2] at h1
    have e3 : ((k + 1 : Nat) : Int) * width = k * width + width := by rw [Int.natCast_add, Int.add_mul]; simp
    omega

/-! ### What the reference asks: full patterns with a roll of the first wanted width -/
def leftF (w p : List Int) : List Int := (List.range w.length).map (fun i => max 0 (w.getD i 0 - p.getD i 0))
theorem leftF_length (w p : List Int) : (leftF w p).length = w.length := by simp [leftF]
theorem leftF_getD {w p : List Int} {i : Nat} (h : i < w.length) : (leftF w p).getD i 0 = max 0 (w.getD i 0 - p.getD i 0) := by
  unfold leftF
  rw [List.getD_eq_getElem?_getD]
  simp [h]
def wantF (w : List Int) : Nat → Int := fun i => w.getD i 0
theorem wantF_out {w : List Int} {i : Nat} (h : w.length ≤ i) : wantF w i = 0 := by
  unfold wantF
  rw [List.getD_eq_getElem?_getD, List.getElem?_eq_none (by omega)]; rfl
theorem cov_left {width : Int} {ws w p : List Int} {k : Nat} (hp : okP width ws p) : cov width ws k (wantF (leftF w p)) ↔ cov width ws k (fun i => wantF w i - p.getD i 0) := by
  constructor
  · refine cov_mono (fun i => ?_)
    by_cases h : i < w.length
    · have := leftF_getD (p := p) h
      show w.getD i 0 - p.getD i 0 ≤ (leftF w p).getD i 0 ∨ _
      left; omega
    · right
      have h1 := wantF_out (w := w) (i := i) (by omega)
      have h2 := hp.getD i
      show wantF w i - p.getD i 0 ≤ 0
      omega
  · refine cov_mono (fun i => ?_)
    by_cases h : i < w.length
    · have := leftF_getD (p := p) h
      show (leftF w p).getD i 0 ≤ w.getD i 0 - p.getD i 0 ∨ (leftF w p).getD i 0 ≤ 0
      omega
    · right
      have h1 := wantF_out (w := leftF w p) (i := i) (by rw [leftF_length]; omega)
      omega
/-- what one more set does: the patterns of a list that has one above each valid pattern -/
theorem cov_next {width : Int} {ws w : List Int} {all : List (List Int)} {k first : Nat} (hall : ∀ p ∈ all, okP width ws p) (hab : ∀ c, okP width ws c → ∃ p ∈ all, ∀ i, c.getD i 0 ≤ p.getD i 0) (h0 : 0 < wantF w first) :
    cov width ws (k + 1) (wantF w) ↔ ∃ p ∈ all, p.getD first 0 ≠ 0 ∧ cov width ws k (wantF (leftF w p)) := by
  constructor
  · intro h
    obtain ⟨j, c, hj, hc, hc0, hk⟩ := cov_first h0 h
    obtain ⟨p, hp, hle⟩ := hab c hc
    have := hle first
    have ej : j = k := by omega
    subst ej
    refine ⟨p, hp, by omega, (cov_left (hall p hp)).2 (cov_mono (fun i => .inl ?_) hk)⟩
    have := hle i
    show wantF w i - p.getD i 0 ≤ wantF w i - c.getD i 0
    omega
  · rintro ⟨p, hp, _, hk⟩
    exact ⟨p, hall p hp, (cov_left (hall p hp)).1 hk⟩
theorem cov_zero {width : Int} {ws w : List Int} (hw : ∀ x ∈ w, 0 ≤ x) : cov width ws 0 (wantF w) ↔ w.sum = 0 := by
  have hs := sumF_list w
  constructor
  · intro h
    have h1 : sumF (fun i => w.getD i 0) w.length ≤ sumF (fun _ => 0) w.length := sumF_le (fun i _ => h i)
    have h2 : sumF (fun _ => 0) w.length ≤ sumF (fun i => w.getD i 0) w.length := sumF_le (fun i hi => hw _ (getD_mem hi))
    have key : ∀ n, sumF (fun _ => 0) n = 0 := fun n => by
      induction n with
      | zero => rfl
      | succ n ih => show sumF (fun _ => 0) n + 0 = 0; omega
    have := key w.length
    omega
  · intro h i
    by_cases hi : i < w.length
    · have h1 : sumF (fun j => if j = i then w.getD i 0 else 0) w.length ≤ sumF (fun j => w.getD j 0) w.length := sumF_le (fun j hj => by
        by_cases e : j = i
        · subst e; rw [if_pos rfl]; exact Int.le_refl _
        · rw [if_neg e]; exact hw _ (getD_mem hj))
      rw [sumF_one hi] at h1
      show w.getD i 0 ≤ 0
      omega
    · rw [wantF_out (by omega)]; exact Int.le_refl _

/-! ### The numbers of counts -/
/-- the number of counts among all that are at most ns -/
def numN : List Int → List Int → Int
  | [], _ => 0
  | n :: ns, ds => ds.headD 0 + (n + 1) * numN ns ds.tail
def digN : List Int → Int → List Int
  | [], _ => []
  | n :: ns, x => x % (n + 1) :: digN ns (x / (n + 1))
def allN : List Int → Int
  | [] => 1
  | n :: ns => (n + 1) * allN ns
theorem digN_length (ns : List Int) : ∀ x, (digN ns x).length = ns.length := by
  induction ns with
  | nil => intro x; rfl
  | cons n ns ih => intro x; simp [digN, ih]
theorem allN_pos : ∀ {ns : List Int}, (∀ n ∈ ns, 0 ≤ n) → 1 ≤ allN ns
  | [], _ => by simp [allN]
  | n :: ns, h => by
    have h1 := allN_pos (ns := ns) (fun x hx => h x (by simp [hx]))
    have h2 := h n (by simp)
    have : 1 * 1 ≤ (n + 1) * allN ns := Int.mul_le_mul (by omega) h1 (by omega) (by omega)
    simpa [allN] using this
theorem digN_range : ∀ {ns : List Int} (x : Int), (∀ n ∈ ns, 0 ≤ n) → ∀ i, i < ns.length → 0 ≤ (digN ns x).getD i 0 ∧ (digN ns x).getD i 0 ≤ ns.getD i 0
  | [], x, _, i, hi => by simp at hi
  | n :: ns, x, h, 0, _ => by
    have h2 := h n (by simp)
    have h3 := Int.emod_nonneg x (show n + 1 ≠ 0 by omega)
    have h4 := Int.emod_lt_of_pos x (show 0 < n + 1 by omega)
    simp [digN]; omega
  | n :: ns, x, h, i + 1, hi => by
    have := digN_range (ns := ns) (x / (n + 1)) (fun y hy => h y (by simp [hy])) i (by simpa using hi)
    simpa [digN] using this
theorem num_dig : ∀ {ns : List Int} {x : Int}, (∀ n ∈ ns, 0 ≤ n) → 0 ≤ x → x < allN ns → numN ns (digN ns x) = x
  | [], x, _, h0, h1 => by simp [allN] at h1; simp [numN]; omega
  | n :: ns, x, h, h0, h1 => by
    have h2 := h n (by simp)
    have hd : 0 ≤ x / (n + 1) := Int.ediv_nonneg h0 (by omega)
    have hlt : x / (n + 1) < allN ns := Int.ediv_lt_of_lt_mul (by omega) (by rw [Int.mul_comm]; exact h1)
    have ih := num_dig (ns := ns) (fun y hy => h y (by simp [hy])) hd hlt
    simp only [digN, numN, List.headD_cons, List.tail_cons, ih]
    have := Int.emod_add_mul_ediv x (n + 1)
    omega
theorem dig_num : ∀ {ns ds : List Int}, ds.length = ns.length → (∀ i, i < ns.length → 0 ≤ ds.getD i 0 ∧ ds.getD i 0 ≤ ns.getD i 0) → digN ns (numN ns ds) = ds
  | [], [], _, _ => rfl
  | [], d :: ds, hl, _ => by simp at hl
  | n :: ns, [], hl, _ => by simp at hl
  | n :: ns, d :: ds, hl, h => by
    have h0 := h 0 (by simp)
    simp at h0
    have ih := dig_num (ns := ns) (ds := ds) (by simpa using hl) (fun i hi => by
      have := h (i + 1) (by simpa using hi)
      simpa using this)
    have e : (d + (n + 1) * numN ns ds) % (n + 1) = d := by
      rw [Int.add_mul_emod_self_left, Int.emod_eq_of_lt (by omega) (by omega)]
    have e2 : (d + (n + 1) * numN ns ds) / (n + 1) = numN ns ds := by
      rw [Int.add_mul_ediv_left _ _ (by omega), Int.ediv_eq_zero_of_lt (by omega) (by omega)]
      omega
    simp only [digN, numN, List.headD_cons, List.tail_cons]
    rw [e, e2, ih]
theorem num_nonneg : ∀ {ns ds : List Int}, (∀ n ∈ ns, 0 ≤ n) → ds.length = ns.length → (∀ i, i < ns.length → 0 ≤ ds.getD i 0) → 0 ≤ numN ns ds
  | [], ds, _, _, _ => by simp [numN]
  | n :: ns, [], _, hl, _ => by simp at hl
  | n :: ns, d :: ds, hn, hl, h => by
    have h0 := h 0 (by simp)
    simp at h0
    have ih := num_nonneg (ns := ns) (ds := ds) (fun y hy => hn y (by simp [hy])) (by simpa using hl) (fun i hi => by
      have := h (i + 1) (by simpa using hi)
      simpa using this)
    have h2 := hn n (by simp)
    have := Int.mul_nonneg (show 0 ≤ n + 1 by omega) ih
    simp only [numN, List.headD_cons, List.tail_cons]
    omega
theorem num_lt : ∀ {ns ds : List Int}, ds.length = ns.length → (∀ i, i < ns.length → 0 ≤ ds.getD i 0 ∧ ds.getD i 0 ≤ ns.getD i 0) → numN ns ds < allN ns
  | [], ds, _, _ => by simp [numN, allN]
  | n :: ns, [], hl, _ => by simp at hl
  | n :: ns, d :: ds, hl, h => by
    have h0 := h 0 (by simp)
    simp at h0
    have ih := num_lt (ns := ns) (ds := ds) (by simpa using hl) (fun i hi => by
      have := h (i + 1) (by simpa using hi)
      simpa using this)
    have : (n + 1) * numN ns ds ≤ (n + 1) * (allN ns - 1) := Int.mul_le_mul_of_nonneg_left (by omega) (by omega)
    rw [Int.mul_sub, Int.mul_one] at this
    simp only [numN, allN, List.headD_cons, List.tail_cons]
    omega
def subL (a b : List Int) : List Int := (List.range a.length).map (fun i => a.getD i 0 - b.getD i 0)
theorem subL_length (a b : List Int) : (subL a b).length = a.length := by simp [subL]
theorem subL_getD {a b : List Int} {i : Nat} (h : i < a.length) : (subL a b).getD i 0 = a.getD i 0 - b.getD i 0 := by
  unfold subL
  rw [List.getD_eq_getElem?_getD]
  simp [h]
theorem subL_cons (x y : Int) (a b : List Int) : subL (x :: a) (y :: b) = (x - y) :: subL a b := by
  refine eq_of_getD (by simp [subL_length]) (fun j hj => ?_)
  rw [subL_getD (by simpa [subL_length] using hj)]
  cases j with
  | zero => rfl
  | succ j =>
    have : j < a.length := by simpa [subL_length] using hj
    simp only [List.getD_cons_succ]
    rw [subL_getD this]
theorem num_sub : ∀ {ns a b : List Int}, a.length = ns.length → b.length = ns.length → numN ns (subL a b) = numN ns a - numN ns b
  | [], a, b, _, _ => rfl
  | n :: ns, [], b, h, _ => by simp at h
  | n :: ns, x :: a, [], _, h => by simp at h
  | n :: ns, x :: a, y :: b, ha, hb => by
    have ih := num_sub (ns := ns) (a := a) (b := b) (by simpa using ha) (by simpa using hb)
    rw [subL_cons]
    simp only [numN, List.headD_cons, List.tail_cons, ih, Int.mul_sub]
    omega
theorem num_self : ∀ {ns : List Int}, numN ns ns = allN ns - 1
  | [] => rfl
  | n :: ns => by
    have := num_self (ns := ns)
    simp only [numN, allN, List.headD_cons, List.tail_cons, this, Int.mul_sub]
    omega
/-- with sums of at most 8 there are few numbers -/
theorem allN_bound : ∀ {ns : List Int}, (∀ n ∈ ns, 0 ≤ n ∧ n ≤ 20) → ns.length ≤ 6 → allN ns ≤ 85766121
  | ns, h, hl => by
    have key : ∀ {ns : List Int}, (∀ n ∈ ns, 0 ≤ n ∧ n ≤ 20) → 0 ≤ allN ns ∧ allN ns ≤ 21 ^ ns.length := by
      intro ns
      induction ns with
      | nil => intro _; simp [allN]
      | cons n ns ih =>
        intro h
        have h1 := ih (fun x hx => h x (by simp [hx]))
        have h2 := h n (by simp)
        refine ⟨Int.mul_nonneg (by omega) h1.1, ?_⟩
        simp only [allN, List.length_cons, Int.pow_succ]
        rw [Int.mul_comm]
        exact Int.mul_le_mul h1.2 (by omega) (by omega) (Int.le_trans h1.1 h1.2)
    have h1 := (key h).2
    have : (21 : Int) ^ ns.length ≤ 21 ^ 6 := by
      have : ∀ k, k ≤ 6 → (21 : Int) ^ k ≤ 21 ^ 6 := by decide
      exact this _ hl
    have e : (21 : Int) ^ 6 = 85766121 := by decide
    omega

/-! ### What the program's table holds -/
/-- a pattern that a wanted roll is in can be cut down to what is wanted -/
def cutP (w c : List Int) : List Int := (List.range w.length).map (fun i => min (w.getD i 0) (c.getD i 0))
theorem cutP_getD {w c : List Int} {i : Nat} (h : i < w.length) : (cutP w c).getD i 0 = min (w.getD i 0) (c.getD i 0) := by
  unfold cutP
  rw [List.getD_eq_getElem?_getD]
  simp [h]
theorem cutP_ok {width : Int} {ws w c : List Int} (hc : okP width ws c) (hl : w.length = ws.length) (hw : ∀ x ∈ w, 0 ≤ x) : okP width ws (cutP w c) := by
  have e : (cutP w c).length = ws.length := by simp [cutP, hl]
  refine ⟨hc.1, e, fun x hx => ?_, ?_⟩
  · simp only [cutP, List.mem_map, List.mem_range] at hx
    obtain ⟨i, hi, rfl⟩ := hx
    have h1 := hw _ (getD_mem hi)
    have h2 := hc.getD i
    omega
  · have h2 := hc.2.2.2
    rw [hc.2.1, ← sumF_dot] at h2
    rw [e, ← sumF_dot]
    refine Int.le_trans (sumF_le (fun i hi => ?_)) h2
    rw [cutP_getD (by omega)]
    exact Int.mul_le_mul_of_nonneg_right (Int.min_le_right _ _) (by have := (hc.1.2.2.1 _ (getD_mem hi)).1; omega)
/-- the least value over the patterns below w is the least number -/
theorem least_table {width : Int} {ws w : List Int} (hok : okW width ws) (hl : w.length = ws.length) (hw : ∀ x ∈ w, 0 ≤ x) (h8 : w.sum ≤ 8) (h1 : w.sum ≠ 0) {v : Nat}
    (hv : v = 8 ∨ ∃ c k, okP width ws c ∧ v = k + 1 ∧ cov width ws k (wantF (subL w c)))
    (hm : ∀ c k, okP width ws c → (∀ i, i < w.length → c.getD i 0 ≤ w.getD i 0) → (∃ i, i < w.length ∧ 0 < c.getD i 0) → least width ws k (wantF (subL w c)) → v ≤ k + 1)
    (hex : ∀ c, okP width ws c → (∀ i, i < w.length → c.getD i 0 ≤ w.getD i 0) → (∃ i, i < w.length ∧ 0 < c.getD i 0) → ∃ k, least width ws k (wantF (subL w c))) : least width ws v (wantF w) := by
  have hsub : ∀ c : List Int, okP width ws c → ∀ i, wantF w i - c.getD i 0 ≤ wantF (subL w c) i ∨ wantF w i - c.getD i 0 ≤ 0 := fun c hc i => by
    by_cases hi : i < w.length
    · left
      have := subL_getD (b := c) hi
      show w.getD i 0 - c.getD i 0 ≤ (subL w c).getD i 0
      omega
    · right
      have a1 := wantF_out (w := w) (i := i) (by omega)
      have a2 := hc.getD i
      omega
  refine ⟨?_, fun j hj hc => ?_⟩
  · rcases hv with rfl | ⟨c, k, hc, rfl, hk⟩
    · refine cov_total hok (fun i => ?_) (fun i hi => wantF_out (by omega)) ?_
      · by_cases hi : i < w.length
        · exact hw _ (getD_mem hi)
        · rw [wantF_out (by omega)]; exact Int.le_refl _
      · rw [← hl]
        have := sumF_list w
        show sumF (fun i => w.getD i 0) w.length ≤ _
        omega
    · exact ⟨c, hc, cov_mono (hsub c hc) hk⟩
  · have hpos : ∃ i0, i0 < w.length ∧ 0 < w.getD i0 0 := by
      apply Classical.byContradiction
      intro h
      apply h1
      refine (cov_zero (width := width) (ws := ws) hw).1 (fun i => ?_)
      by_cases hi : i < w.length
      · apply Classical.byContradiction
        intro h2
        exact h ⟨i, hi, by show 0 < wantF w i; omega⟩
      · rw [wantF_out (by omega)]; exact Int.le_refl _
    obtain ⟨i0, hi0, hp0⟩ := hpos
    obtain ⟨k, c, rfl, hok', hc0, hk⟩ := cov_first (f := wantF w) (i0 := i0) hp0 hc
    have hle : ∀ i, i < w.length → (cutP w c).getD i 0 ≤ w.getD i 0 := fun i hi => by rw [cutP_getD hi]; omega
    have hne : ∃ i, i < w.length ∧ 0 < (cutP w c).getD i 0 := ⟨i0, hi0, by rw [cutP_getD hi0]; omega⟩
    have hcp := cutP_ok hok' hl hw
    obtain ⟨q, hq⟩ := hex _ hcp hle hne
    have hvq := hm _ q hcp hle hne hq
    have hkc : cov width ws k (wantF (subL w (cutP w c))) := by
      refine cov_mono (fun i => ?_) hk
      by_cases hi : i < w.length
      · have e1 := subL_getD (b := cutP w c) hi
        have e2 := cutP_getD (c := c) hi
        show (subL w (cutP w c)).getD i 0 ≤ w.getD i 0 - c.getD i 0 ∨ (subL w (cutP w c)).getD i 0 ≤ 0
        omega
      · right
        rw [wantF_out (by rw [subL_length]; omega)]; exact Int.le_refl _
    have : ¬ k < q := fun h => hq.2 k h hkc
    omega
theorem exists_least {width : Int} {ws : List Int} {f : Nat → Int} : ∀ {k : Nat}, cov width ws k f → ∃ j, j ≤ k ∧ least width ws j f := by
  intro k
  induction k using Nat.strongRecOn with
  | ind k ih =>
    intro h
    by_cases h2 : ∃ j, j < k ∧ cov width ws j f
    · obtain ⟨j, hj, hc⟩ := h2
      obtain ⟨q, hq, hl⟩ := ih j hj hc
      exact ⟨q, by omega, hl⟩
    · exact ⟨k, Nat.le_refl _, h, fun j hj hc => h2 ⟨j, hj, hc⟩⟩
/-- what both sides return -/
def isFew (width : Int) (ws ns : List Int) (q : Int) : Prop :=
  (okN width ws ns ∧ width ≤ 24 ∧ ns.sum ≤ 8 → ∃ k : Nat, q = k ∧ least width ws k (wantF ns)) ∧ (¬ (okN width ws ns ∧ width ≤ 24 ∧ ns.sum ≤ 8) → q = -1)
theorem isFew_one {width : Int} {ws ns : List Int} {q q' : Int} (h : isFew width ws ns q) (h' : isFew width ws ns q') : q = q' := by
  by_cases c : okN width ws ns ∧ width ≤ 24 ∧ ns.sum ≤ 8
  · obtain ⟨k, rfl, hk⟩ := h.1 c
    obtain ⟨j, rfl, hj⟩ := h'.1 c
    rw [least_one hk hj]
  · rw [h.2 c, h'.2 c]
/-- the product of the first numbers -/
def prodN (ns : List Int) : Nat → Int
  | 0 => 1
  | i + 1 => prodN ns i * (ns.getD i 0 + 1)
theorem prodN_cons (n : Int) (ns : List Int) : ∀ i, prodN (n :: ns) (i + 1) = (n + 1) * prodN ns i
  | 0 => by simp [prodN]
  | i + 1 => by
    rw [prodN, prodN_cons n ns i, prodN, List.getD_cons_succ, Int.mul_assoc]
theorem prodN_all : ∀ ns : List Int, prodN ns ns.length = allN ns
  | [] => rfl
  | n :: ns => by rw [List.length_cons, prodN_cons, prodN_all ns]; rfl
theorem prodN_bound {ns : List Int} (h : ∀ n ∈ ns, 0 ≤ n ∧ n ≤ 20) : ∀ i, i ≤ ns.length → 1 ≤ prodN ns i ∧ prodN ns i ≤ 21 ^ i
  | 0, _ => by simp [prodN]
  | i + 1, hi => by
    have h1 := prodN_bound h i (by omega)
    have h2 := h _ (getD_mem (xs := ns) (k := i) (by omega))
    have h3 : 1 * 1 ≤ prodN ns i * (ns.getD i 0 + 1) := Int.mul_le_mul h1.1 (by omega) (by omega) (by omega)
    have h4 : prodN ns i * (ns.getD i 0 + 1) ≤ 21 ^ i * 21 := Int.mul_le_mul h1.2 (by omega) (by omega) (by have := h1.1; have := h1.2; omega)
    rw [prodN, Int.pow_succ]
    omega
theorem prodN_small {ns : List Int} (h : ∀ n ∈ ns, 0 ≤ n ∧ n ≤ 20) (hl : ns.length ≤ 6) (i : Nat) (hi : i ≤ ns.length) : 1 ≤ prodN ns i ∧ prodN ns i ≤ 85766121 := by
  have h1 := prodN_bound h i hi
  have h2 : (21 : Int) ^ i ≤ 21 ^ 6 := by
    have : ∀ k, k ≤ 6 → (21 : Int) ^ k ≤ 21 ^ 6 := by decide
    exact this _ (by omega)
  have e : (21 : Int) ^ 6 = 85766121 := by decide
  omega
theorem digN_zero : ∀ {ns : List Int}, ∀ i, (digN ns 0).getD i 0 = 0
  | [], i => by simp [digN]
  | n :: ns, 0 => by simp [digN]
  | n :: ns, i + 1 => by
    have := digN_zero (ns := ns) i
    simpa [digN] using this
theorem sum_le_of {xs ys : List Int} (hl : xs.length = ys.length) (h : ∀ i, i < xs.length → xs.getD i 0 ≤ ys.getD i 0) : xs.sum ≤ ys.sum := by
  rw [← sumF_list, ← sumF_list, hl]
  exact sumF_le (fun i hi => h i (by omega))
/-- numbers of counts below others -/
theorem num_le {ns a b : List Int} (hn : ∀ n ∈ ns, 0 ≤ n) (ha : a.length = ns.length) (hb : b.length = ns.length) (h : ∀ i, i < ns.length → b.getD i 0 ≤ a.getD i 0) : numN ns b ≤ numN ns a := by
  have h1 := num_sub (ns := ns) ha hb
  have h2 := num_nonneg (ns := ns) (ds := subL a b) hn (by rw [subL_length, ha]) (fun i hi => by
    rw [subL_getD (by omega)]
    have := h i hi
    omega)
  omega
end Go.PR
