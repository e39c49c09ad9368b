/-
  Regions that draw their order and whose operations write or make memory: what only reads is taken first, the other ones of the head in each order that may come, the tail in the order of the text. No condition.
-/
import Derived.Test.YtjpbmjigmbfcfaaMem3
import Derived.OrdersHeld
namespace Go.PR
open Go Go.RowKit

def noExit : Exit → Act → World → Prop := fun _ _ _ => False

theorem wpOp_out {P : Program} {ops : Array Oper} {i : Nat} {a : Act} {w : World} {K K' : Act → World → Prop} {Q : Exit → Act → World → Prop} (hk : ∀ a w, K a w → K' a w) (h : wpOp P ops noExit i K a w) : wpOp P ops Q i K' a w := by
  unfold wpOp at h ⊢
  split
  · rename_i ho; simp only [ho] at h; exact hk _ _ h
  · rename_i o ho
    simp only [ho] at h
    split
    · rename_i hw
      rw [if_pos hw] at h
      rcases h with h | ⟨_, a0, w0, h0⟩
      · left
        unfold Oper.wp at h ⊢
        generalize (execOp a.eval o).run P w = r' at h ⊢
        cases r' with
        | ok nx w' =>
          cases nx <;> simp only [Oper.upon] at h ⊢
          case value v => exact hk _ _ h
          case skip => exact hk _ _ h
          case defer dd => exact hk _ _ h
          case enter f args =>
            refine h.mono ?_
            intro e w2 he
            cases e with
            | returned v => exact hk _ _ he
            | panicked c => exact he.elim
            | outgrown => obtain ⟨a0, w0, h0⟩ := he; exact h0.elim
          case row rr args => exact h.mono fun v w2 hv => hk _ _ hv
        | halt x w' =>
          cases x <;> simp only [Oper.upon] at h ⊢
          exact h.elim
      · exact h0.elim
    · rename_i hw
      rw [if_neg hw] at h
      exact hk _ _ h

/-- The head: f operations, all of them below n, in whatever order, S behind each; then L. -/
def wpHL (P : Program) (ops : Array Oper) (S : World → Prop) (n : Nat) (L : Array Bool → Act → World → Prop) : Nat → Array Bool → Act → World → Prop
  | 0, listed, a, w => L listed a w
  | f + 1, listed, a, w => Region.ready .any ops listed ≠ [] ∧ ∀ i ∈ Region.ready .any ops listed, i < n ∧ wpOp P ops noExit i (fun a' w' => S w' ∧ wpHL P ops S n L f (listed.setIfInBounds i true) a' w') a w

theorem wpAny_of_HL {P : Program} {ops : Array Oper} {S : World → Prop} {n g : Nat} {L : Array Bool → Act → World → Prop} {Q : Exit → Act → World → Prop} (hL : ∀ listed a w, L listed a w → wpAny P .any ops Q g listed a w) :
    ∀ (f : Nat) (listed : Array Bool) (a : Act) (w : World), wpHL P ops S n L f listed a w → wpAny P .any ops Q (f + g) listed a w
  | 0, listed, a, w, h => by rw [Nat.zero_add]; exact hL _ _ _ h
  | f + 1, listed, a, w, h => by
    rw [show f + 1 + g = (f + g) + 1 by omega]
    exact ⟨fun h0 => absurd h0 h.1, fun i hi => wpOp_out (fun a' w' h' => wpAny_of_HL hL f _ a' w' h'.2) (h.2 i hi).2⟩

theorem wpHL_first {P : Program} {ops : Array Oper} {S : World → Prop} {n i : Nat} {oi : Oper} {v : Value} {L : Array Bool → Act → World → Prop} (hi : ops[i]? = some oi) (hsel : ∀ (j : Nat) (o : Oper) cs b, ops[j]? = some o → o.op ≠ .select cs b)
    (hs : Region.sinkB .any ops n = true) (hc : Region.chainB .any ops n = true) (hn : n < ops.size) (hin : i < n) (hdone : ∀ listed a w, L listed a w → ∀ j ∈ Region.ready .any ops listed, n ≤ j) :
    ∀ (f : Nat) (listed : Array Bool) (a : Act) (w : World), HeadInv .any ops n listed →
      (∀ j oj, ops[j]? = some oj → j ≠ i → listed.getD j true = false → (∀ e ∈ oj.after, Region.binds .any e = true → e.on ≠ i) → oi.apart ops oj = true) →
      i ∈ Region.ready .any ops listed → YieldsIf P ops S oi v a → S w →
      wpHL P ops S n L f (listed.setIfInBounds i true) (a.put oi.dst v) w → wpHL P ops S n L (f + 1) listed a w := by
  intro f
  induction f with
  | zero =>
    intro listed a w inv _ hr hy hS H
    have hun := (mem_ready.1 hr).1
    refine ⟨fun h => (by rw [h] at hr; cases hr), fun j hj => ?_⟩
    have hjn : j < n := by
      rcases Nat.lt_or_ge j n with h | h
      · exact h
      · exact absurd hj (tail_waits hs hc hn inv _ i rfl hin hun j h)
    refine ⟨hjn, ?_⟩
    by_cases hji : j = i
    · subst hji; exact hy.wpOp hi hS ⟨hS, H⟩
    · have := hdone _ _ _ H j (ready_mono hj hji)
      omega
  | succ f ih =>
    intro listed a w inv hfree hr hy hS H
    have hun := (mem_ready.1 hr).1
    refine ⟨fun h => (by rw [h] at hr; cases hr), fun j hj => ?_⟩
    have hjn : j < n := by
      rcases Nat.lt_or_ge j n with h | h
      · exact h
      · exact absurd hj (tail_waits hs hc hn inv _ i rfl hin hun j h)
    refine ⟨hjn, ?_⟩
    by_cases hji : j = i
    · subst hji; exact hy.wpOp hi hS ⟨hS, H⟩
    · have h1 := (H.2 j (ready_mono hj hji)).2
      obtain ⟨hjun, oj, hoj, hall⟩ := mem_ready.1 hj
      have hnot : ∀ e ∈ oj.after, Region.binds .any e = true → e.on ≠ i := fun e he hb heq => by
        have h1 := hall e he hb
        rw [heq, getD_both hun] at h1
        cases h1
      have h2 := wpOp_putIf hoj (hfree j oj hoj hji hjun hnot) (fun cs b => hsel i oi cs b hi) (fun cs b => hsel j oj cs b hoj) (fun _ _ _ h => h) hy h1
      have hfree' : ∀ k ok, ops[k]? = some ok → k ≠ i → (listed.setIfInBounds j true).getD k true = false →
          (∀ e ∈ ok.after, Region.binds .any e = true → e.on ≠ i) → oi.apart ops ok = true := fun k ok hk hki hun hno => by
        refine hfree k ok hk hki ?_ hno
        by_cases hjk : j = k
        · subst hjk; exact hjun
        · rw [getD_set_ne true hjk] at hun; exact hun
      refine wpOp_mono (fun a' w' h3 => ⟨h3.2.1, ih (listed.setIfInBounds j true) a' w' (inv.set hj hjn) hfree' (ready_mono hr (Ne.symm hji)) h3.1 h3.2.1 ?_⟩) h2
      rw [Array.setIfInBounds_comm _ _ hji]
      exact h3.2.2

def lst (N : Nat) (ks : List Nat) : Array Bool := ((List.range N).map fun i => ks.contains i).toArray

/-- The head's operations but those of ks are to come (N of them in all), then the tail, then K; wE: the world whose memory stands throughout the head (md = 3: all of it; b + 4: all but block b). -/
def X (P : Program) (n N md : Nat) (ops : Array Oper) (wE : World) (K : Env → World → Prop) (ks : List Nat) (m : Env) (w : World) : Prop :=
  HeadInv .any ops N (lst ops.size ks) → ∀ a, Fits n m a → wpHL P ops (Later md wE) N (fun listed a' w' => Region.seqB .any ops (ops.size - N) N listed = true ∧ ∃ m', Fits n m' a' ∧ K m' w') (N - ks.length) (lst ops.size ks) a w

def baseB (ops : Array Oper) (N : Nat) : Bool := Region.noSelect ops && decide (N < ops.size) && Region.sinkB .any ops N && Region.chainB .any ops N

section
variable {P : Program} {fn : Func} {R : Ending → World → Prop} {n N md : Nat} {k : List Item} {m : Env} {w wE : World} {ops : Array Oper} {K : Env → World → Prop} {l : List Oper} {ks : List Nat}

theorem E_region_heldM {id : Nat} {l : List Oper} (N md : Nat) (wE : World) (hm : P.follows .mixedOrders = true) (hb : baseB l.toArray N = true)
    (h : X P n N md l.toArray wE (fun m' w' => T P n l.toArray 0 (E P fn R n k) (l.drop N) m' w') [] m w.drew) : E P fn R n (.code (.region id l.toArray true) :: k) m w := by
  simp only [baseB, Bool.and_eq_true, decide_eq_true_eq] at hb
  obtain ⟨⟨⟨hsel, hn⟩, hs⟩, hc⟩ := hb
  have hn' : N < l.length := by simpa using hn
  have hdl : (l.drop N).length = l.toArray.size - N := by simp
  intro a ha
  have e : lst l.toArray.size [] = Array.replicate l.toArray.size false := by
    apply Array.ext'
    simp [lst]
    apply List.ext_getElem?
    intro j
    by_cases hj : j < l.length <;> simp [hj]
  have inv0 : HeadInv .any l.toArray N (Array.replicate l.toArray.size false) :=
    ⟨by simp, fun j oj _ hl => (by rw [getD_replicate_false] at hl; cases hl), fun t _ ht => getD_in (by simpa using ht) (getD_replicate_false _ _)⟩
  have h1 := h (by rw [e]; exact inv0) a ha
  rw [e] at h1
  refine Run_of_wp (wp_mono (Q := fun e a' w' => e = .normal ∧ ∃ m', Fits n m' a' ∧ E P fn R n k m' w') (wp_region_any hm ?_) ?_)
  · have h2 := wpAny_of_HL (Q := fun e a' w' => e = .normal ∧ ∃ m', Fits n m' a' ∧ E P fn R n k m' w') (g := l.toArray.size - N) (fun listed a' w' hL => by
      obtain ⟨hq, m', hm', hT⟩ := hL
      have := wpAny_of_seq (md := .any) (l.drop N) N listed a' w' (fun j => by simp [List.getElem?_drop]) (by rw [hdl]; exact hq) (hT a' hm')
      rwa [hdl] at this) _ _ _ _ h1
    simp only [List.length_nil, Nat.sub_zero] at h2
    rw [show N + (l.toArray.size - N) = l.toArray.size by omega] at h2
    exact h2
  · rintro e a' w' ⟨rfl, m', hm', hE⟩
    exact ⟨rfl, hE a' hm'⟩

theorem E_region_held {id : Nat} {l : List Oper} (N : Nat) (wE : World) (hm : P.follows .mixedOrders = true) (hb : baseB l.toArray N = true)
    (h : X P n N 3 l.toArray wE (fun m' w' => T P n l.toArray 0 (E P fn R n k) (l.drop N) m' w') [] m w.drew) : E P fn R n (.code (.region id l.toArray true) :: k) m w := E_region_heldM N 3 wE hm hb h

def stepB (ops : Array Oper) (N : Nat) (ks : List Nat) (i : Nat) : Bool :=
  decide (ks.length < N) && decide (i < N) && (Region.ready .any ops (lst ops.size ks)).contains i && Region.free .any ops (lst ops.size ks) i && decide (lst ops.size (i :: ks) = (lst ops.size ks).setIfInBounds i true)

def runB (ops : Array Oper) (N : Nat) : List Nat → Nat → Nat → Bool
  | _, _, 0 => true
  | ks, i, j + 1 => stepB ops N ks i && runB ops N (i :: ks) (i + 1) j
def ran : List Nat → Nat → Nat → List Nat
  | ks, _, 0 => ks
  | ks, i, j + 1 => ran (i :: ks) (i + 1) j

theorem run_take (hb : baseB ops N = true) (hS : Later md wE w) {L : Array Bool → Act → World → Prop} (hL : ∀ listed a w, L listed a w → Region.seqB .any ops (ops.size - N) N listed = true) : ∀ (l : List Oper) (ks : List Nat) (i : Nat) (a : Act), HeadInv .any ops N (lst ops.size ks) → (∀ j, j < l.length → l[j]? = ops[i + j]?) → runB ops N ks i l.length = true →
    wpHeld P ops (Later md wE) (fun a' => HeadInv .any ops N (lst ops.size (ran ks i l.length)) → wpHL P ops (Later md wE) N L (N - (ran ks i l.length).length) (lst ops.size (ran ks i l.length)) a' w) l a →
    wpHL P ops (Later md wE) N L (N - ks.length) (lst ops.size ks) a w
  | [], ks, i, a, inv, _, _, h => h inv
  | o :: r, ks, i, a, inv, hl, hB, h => by
    have hb' := hb
    simp only [baseB, Bool.and_eq_true, decide_eq_true_eq] at hb'
    obtain ⟨⟨⟨hsel, hn⟩, hs⟩, hc⟩ := hb'
    have h0 : ops[i]? = some o := by simpa using (hl 0 (by simp)).symm
    simp only [List.length_cons, runB, stepB, Bool.and_eq_true, decide_eq_true_eq] at hB
    obtain ⟨⟨⟨⟨⟨b1, b0⟩, b2⟩, b3⟩, b4⟩, hB'⟩ := hB
    have b2' : i ∈ Region.ready .any ops (lst ops.size ks) := by simpa using b2
    have hsz : N - ks.length = (N - (i :: ks).length) + 1 := by simp only [List.length_cons]; omega
    rw [hsz]
    have next : ∀ a', wpHeld P ops (Later md wE) (fun a' => HeadInv .any ops N (lst ops.size (ran ks i (r.length + 1))) → wpHL P ops (Later md wE) N L (N - (ran ks i (r.length + 1)).length) (lst ops.size (ran ks i (r.length + 1))) a' w) r a' →
        wpHL P ops (Later md wE) N L (N - (i :: ks).length) ((lst ops.size ks).setIfInBounds i true) a' w := fun a' h' => by
      rw [← b4]
      exact run_take hb hS hL r (i :: ks) (i + 1) a' (by rw [b4]; exact inv.set b2' b0) (fun j hj => by have := hl (j + 1) (by simp; omega); simpa [Nat.add_assoc, Nat.add_comm 1 j] using this) hB' h'
    have hdone : ∀ listed a w, L listed a w → ∀ j ∈ Region.ready .any ops listed, N ≤ j := fun listed a w h => seqB_ready (hL _ _ _ h)
    unfold wpHeld at h
    by_cases hw : Region.wanted o (yielded ops a.tmps) = true
    · rw [if_pos hw] at h
      obtain ⟨v, hv, h⟩ := h
      exact wpHL_first h0 (Region.noSelect_spec hsel) hs hc hn b0 hdone _ _ a w inv (Region.free_spec h0 b3) b2' (.inl ⟨hw, hv⟩) hS (next _ h)
    · rw [if_neg hw] at h
      exact wpHL_first h0 (Region.noSelect_spec hsel) hs hc hn b0 hdone _ _ a w inv (Region.free_spec h0 b3) b2' (.inr ⟨by simpa using hw, rfl⟩) hS (next _ h)

/-- j operations that only read, from number i on -/
theorem X_runM {l0 : List Oper} (i j : Nat) (hB : (baseB l0.toArray N && decide (i + j ≤ l0.length) && runB l0.toArray N ks i j) = true) (hS : Later md wE w)
    (hmd : Nat.ble 3 md = true)
    (h : T P n l0.toArray md (fun m' _ => X P n N md l0.toArray wE K (ran ks i j) m' w) ((l0.drop i).take j) m wE) : X P n N md l0.toArray wE K ks m w := by
  simp only [Bool.and_eq_true, decide_eq_true_eq] at hB
  obtain ⟨⟨b1, b2⟩, b3⟩ := hB
  have hl : ((l0.drop i).take j).length = j := by simp; omega
  intro inv a ha
  have h1 : wpHeld P l0.toArray (Later md wE) (fun a' => ∃ m', Fits n m' a' ∧ X P n N md l0.toArray wE K (ran ks i j) m' w) ((l0.drop i).take j) a := by
    have h0 := h a ha
    obtain ⟨q, rfl⟩ : ∃ q, md = q + 3 := ⟨md - 3, by have := Nat.le_of_ble_eq_true hmd; omega⟩
    exact h0
  have := run_take (P := P) (L := fun listed a' w' => Region.seqB .any l0.toArray (l0.toArray.size - N) N listed = true ∧ ∃ m', Fits n m' a' ∧ K m' w') b1 hS (fun _ _ _ h => h.1) ((l0.drop i).take j) ks i a inv (fun q hq => by
    rw [hl] at hq
    simp [List.getElem?_take, hq]) (by rw [hl]; exact b3)
  refine this ?_
  rw [hl]
  have mono : ∀ (l' : List Oper) (a : Act) (Q Q' : Act → Prop), (∀ a, Q a → Q' a) → wpHeld P l0.toArray (Later md wE) Q l' a → wpHeld P l0.toArray (Later md wE) Q' l' a := by
    intro l'
    induction l' with
    | nil => intro a Q Q' hq h; exact hq _ h
    | cons o r ih =>
      intro a Q Q' hq h
      unfold wpHeld at h ⊢
      split
      · rename_i hw; rw [if_pos hw] at h; obtain ⟨v, h1, h2⟩ := h; exact ⟨v, h1, ih _ _ _ hq h2⟩
      · rename_i hw; rw [if_neg hw] at h; exact ih _ _ _ hq h
  refine mono _ _ _ _ ?_ h1
  rintro a' ⟨m', hm', hX⟩
  exact fun inv' => hX inv' a' hm'

theorem X_run {l0 : List Oper} (i j : Nat) (hB : (baseB l0.toArray N && decide (i + j ≤ l0.length) && runB l0.toArray N ks i j) = true) (hS : Below wE.heap.size wE w)
    (h : T P n l0.toArray 3 (fun m' _ => X P n N 3 l0.toArray wE K (ran ks i j) m' w) ((l0.drop i).take j) m wE) : X P n N 3 l0.toArray wE K ks m w :=
  X_runM i j hB hS rfl h

theorem wpOp_of_list {i : Nat} {o : Oper} {a : Act} {K' : Act → World → Prop} (hi : ops[i]? = some o) (h : wpList P ops (fun e a' w' => e = .normal ∧ K' a' w') [o] a w) : wpOp P ops noExit i K' a w := by
  unfold wpOp
  simp only [hi]
  unfold wpList at h
  split
  · rename_i hw
    rw [if_pos hw] at h
    rcases h with h | ⟨_, a0, w0, h0⟩
    · left
      unfold Oper.wp at h ⊢
      generalize (execOp a.eval o).run P w = r' at h ⊢
      cases r' with
      | ok nx w' =>
        cases nx <;> simp only [Oper.upon] at h ⊢
        case value v => exact h.2
        case skip => exact h.2
        case defer dd => exact h.2
        case enter f args =>
          refine h.mono ?_
          intro e w2 he
          cases e with
          | returned v => exact he.2
          | panicked c => exact absurd he.1 (by simp)
          | outgrown => obtain ⟨a0, w0, h0⟩ := he; exact absurd h0.1 (by simp)
        case row rr args => exact h.mono fun v w2 hv => hv.2
      | halt x w' =>
        cases x <;> simp only [Oper.upon] at h ⊢
        exact absurd h.1 (by simp)
    · exact absurd h0.1 (by simp)
  · rename_i hw
    rw [if_neg hw] at h
    exact h.2

def forkB (ops : Array Oper) (N : Nat) (ks rs : List Nat) : Bool :=
  decide (ks.length < N) && decide (Region.ready .any ops (lst ops.size ks) = rs) && decide (rs ≠ []) && decide (N ≤ ops.size) && rs.all fun i => decide (lst ops.size (i :: ks) = (lst ops.size ks).setIfInBounds i true) && decide (i < N)

/-- whichever of rs comes up -/
theorem X_fork {l0 : List Oper} (rs : List Nat) (hB : forkB l0.toArray N ks rs = true)
    (h : ∀ i ∈ rs, T P n l0.toArray 0 (fun m' w' => Later md wE w' ∧ X P n N md l0.toArray wE K (i :: ks) m' w') ((l0.drop i).take 1) m w) : X P n N md l0.toArray wE K ks m w := by
  simp only [forkB, Bool.and_eq_true, decide_eq_true_eq, List.all_eq_true] at hB
  obtain ⟨⟨⟨⟨b1, b2⟩, b3⟩, b5⟩, b4⟩ := hB
  intro inv a ha
  have hs : ∀ i, N - ks.length = (N - (i :: ks).length) + 1 := fun i => by simp only [List.length_cons]; omega
  rw [hs 0]
  refine ⟨by rw [b2]; exact b3, fun i hi => ?_⟩
  have hi' := hi
  rw [b2] at hi
  obtain ⟨c1, c2⟩ := b4 i hi
  refine ⟨c2, ?_⟩
  have c2' : i < l0.length := by have h5 : N ≤ l0.length := by simpa using b5
                                 omega
  have h0 : l0.toArray[i]? = some l0[i] := by simp [c2']
  have h1 := h i hi a ha
  have e1 : (l0.drop i).take 1 = [l0[i]] := by
    rw [List.drop_eq_getElem_cons c2', List.take_succ_cons, List.take_zero]
  rw [e1] at h1
  rw [← c1]
  refine wpOp_mono ?_ (wpOp_of_list h0 h1)
  rintro a' w' ⟨m', hm', hS, hX⟩
  exact ⟨hS, hX (by rw [c1]; exact inv.set hi' c2) a' hm'⟩

theorem X_one {l0 : List Oper} (i : Nat) (hB : forkB l0.toArray N ks [i] = true)
    (h : T P n l0.toArray 0 (fun m' w' => Later md wE w' ∧ X P n N md l0.toArray wE K (i :: ks) m' w') ((l0.drop i).take 1) m w) : X P n N md l0.toArray wE K ks m w :=
  X_fork [i] hB (fun j hj => by simp at hj; subst hj; exact h)
theorem X_two {l0 : List Oper} (i j : Nat) (hB : forkB l0.toArray N ks [i, j] = true)
    (h : T P n l0.toArray 0 (fun m' w' => Later md wE w' ∧ X P n N md l0.toArray wE K (i :: ks) m' w') ((l0.drop i).take 1) m w)
    (h' : T P n l0.toArray 0 (fun m' w' => Later md wE w' ∧ X P n N md l0.toArray wE K (j :: ks) m' w') ((l0.drop j).take 1) m w) : X P n N md l0.toArray wE K ks m w :=
  X_fork [i, j] hB (fun q hq => by
    simp at hq
    by_cases e : q = i
    · subst e; exact h
    · have e2 : q = j := by omega
      subst e2; exact h')
/-- the head is done -/
theorem X_tail (hB : (decide (ks.length = N) && Region.seqB .any ops (ops.size - N) N (lst ops.size ks)) = true) (h : K m w) : X P n N md ops wE K ks m w := by
  simp only [Bool.and_eq_true, decide_eq_true_eq] at hB
  intro _ a ha
  rw [hB.1, Nat.sub_self]
  exact ⟨hB.2, m, ha, h⟩
theorem X_perm (ks' : List Nat) (hB : (decide (lst ops.size ks = lst ops.size ks') && decide (ks.length = ks'.length)) = true) (h : X P n N md ops wE K ks' m w) : X P n N md ops wE K ks m w := by
  simp only [Bool.and_eq_true, decide_eq_true_eq] at hB
  intro inv a ha
  rw [hB.1] at inv
  have := h inv a ha
  rw [← hB.1, ← hB.2] at this
  exact this
/-- two operations in either order; J is told once -/
theorem X_join {l0 : List Oper} (i j : Nat) (J : Env → World → Prop) (hB : forkB l0.toArray N ks [i, j] = true) (hBi : forkB l0.toArray N (i :: ks) [j] = true) (hBj : forkB l0.toArray N (j :: ks) [i] = true)
    (hP : (decide (lst l0.toArray.size (i :: j :: ks) = lst l0.toArray.size (j :: i :: ks)) && decide ((i :: j :: ks).length = (j :: i :: ks).length)) = true)
    (h1 : T P n l0.toArray 0 (fun m' w' => Later md wE w' ∧ T P n l0.toArray 0 (fun m'' w'' => Later md wE w'' ∧ J m'' w'') ((l0.drop j).take 1) m' w') ((l0.drop i).take 1) m w)
    (h2 : T P n l0.toArray 0 (fun m' w' => Later md wE w' ∧ T P n l0.toArray 0 (fun m'' w'' => Later md wE w'' ∧ J m'' w'') ((l0.drop i).take 1) m' w') ((l0.drop j).take 1) m w)
    (hJ : ∀ m' w', J m' w' → X P n N md l0.toArray wE K (j :: i :: ks) m' w') : X P n N md l0.toArray wE K ks m w :=
  X_two i j hB (T_cut _ h1 (fun _ _ ⟨a, b⟩ => ⟨a, X_one j hBi (T_cut _ b (fun _ _ ⟨c, d⟩ => ⟨c, hJ _ _ d⟩))⟩))
    (T_cut _ h2 (fun _ _ ⟨a, b⟩ => ⟨a, X_one i hBj (T_cut _ b (fun _ _ ⟨c, d⟩ => ⟨c, X_perm (j :: i :: ks) hP (hJ _ _ d)⟩))⟩))
theorem X.weaken {m' : Env} (hs : Sub m' m) (h : X P n N md ops wE K ks m' w) : X P n N md ops wE K ks m w := fun inv a ha => h inv a (ha.weaken hs.spec)

/-! ### Calls of function values -/

theorem run_callV {a : Act} (ha : Fits n m a) {x : Operand} {f : FuncId} {cap : List Value} {xs : List Operand} {vs : List Value} {ts : Array TypeId} {d : Option Tmp} {ty : TypeId} {pos : String} {af : Array Edge} {g : Option (Nat × Bool)}
    (hx : ev m x = some (.func (.func f) #[] cap.toArray)) (hxs : evs m xs = some vs) (hc : ∀ args w, (callFunc f args).run P w = .ok (.enter f args) w) (w : World) :
    (execOp a.eval ⟨d, .call ⟨.value x, xs.toArray, ts⟩, ty, pos, af, g⟩).run P w = .ok (.enter f (vs ++ cap).toArray) w := by
  have h1 := ha.evals hxs
  have h2 : Array.map a.eval xs.toArray = vs.toArray := by rw [List.map_toArray, h1]
  have h3 := ha.eval hx
  simp [execOp, resolve, h3, Deferred.ofValue, invoke, hc, -List.map_toArray, h2]

theorem T_callV {d : Nat} {x : Operand} {f : FuncId} {cap : List Value} {xs : List Operand} {vs : List Value} {ts : Array TypeId} {ty : TypeId} {pos : String} {af : Array Edge} {Φ : Value → World → Prop}
    (hx : ev m x = some (.func (.func f) #[] cap.toArray)) (hxs : evs m xs = some vs) (hd : Nat.blt d n = true) (hr : Ret P f (vs ++ cap).toArray w Φ) (h : ∀ v w', Φ v w' → T P n ops 0 K l ((d, v) :: m) w') :
    T P n ops 0 K (⟨some d, .call ⟨.value x, xs.toArray, ts⟩, ty, pos, af, none⟩ :: l) m w := by
  have hd' : d < n := by simpa [Nat.blt_eq] using hd
  intro a ha
  refine wpList_plain rfl fun K' hK => ?_
  unfold Oper.wp
  rw [run_callV ha hx hxs hr.1]
  refine hr.2.mono ?_
  rintro e w' ⟨v, rfl, hv⟩
  exact hK _ _ (h v w' hv _ (ha.put hd' v))
end
end Go.PR
