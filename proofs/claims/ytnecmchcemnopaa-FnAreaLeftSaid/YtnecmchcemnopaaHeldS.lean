/-
  Regions that draw their order, where an invariant of the worlds is all that the reads need. No condition.
-/
import Derived.Test.YtnecmchcemnopaaHeld
import Derived.Test.YtnecmchcemnopaaMem6
namespace Go.PR
open Go Go.RowKit

/-- as X, with an invariant S of the worlds in place of one world that stands -/
def XS (P : Program) (n N : Nat) (ops : Array Oper) (S : World → Prop) (K : Env → World → Prop) (ks : List Nat) (m : Env) (w : World) : Prop :=
  HeadInv .any ops N (lst ops.size ks) → ∀ a, Fits n m a → wpHL P ops S N (fun listed a' w' => Region.seqB .any ops (ops.size - N) N listed = true ∧ ∃ m', Fits n m' a' ∧ K m' w') (N - ks.length) (lst ops.size ks) a w
def muteW (w : World) : World := { w with heap := #[] }
/-- nothing is told of the memory -/
def Mute (a w : World) : Prop := Below (muteW a).heap.size (muteW a) w
theorem Mute.now {a w : World} (h1 : w.os = a.os) (h2 : w.tape = a.tape) (h3 : w.output = a.output) : Mute a w := ⟨h1, h2, h3, Nat.zero_le _, fun k hk => absurd hk (Nat.not_lt_zero _)⟩
theorem Mute.grown {a w w' : World} {row : Option Nat} (h : Mute a w) (hg : w.grownBy w' row) : Mute a w' :=
  ⟨hg.os.trans h.os, hg.tape.trans h.tape, hg.output.trans h.output, Nat.zero_le _, fun k hk => absurd hk (Nat.not_lt_zero _)⟩
theorem Mute.later {a w w' : World} (h : Mute a w) (hg : Below w.heap.size w w') : Mute a w' := h.grown (grown_of_below hg)

section
variable {P : Program} {fn : Func} {R : Ending → World → Prop} {n N : Nat} {S : World → Prop} {k : List Item} {m : Env} {w wE : World} {ops : Array Oper} {K : Env → World → Prop} {l : List Oper} {ks : List Nat}

theorem E_region_heldS {id : Nat} {l : List Oper} (N : Nat) (S : World → Prop) (hm : P.follows .mixedOrders = true) (hb : baseB l.toArray N = true)
    (h : XS P n N l.toArray S (fun m' w' => T P n l.toArray 0 (E P fn R n k) (l.drop N) m' w') [] m w.drew) : E P fn R n (.code (.region id l.toArray true) :: k) m w := by
  simp only [baseB, Bool.and_eq_true, decide_eq_true_eq] at hb
  obtain ⟨⟨⟨hsel, hn⟩, hs⟩, hc⟩ := hb
  have hn' : N < l.length := by simpa using hn
  have hdl : (l.drop N).length = l.toArray.size - N := by simp
  intro a ha
  have e : lst l.toArray.size [] = Array.replicate l.toArray.size false := by
    apply Array.ext'
    simp [lst]
    apply List.ext_getElem?
    intro j
    by_cases hj : j < l.length <;> simp [hj]
  have inv0 : HeadInv .any l.toArray N (Array.replicate l.toArray.size false) :=
    ⟨by simp, fun j oj _ hl => (by rw [getD_replicate_false] at hl; cases hl), fun t _ ht => getD_in (by simpa using ht) (getD_replicate_false _ _)⟩
  have h1 := h (by rw [e]; exact inv0) a ha
  rw [e] at h1
  refine Run_of_wp (wp_mono (Q := fun e a' w' => e = .normal ∧ ∃ m', Fits n m' a' ∧ E P fn R n k m' w') (wp_region_any hm ?_) ?_)
  · have h2 := wpAny_of_HL (Q := fun e a' w' => e = .normal ∧ ∃ m', Fits n m' a' ∧ E P fn R n k m' w') (g := l.toArray.size - N) (fun listed a' w' hL => by
      obtain ⟨hq, m', hm', hT⟩ := hL
      have := wpAny_of_seq (md := .any) (l.drop N) N listed a' w' (fun j => by simp [List.getElem?_drop]) (by rw [hdl]; exact hq) (hT a' hm')
      rwa [hdl] at this) _ _ _ _ h1
    simp only [List.length_nil, Nat.sub_zero] at h2
    rw [show N + (l.toArray.size - N) = l.toArray.size by omega] at h2
    exact h2
  · rintro e a' w' ⟨rfl, m', hm', hE⟩
    exact ⟨rfl, hE a' hm'⟩

theorem run_takeS (hb : baseB ops N = true) (hS : S w) {L : Array Bool → Act → World → Prop} (hL : ∀ listed a w, L listed a w → Region.seqB .any ops (ops.size - N) N listed = true) : ∀ (l : List Oper) (ks : List Nat) (i : Nat) (a : Act), HeadInv .any ops N (lst ops.size ks) → (∀ j, j < l.length → l[j]? = ops[i + j]?) → runB ops N ks i l.length = true →
    wpHeld P ops S (fun a' => HeadInv .any ops N (lst ops.size (ran ks i l.length)) → wpHL P ops S N L (N - (ran ks i l.length).length) (lst ops.size (ran ks i l.length)) a' w) l a →
    wpHL P ops S N L (N - ks.length) (lst ops.size ks) a w
  | [], ks, i, a, inv, _, _, h => h inv
  | o :: r, ks, i, a, inv, hl, hB, h => by
    have hb' := hb
    simp only [baseB, Bool.and_eq_true, decide_eq_true_eq] at hb'
    obtain ⟨⟨⟨hsel, hn⟩, hs⟩, hc⟩ := hb'
    have h0 : ops[i]? = some o := by simpa using (hl 0 (by simp)).symm
    simp only [List.length_cons, runB, stepB, Bool.and_eq_true, decide_eq_true_eq] at hB
    obtain ⟨⟨⟨⟨⟨b1, b0⟩, b2⟩, b3⟩, b4⟩, hB'⟩ := hB
    have b2' : i ∈ Region.ready .any ops (lst ops.size ks) := by simpa using b2
    have hsz : N - ks.length = (N - (i :: ks).length) + 1 := by simp only [List.length_cons]; omega
    rw [hsz]
    have next : ∀ a', wpHeld P ops S (fun a' => HeadInv .any ops N (lst ops.size (ran ks i (r.length + 1))) → wpHL P ops S N L (N - (ran ks i (r.length + 1)).length) (lst ops.size (ran ks i (r.length + 1))) a' w) r a' →
        wpHL P ops S N L (N - (i :: ks).length) ((lst ops.size ks).setIfInBounds i true) a' w := fun a' h' => by
      rw [← b4]
      exact run_takeS hb hS hL r (i :: ks) (i + 1) a' (by rw [b4]; exact inv.set b2' b0) (fun j hj => by have := hl (j + 1) (by simp; omega); simpa [Nat.add_assoc, Nat.add_comm 1 j] using this) hB' h'
    have hdone : ∀ listed a w, L listed a w → ∀ j ∈ Region.ready .any ops listed, N ≤ j := fun listed a w h => seqB_ready (hL _ _ _ h)
    unfold wpHeld at h
    by_cases hw : Region.wanted o (yielded ops a.tmps) = true
    · rw [if_pos hw] at h
      obtain ⟨v, hv, h⟩ := h
      exact wpHL_first h0 (Region.noSelect_spec hsel) hs hc hn b0 hdone _ _ a w inv (Region.free_spec h0 b3) b2' (.inl ⟨hw, hv⟩) hS (next _ h)
    · rw [if_neg hw] at h
      exact wpHL_first h0 (Region.noSelect_spec hsel) hs hc hn b0 hdone _ _ a w inv (Region.free_spec h0 b3) b2' (.inr ⟨by simpa using hw, rfl⟩) hS (next _ h)

theorem wpHeld_weak {S' : World → Prop} (hw : ∀ w, S w → S' w) : ∀ (l' : List Oper) (a : Act) (Q Q' : Act → Prop), (∀ a, Q a → Q' a) → wpHeld P ops S' Q l' a → wpHeld P ops S Q' l' a := by
  intro l'
  induction l' with
  | nil => intro a Q Q' hq h; exact hq _ h
  | cons o r ih =>
    intro a Q Q' hq h
    unfold wpHeld at h ⊢
    split
    · rename_i hw'; rw [if_pos hw'] at h; obtain ⟨v, h1, h2⟩ := h; exact ⟨v, fun w' hs => h1 w' (hw w' hs), ih _ _ _ hq h2⟩
    · rename_i hw'; rw [if_neg hw'] at h; exact ih _ _ _ hq h
theorem XS_held {l0 : List Oper} (i j : Nat) (hB : (baseB l0.toArray N && decide (i + j ≤ l0.length) && runB l0.toArray N ks i j) = true) (hS : S w)
    (h : ∀ a, Fits n m a → wpHeld P l0.toArray S (fun a' => ∃ m', Fits n m' a' ∧ XS P n N l0.toArray S K (ran ks i j) m' w) ((l0.drop i).take j) a) : XS P n N l0.toArray S K ks m w := by
  simp only [Bool.and_eq_true, decide_eq_true_eq] at hB
  obtain ⟨⟨b1, b2⟩, b3⟩ := hB
  have hl : ((l0.drop i).take j).length = j := by simp; omega
  intro inv a ha
  have h1 := h a ha
  have := run_takeS (P := P) (L := fun listed a' w' => Region.seqB .any l0.toArray (l0.toArray.size - N) N listed = true ∧ ∃ m', Fits n m' a' ∧ K m' w') b1 hS (fun _ _ _ h => h.1) ((l0.drop i).take j) ks i a inv (fun q hq => by
    rw [hl] at hq
    simp [List.getElem?_take, hq]) (by rw [hl]; exact b3)
  refine this ?_
  rw [hl]
  refine wpHeld_weak (fun _ h => h) _ _ _ _ ?_ h1
  rintro a' ⟨m', hm', hX⟩
  exact fun inv' => hX inv' a' hm'
/-- j operations that only reckon, from number i on -/
theorem XS_run {l0 : List Oper} (i j : Nat) (hB : (baseB l0.toArray N && decide (i + j ≤ l0.length) && runB l0.toArray N ks i j) = true) (hS : S w) (hm : ∀ w', S w' → Mute wE w')
    (h : T P n l0.toArray 3 (fun m' _ => XS P n N l0.toArray S K (ran ks i j) m' w) ((l0.drop i).take j) m (muteW wE)) : XS P n N l0.toArray S K ks m w :=
  XS_held i j hB hS (fun a ha => wpHeld_weak (S' := Later 3 (muteW wE)) hm _ _ _ _ (fun _ h => h) (h a ha))
/-- one operation whose value stands -/
theorem XS_val {l0 : List Oper} (i : Nat) {d : Nat} {op : Op} {ty : TypeId} {pos : String} {af : Array Edge} {v : Value} (hB : (baseB l0.toArray N && decide (i + 1 ≤ l0.length) && runB l0.toArray N ks i 1) = true) (ho : (l0.drop i).take 1 = [⟨some d, op, ty, pos, af, none⟩]) (hd : Nat.blt d n = true) (hS : S w)
    (hv : ∀ a, Fits n m a → ∀ w', S w' → (execOp a.eval ⟨some d, op, ty, pos, af, none⟩).run P w' = .ok (.value v) w') (h : XS P n N l0.toArray S K (i :: ks) ((d, v) :: m) w) : XS P n N l0.toArray S K ks m w := by
  refine XS_held i 1 hB hS (fun a ha => ?_)
  rw [ho]
  unfold wpHeld
  rw [if_pos (by rfl)]
  have hd' : d < n := by simpa [Nat.blt_eq] using hd
  exact ⟨v, fun w' hs => hv a ha w' hs, (d, v) :: m, ha.put hd' v, h⟩
theorem XS_loadC {l0 : List Oper} (i : Nat) {d : Nat} {x : Operand} {t ty : TypeId} {pos : String} {af : Array Edge} {b off : Nat} {cs : List Value} {v : Value} (hB : (baseB l0.toArray N && decide (i + 1 ≤ l0.length) && runB l0.toArray N ks i 1) = true) (ho : (l0.drop i).take 1 = [⟨some d, .load t x, ty, pos, af, none⟩]) (ht : ∀ w, (isAgg t).run P w = .ok false w) (hx : ev m x = some (bPtr b off)) (hd : Nat.blt d n = true)
    (hS : S w) (hb : ∀ w', S w' → Box w'.heap b cs) (hv : cs[off]? = some v) (h : XS P n N l0.toArray S K (i :: ks) ((d, v) :: m) w) : XS P n N l0.toArray S K ks m w :=
  XS_val i hB ho hd hS (fun a ha w' hs => by
    have h1 := (hb w' hs).cell hv
    simp [execOp, ha.eval hx, bPtr, run_load ht h1]) h
theorem XS_loadA {l0 : List Oper} (i : Nat) {d : Nat} {x : Operand} {t ty : TypeId} {pos : String} {af : Array Edge} {b q : Nat} {cs : List Value} (hB : (baseB l0.toArray N && decide (i + 1 ≤ l0.length) && runB l0.toArray N ks i 1) = true) (ho : (l0.drop i).take 1 = [⟨some d, .load t x, ty, pos, af, none⟩]) (ht : ∀ w, (isAgg t).run P w = .ok true w) (hs : ∀ w, (sizeOf t).run P w = .ok q w) (hx : ev m x = some (bPtr b 0)) (hd : Nat.blt d n = true)
    (hS : S w) (hb : ∀ w', S w' → Box w'.heap b cs) (hq : cs.length = q) (h : XS P n N l0.toArray S K (i :: ks) ((d, .agg cs.toArray) :: m) w) : XS P n N l0.toArray S K ks m w := by
  subst hq
  refine XS_val i hB ho hd hS (fun a ha w' hs' => ?_) h
  have := run_loadAgg (P := P) (t := t) (us := cs) ht hs (a := ⟨b, 0, none⟩) (w := w') (fun q u hq => (hb w' hs').cell hq)
  have e : (⟨b, 0, none⟩ : Addr).add 0 = ⟨b, 0, none⟩ := by simp [Addr.add]
  simp [execOp, ha.eval hx, bPtr, e, this]

/-- whichever of rs comes up -/
theorem XS_fork {l0 : List Oper} (rs : List Nat) (hB : forkB l0.toArray N ks rs = true)
    (h : ∀ i ∈ rs, T P n l0.toArray 0 (fun m' w' => S w' ∧ XS P n N l0.toArray S K (i :: ks) m' w') ((l0.drop i).take 1) m w) : XS P n N l0.toArray S K ks m w := by
  simp only [forkB, Bool.and_eq_true, decide_eq_true_eq, List.all_eq_true] at hB
  obtain ⟨⟨⟨⟨b1, b2⟩, b3⟩, b5⟩, b4⟩ := hB
  intro inv a ha
  have hs : ∀ i, N - ks.length = (N - (i :: ks).length) + 1 := fun i => by simp only [List.length_cons]; omega
  rw [hs 0]
  refine ⟨by rw [b2]; exact b3, fun i hi => ?_⟩
  have hi' := hi
  rw [b2] at hi
  obtain ⟨c1, c2⟩ := b4 i hi
  refine ⟨c2, ?_⟩
  have c2' : i < l0.length := by have h5 : N ≤ l0.length := by simpa using b5
                                 omega
  have h0 : l0.toArray[i]? = some l0[i] := by simp [c2']
  have h1 := h i hi a ha
  have e1 : (l0.drop i).take 1 = [l0[i]] := by
    rw [List.drop_eq_getElem_cons c2', List.take_succ_cons, List.take_zero]
  rw [e1] at h1
  rw [← c1]
  refine wpOp_mono ?_ (wpOp_of_list h0 h1)
  rintro a' w' ⟨m', hm', hS, hX⟩
  exact ⟨hS, hX (by rw [c1]; exact inv.set hi' c2) a' hm'⟩

theorem XS_one {l0 : List Oper} (i : Nat) (hB : forkB l0.toArray N ks [i] = true)
    (h : T P n l0.toArray 0 (fun m' w' => S w' ∧ XS P n N l0.toArray S K (i :: ks) m' w') ((l0.drop i).take 1) m w) : XS P n N l0.toArray S K ks m w :=
  XS_fork [i] hB (fun j hj => by simp at hj; subst hj; exact h)
/-- the head is done -/
theorem XS_tail (hB : (decide (ks.length = N) && Region.seqB .any ops (ops.size - N) N (lst ops.size ks)) = true) (h : K m w) : XS P n N ops S K ks m w := by
  simp only [Bool.and_eq_true, decide_eq_true_eq] at hB
  intro _ a ha
  rw [hB.1, Nat.sub_self]
  exact ⟨hB.2, m, ha, h⟩
theorem XS.weaken {m' : Env} (hs : Sub m' m) (h : XS P n N ops S K ks m' w) : XS P n N ops S K ks m w := fun inv a ha => h inv a (ha.weaken hs.spec)
/-- results: one in a cell, two in slots -/
theorem E_retC12 {Φ : Value → World → Prop} {t u u2 b q : Nat} {ty : TypeId} {cs : List Value} {v v2 : Value} (hr : fn.results = #[.cell t ty, .tmp u, .tmp u2]) (ht : get m t = some (bPtr b 0)) (hu : get m u = some v) (hu2 : get m u2 = some v2) (hA : ∀ w, (isAgg ty).run P w = .ok true w) (hs : ∀ w, (sizeOf ty).run P w = .ok q w) (hB : Box w.heap b cs) (hq : cs.length = q) (h : Φ (.tuple #[.agg cs.toArray, v, v2]) w) :
    E P fn (fun e w' => ∃ v, e = .returned v ∧ Φ v w') n (.code .ret :: k) m w :=
  E_ret (v := .tuple #[.agg cs.toArray, v, v2]) (fun a ha => by
    have h1 := ha.slot _ _ ht
    have h3 := ha.slot _ _ hu
    have h4 := ha.slot _ _ hu2
    rw [bPtr0] at h1
    have h2 := run_loadVarBox (P := P) hA hs hB hq
    simp [results, hr, h1, h3, h4, asAddr, h2]) ⟨_, rfl, h⟩
theorem E_retC13 {Φ : Value → World → Prop} {t u u2 u3 b q : Nat} {ty : TypeId} {cs : List Value} {v v2 v3 : Value} (hr : fn.results = #[.cell t ty, .tmp u, .tmp u2, .tmp u3]) (ht : get m t = some (bPtr b 0)) (hu : get m u = some v) (hu2 : get m u2 = some v2) (hu3 : get m u3 = some v3) (hA : ∀ w, (isAgg ty).run P w = .ok true w) (hs : ∀ w, (sizeOf ty).run P w = .ok q w) (hB : Box w.heap b cs) (hq : cs.length = q) (h : Φ (.tuple #[.agg cs.toArray, v, v2, v3]) w) :
    E P fn (fun e w' => ∃ v, e = .returned v ∧ Φ v w') n (.code .ret :: k) m w :=
  E_ret (v := .tuple #[.agg cs.toArray, v, v2, v3]) (fun a ha => by
    have h1 := ha.slot _ _ ht
    have h3 := ha.slot _ _ hu
    have h4 := ha.slot _ _ hu2
    have h5 := ha.slot _ _ hu3
    rw [bPtr0] at h1
    have h2 := run_loadVarBox (P := P) hA hs hB hq
    simp [results, hr, h1, h3, h4, h5, asAddr, h2]) ⟨_, rfl, h⟩
theorem E_retC14 {Φ : Value → World → Prop} {t u u2 u3 u4 b q : Nat} {ty : TypeId} {cs : List Value} {v v2 v3 v4 : Value} (hr : fn.results = #[.cell t ty, .tmp u, .tmp u2, .tmp u3, .tmp u4]) (ht : get m t = some (bPtr b 0)) (hu : get m u = some v) (hu2 : get m u2 = some v2) (hu3 : get m u3 = some v3) (hu4 : get m u4 = some v4) (hA : ∀ w, (isAgg ty).run P w = .ok true w) (hs : ∀ w, (sizeOf ty).run P w = .ok q w) (hB : Box w.heap b cs) (hq : cs.length = q) (h : Φ (.tuple #[.agg cs.toArray, v, v2, v3, v4]) w) :
    E P fn (fun e w' => ∃ v, e = .returned v ∧ Φ v w') n (.code .ret :: k) m w :=
  E_ret (v := .tuple #[.agg cs.toArray, v, v2, v3, v4]) (fun a ha => by
    have h1 := ha.slot _ _ ht
    have h3 := ha.slot _ _ hu
    have h4 := ha.slot _ _ hu2
    have h5 := ha.slot _ _ hu3
    have h6 := ha.slot _ _ hu4
    rw [bPtr0] at h1
    have h2 := run_loadVarBox (P := P) hA hs hB hq
    simp [results, hr, h1, h3, h4, h5, h6, asAddr, h2]) ⟨_, rfl, h⟩
end
end Go.PR
