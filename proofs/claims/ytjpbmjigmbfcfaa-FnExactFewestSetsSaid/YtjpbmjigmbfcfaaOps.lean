/-
  The operations of a statement, one rule each, over a sparse frame: in the order of the text, or in whatever order (where they only read). No condition.
-/
import Derived.Test.YtjpbmjigmbfcfaaBase
namespace Go.PR
open Go Go.RowKit

/-- Only blocks of a range, and new ones, are written. -/
structure Stay (lo hi : Nat) (w w' : World) : Prop where
  os : w'.os = w.os
  tape : w'.tape = w.tape
  output : w'.output = w.output
  size : w.heap.size ≤ w'.heap.size
  block : ∀ k, k < w.heap.size → ¬ (lo ≤ k ∧ k < hi) → w'.heap[k]? = w.heap[k]?
/-- A later world: old memory as it was; md = b + 4: but for block b. -/
def Later (md : Nat) (w w' : World) : Prop :=
  match md with
  | b + 4 => Stay b (b + 1) w w'
  | _ => Below w.heap.size w w'
theorem Later.below {md : Nat} {w w' : World} (hm : Nat.blt md 4 = true) (h : Later md w w') : Below w.heap.size w w' := by
  match md with
  | 0 => exact h
  | 1 => exact h
  | 2 => exact h
  | 3 => exact h
  | b + 4 =>
    have : b + 4 < 4 := by simpa [Nat.blt_eq] using hm
    omega

/-- The operations, one after the other, each with one value in every world that meets S. -/
def wpHeld (P : Program) (ops : Array Oper) (S : World → Prop) (Q : Act → Prop) : List Oper → Act → Prop
  | [], a => Q a
  | o :: r, a => if Region.wanted o (yielded ops a.tmps) then ∃ v, (∀ w, S w → (execOp a.eval o).run P w = .ok (.value v) w) ∧ wpHeld P ops S Q r (a.put o.dst v) else wpHeld P ops S Q r (a.put o.dst undef)

/-- The operations l, from the frame m in the world w on, come to K. md = 0: in this order; 1: in any order, in one world; 2: in any order, in every later world; 3: taken ahead of operations that write. -/
def T (P : Program) (n : Nat) (ops : Array Oper) (md : Nat) (K : Env → World → Prop) (l : List Oper) (m : Env) (w : World) : Prop :=
  ∀ a, Fits n m a → match md with
    | 0 => wpList P ops (fun e a' w' => e = .normal ∧ ∃ m', Fits n m' a' ∧ K m' w') l a w
    | 1 => wpStill P ops w.drew (fun a' => ∃ m', Fits n m' a' ∧ K m' w.drew) l a
    | 2 => wpQuiet P ops (Below w.heap.size w) (fun a' => ∃ m', Fits n m' a' ∧ ∀ w', Below w.heap.size w w' → K m' w') l a
    | k + 3 => wpHeld P ops (Later (k + 3) w) (fun a' => ∃ m', Fits n m' a' ∧ K m' w) l a

section
variable {P : Program} {fn : Func} {R : Ending → World → Prop} {n : Nat} {k : List Item} {m : Env} {w : World} {ops : Array Oper} {md : Nat} {K : Env → World → Prop} {l : List Oper}

theorem E_region {id : Nat} {l : List Oper} (h : T P n l.toArray 0 (E P fn R n k) l m w) : E P fn R n (.code (.region id l.toArray false) :: k) m w := by
  intro a ha
  refine Run_of_wp (wp_mono (wp_region_lit (h a ha)) ?_)
  rintro e a' w' ⟨rfl, m', hm', hE⟩
  exact ⟨rfl, hE a' hm'⟩

theorem E_region_still {id : Nat} {l : List Oper} (hm : P.follows .mixedOrders = true) (hB : Region.lexB .any l.toArray = true) (h : T P n l.toArray 1 (E P fn R n k) l m w) :
    E P fn R n (.code (.region id l.toArray true) :: k) m w := by
  intro a ha
  refine Run_of_wp (wp_mono (Q := fun e a' w' => e = .normal ∧ ∃ m', Fits n m' a' ∧ E P fn R n k m' w') (wp_region_still_lit hm hB ?_) ?_)
  · have h1 := h a ha
    have mono : ∀ (l' : List Oper) (a : Act), wpStill P l.toArray w.drew (fun a' => ∃ m', Fits n m' a' ∧ E P fn R n k m' w.drew) l' a →
        wpStill P l.toArray w.drew (fun a' => Exit.normal = .normal ∧ ∃ m', Fits n m' a' ∧ E P fn R n k m' w.drew) l' a := by
      intro l'
      induction l' with
      | nil => intro a h; exact ⟨rfl, h⟩
      | cons o r ih =>
        intro a h
        unfold wpStill at h ⊢
        split
        · rename_i hw; rw [if_pos hw] at h; exact Oper.still_mono ih h
        · rename_i hw; rw [if_neg hw] at h; exact ih _ h
    exact mono _ _ h1
  · rintro e a' w' ⟨rfl, m', hm', hE⟩
    exact ⟨rfl, hE a' hm'⟩

theorem E_region_quiet {id : Nat} {l : List Oper} (hm : P.follows .mixedOrders = true) (hB : Region.lexB .any l.toArray = true) (h : T P n l.toArray 2 (E P fn R n k) l m w) :
    E P fn R n (.code (.region id l.toArray true) :: k) m w := by
  intro a ha
  refine Run_of_wp (wp_mono (Q := fun e a' w' => e = .normal ∧ ∃ m', Fits n m' a' ∧ E P fn R n k m' w') (wp_region_quiet (C := Below w.heap.size w) hm hB (Below.refl _ _).drew ?_) ?_)
  · have h1 := h a ha
    have mono : ∀ (l' : List Oper) (a : Act), wpQuiet P l.toArray (Below w.heap.size w) (fun a' => ∃ m', Fits n m' a' ∧ ∀ w', Below w.heap.size w w' → E P fn R n k m' w') l' a →
        wpQuiet P l.toArray (Below w.heap.size w) (fun a' => ∀ w', Below w.heap.size w w' → Exit.normal = .normal ∧ ∃ m', Fits n m' a' ∧ E P fn R n k m' w') l' a := by
      intro l'
      induction l' with
      | nil => rintro a ⟨m', h1, h2⟩ w' hw'; exact ⟨rfl, m', h1, h2 w' hw'⟩
      | cons o r ih =>
        intro a h
        unfold wpQuiet at h ⊢
        split
        · rename_i hw; rw [if_pos hw] at h; exact Oper.quiet_mono ih h
        · rename_i hw; rw [if_neg hw] at h; exact ih _ h
    exact mono _ _ h1
  · rintro e a' w' ⟨rfl, m', hm', hE⟩
    exact ⟨rfl, hE a' hm'⟩

/-- N operations that only read, in any order, and then the others in the order of the text. -/
theorem E_region_tail {id : Nat} {l : List Oper} (N : Nat) (hm : P.follows .mixedOrders = true) (hB : Region.lexTailB .any l.toArray N = true)
    (h : T P n l.toArray 1 (fun m' w' => T P n l.toArray 0 (E P fn R n k) (l.drop N) m' w') (l.take N) m w) :
    E P fn R n (.code (.region id l.toArray true) :: k) m w := by
  intro a ha
  refine Run_of_wp (wp_mono (Q := fun e a' w' => e = .normal ∧ ∃ m', Fits n m' a' ∧ E P fn R n k m' w') (wp_region_still_tail N hm hB ?_) ?_)
  · have h1 := h a ha
    have mono : ∀ (l' : List Oper) (a : Act), wpStill P l.toArray w.drew (fun a' => ∃ m', Fits n m' a' ∧ T P n l.toArray 0 (E P fn R n k) (l.drop N) m' w.drew) l' a →
        wpStill P l.toArray w.drew (fun a' => wpList P l.toArray (fun e a' w' => e = .normal ∧ ∃ m', Fits n m' a' ∧ E P fn R n k m' w') (l.drop N) a' w.drew) l' a := by
      intro l'
      induction l' with
      | nil => rintro a ⟨m', h1, h2⟩; exact h2 a h1
      | cons o r ih =>
        intro a h
        unfold wpStill at h ⊢
        split
        · rename_i hw; rw [if_pos hw] at h; exact Oper.still_mono ih h
        · rename_i hw; rw [if_neg hw] at h; exact ih _ h
    exact mono _ _ h1
  · rintro e a' w' ⟨rfl, m', hm', hE⟩
    exact ⟨rfl, hE a' hm'⟩

theorem T_nil (h : ∀ w', (md = 0 → w' = w) → Below w.heap.size w w' → K m w') : T P n ops md K [] m w := by
  intro a ha
  match md with
  | 0 => exact ⟨rfl, m, ha, h w (fun _ => rfl) (Below.refl _ _)⟩
  | 1 => exact ⟨m, ha, h w.drew (fun e => by cases e) (Below.refl _ _).drew⟩
  | 2 => exact ⟨m, ha, fun w' hw' => h w' (fun e => by cases e) hw'⟩
  | _ + 3 => exact ⟨m, ha, h w (fun _ => rfl) (Below.refl _ _)⟩
theorem T_nil0 (h : K m w) : T P n ops 0 K [] m w := fun _ ha => ⟨rfl, m, ha, h⟩
theorem T_nil1 (h : K m w.drew) : T P n ops 1 K [] m w := fun _ ha => ⟨m, ha, h⟩
theorem T_nil3 (h : K m w) : T P n ops 3 K [] m w := fun _ ha => ⟨m, ha, h⟩
theorem T_nil4 {b : Nat} (h : K m w) : T P n ops (b + 4) K [] m w := fun _ ha => ⟨m, ha, h⟩
theorem T_nil2 (h : ∀ w', Below w.heap.size w w' → K m w') : T P n ops 2 K [] m w := fun _ ha => ⟨m, ha, h⟩

theorem T.weaken {m' : Env} (hs : Sub m' m) (h : T P n ops md K l m' w) : T P n ops md K l m w := fun a ha => h a (ha.weaken hs.spec)

/-- An operation that, in every later world, yields v and leaves the world alone. -/
def Val (P : Program) (n md : Nat) (m : Env) (w : World) (o : Oper) (v : Value) : Prop :=
  ∀ a, Fits n m a → ∀ w', Later md w w' → (execOp a.eval o).run P w' = .ok (.value v) w'

theorem T_val {d : Nat} {op : Op} {ty : TypeId} {pos : String} {af : Array Edge} {v : Value} (hd : Nat.blt d n = true) (hv : Val P n md m w ⟨some d, op, ty, pos, af, none⟩ v)
    (h : T P n ops md K l ((d, v) :: m) w) : T P n ops md K (⟨some d, op, ty, pos, af, none⟩ :: l) m w := by
  have hd' : d < n := by simpa [Nat.blt_eq] using hd
  intro a ha
  have h2 := h _ (ha.put hd' v)
  match md with
  | 0 =>
    refine wpList_plain rfl fun K' hK => ?_
    unfold Oper.wp
    rw [hv a ha w (Below.refl _ _)]
    exact hK _ _ h2
  | 1 =>
    unfold wpStill
    rw [if_pos (by rfl)]
    unfold Oper.still
    rw [hv a ha w.drew (Below.refl _ _).drew, Oper.stillUpon_value]
    exact h2
  | 2 =>
    unfold wpQuiet
    rw [if_pos (by rfl)]
    refine ⟨v, fun w' hw' => ?_, h2⟩
    unfold Oper.quietAt
    rw [hv a ha w' hw']
    exact ⟨rfl, rfl⟩
  | q + 3 =>
    show wpHeld P ops (Later (q + 3) w) (fun a' => ∃ m', Fits n m' a' ∧ K m' w) (_ :: l) a
    unfold wpHeld
    rw [if_pos (by rfl)]
    exact ⟨v, fun w' hw' => hv a ha w' hw', h2⟩

/-! ### Guards -/

theorem wanted_at {a : Act} (ha : Fits n m a) {d : Option Tmp} {op : Op} {ty : TypeId} {pos : String} {af : Array Edge} {j t : Nat} {want b : Bool}
    (hj : (ops[j]?).bind (·.dst) = some t) (hg : get m t = some (.bool b)) : Region.wanted ⟨d, op, ty, pos, af, some (j, want)⟩ (yielded ops a.tmps) = (b == want) := by
  have := ha.slot t _ hg
  simp [Region.wanted, yielded, hj, this]

theorem T_on {d : Option Tmp} {op : Op} {ty : TypeId} {pos : String} {af : Array Edge} {j t : Nat} {want : Bool} (hj : (ops[j]?).bind (·.dst) = some t) (hg : get m t = some (.bool want))
    (h : T P n ops md K (⟨d, op, ty, pos, af, none⟩ :: l) m w) : T P n ops md K (⟨d, op, ty, pos, af, some (j, want)⟩ :: l) m w := by
  intro a ha
  have h2 := h a ha
  have hw : Region.wanted ⟨d, op, ty, pos, af, some (j, want)⟩ (yielded ops a.tmps) = true := by rw [wanted_at ha hj hg]; simp
  match md with
  | 0 =>
    unfold wpList at h2 ⊢
    rw [if_pos hw]
    rw [if_pos (by rfl)] at h2
    exact h2
  | 1 =>
    unfold wpStill at h2 ⊢
    rw [if_pos hw]
    rw [if_pos (by rfl)] at h2
    exact h2
  | 2 =>
    unfold wpQuiet at h2 ⊢
    rw [if_pos hw]
    rw [if_pos (by rfl)] at h2
    exact h2
  | q + 3 =>
    have h2 : wpHeld P ops (Later (q + 3) w) (fun a' => ∃ m', Fits n m' a' ∧ K m' w) (_ :: l) a := h2
    show wpHeld P ops (Later (q + 3) w) (fun a' => ∃ m', Fits n m' a' ∧ K m' w) (_ :: l) a
    unfold wpHeld at h2 ⊢
    rw [if_pos hw]
    rw [if_pos (by rfl)] at h2
    exact h2

theorem T_off {d : Nat} {op : Op} {ty : TypeId} {pos : String} {af : Array Edge} {j t : Nat} {want : Bool} (hj : (ops[j]?).bind (·.dst) = some t) (hd : Nat.blt d n = true) (hg : get m t = some (.bool (!want)))
    (h : T P n ops md K l ((d, undef) :: m) w) : T P n ops md K (⟨some d, op, ty, pos, af, some (j, want)⟩ :: l) m w := by
  have hd' : d < n := by simpa [Nat.blt_eq] using hd
  intro a ha
  have h2 := h _ (ha.put hd' undef)
  have hw : ¬ Region.wanted ⟨some d, op, ty, pos, af, some (j, want)⟩ (yielded ops a.tmps) = true := by rw [wanted_at ha hj hg]; simp
  match md with
  | 0 => unfold wpList; rw [if_neg hw]; exact h2
  | 1 => unfold wpStill; rw [if_neg hw]; exact h2
  | 2 => unfold wpQuiet; rw [if_neg hw]; exact h2
  | q + 3 =>
    show wpHeld P ops (Later (q + 3) w) (fun a' => ∃ m', Fits n m' a' ∧ K m' w) (_ :: l) a
    unfold wpHeld; rw [if_neg hw]; exact h2

/-- at an operation that hangs on a test that was not made -/
theorem T_offU {d : Nat} {op : Op} {ty : TypeId} {pos : String} {af : Array Edge} {j t : Nat} {want : Bool} (hj : (ops[j]?).bind (·.dst) = some t) (hd : Nat.blt d n = true) (hg : get m t = some undef)
    (h : T P n ops md K l ((d, undef) :: m) w) : T P n ops md K (⟨some d, op, ty, pos, af, some (j, want)⟩ :: l) m w := by
  have hd' : d < n := by simpa [Nat.blt_eq] using hd
  intro a ha
  have h2 := h _ (ha.put hd' undef)
  have hw : ¬ Region.wanted ⟨some d, op, ty, pos, af, some (j, want)⟩ (yielded ops a.tmps) = true := by
    have := ha.slot t _ hg
    simp [Region.wanted, yielded, hj, this, undef]
  match md with
  | 0 => unfold wpList; rw [if_neg hw]; exact h2
  | 1 => unfold wpStill; rw [if_neg hw]; exact h2
  | 2 => unfold wpQuiet; rw [if_neg hw]; exact h2
  | q + 3 =>
    show wpHeld P ops (Later (q + 3) w) (fun a' => ∃ m', Fits n m' a' ∧ K m' w) (_ :: l) a
    unfold wpHeld; rw [if_neg hw]; exact h2

/-- The test is decided here: both ways. -/
theorem Fits.decided {a : Act} (ha : Fits n m a) {t : Nat} {b b' : Bool} (hg : get m t = some (.bool b)) (hb : b = b') : Fits n ((t, .bool b') :: m) a := by
  subst hb
  refine ha.weaken fun s v hs => ?_
  by_cases e : t = s
  · subst e; rw [get_cons_same] at hs; rw [hg]; exact hs
  · rw [get_cons_other _ _ e] at hs; exact hs

theorem T_case {o : Oper} {t : Nat} {p : Prop} [Decidable p] (hg : get m t = some (.bool (decide p))) (ht : p → T P n ops md K (o :: l) ((t, .bool true) :: m) w)
    (hf : ¬ p → T P n ops md K (o :: l) ((t, .bool false) :: m) w) : T P n ops md K (o :: l) m w := by
  intro a ha
  by_cases hp : p
  · exact ht hp a (ha.decided hg (by simp [hp]))
  · exact hf hp a (ha.decided hg (by simp [hp]))
theorem T_caseB {o : Oper} {t : Nat} {b : Bool} (hg : get m t = some (.bool b)) (ht : b = true → T P n ops md K (o :: l) ((t, .bool true) :: m) w)
    (hf : b = false → T P n ops md K (o :: l) ((t, .bool false) :: m) w) : T P n ops md K (o :: l) m w := by
  intro a ha
  cases b
  · exact hf rfl a (ha.decided hg rfl)
  · exact ht rfl a (ha.decided hg rfl)
/-- at an operation that hangs on the test -/
theorem T_guard {d : Option Tmp} {op : Op} {ty : TypeId} {pos : String} {af : Array Edge} {j t : Nat} {want : Bool} {p : Prop} [Decidable p] (hj : (ops[j]?).bind (·.dst) = some t) (hg : get m t = some (.bool (decide p)))
    (ht : p → T P n ops md K (⟨d, op, ty, pos, af, some (j, want)⟩ :: l) ((t, .bool true) :: m) w)
    (hf : ¬ p → T P n ops md K (⟨d, op, ty, pos, af, some (j, want)⟩ :: l) ((t, .bool false) :: m) w) : T P n ops md K (⟨d, op, ty, pos, af, some (j, want)⟩ :: l) m w := by
  have _ := hj
  exact T_case hg ht hf
theorem T_guardB {d : Option Tmp} {op : Op} {ty : TypeId} {pos : String} {af : Array Edge} {j t : Nat} {want b : Bool} (hj : (ops[j]?).bind (·.dst) = some t) (hg : get m t = some (.bool b))
    (ht : b = true → T P n ops md K (⟨d, op, ty, pos, af, some (j, want)⟩ :: l) ((t, .bool true) :: m) w)
    (hf : b = false → T P n ops md K (⟨d, op, ty, pos, af, some (j, want)⟩ :: l) ((t, .bool false) :: m) w) : T P n ops md K (⟨d, op, ty, pos, af, some (j, want)⟩ :: l) m w := by
  have _ := hj
  exact T_caseB hg ht hf

/-! ### Plain operations -/

theorem T_move {d : Nat} {x : Operand} {ty : TypeId} {pos : String} {af : Array Edge} {v : Value} (hx : ev m x = some v) (hd : Nat.blt d n = true)
    (h : T P n ops md K l ((d, v) :: m) w) : T P n ops md K (⟨some d, .move x, ty, pos, af, none⟩ :: l) m w :=
  T_val hd (fun a ha w' _ => by simp [execOp, ha.eval hx]) h
theorem T_assign {d : Nat} {x : Operand} {ty : TypeId} {pos : String} {af : Array Edge} {v : Value} (hx : ev m x = some v) (hd : Nat.blt d n = true)
    (h : T P n ops md K l ((d, v) :: m) w) : T P n ops md K (⟨some d, .assign x, ty, pos, af, none⟩ :: l) m w :=
  T_val hd (fun a ha w' _ => by simp [execOp, ha.eval hx]) h
theorem T_pick_true {d : Nat} {c x y : Operand} {ty : TypeId} {pos : String} {af : Array Edge} {v : Value} (hc : ev m c = some (.bool true)) (hx : ev m x = some v) (hd : Nat.blt d n = true)
    (h : T P n ops md K l ((d, v) :: m) w) : T P n ops md K (⟨some d, .pick c x y, ty, pos, af, none⟩ :: l) m w :=
  T_val hd (fun a ha w' _ => by simp [execOp, ha.eval hc, ha.eval hx, asBool]) h
theorem T_pick_false {d : Nat} {c x y : Operand} {ty : TypeId} {pos : String} {af : Array Edge} {v : Value} (hc : ev m c = some (.bool false)) (hy : ev m y = some v) (hd : Nat.blt d n = true)
    (h : T P n ops md K l ((d, v) :: m) w) : T P n ops md K (⟨some d, .pick c x y, ty, pos, af, none⟩ :: l) m w :=
  T_val hd (fun a ha w' _ => by simp [execOp, ha.eval hc, ha.eval hy, asBool]) h
theorem T_not {d : Nat} {x : Operand} {t ty : TypeId} {pos : String} {af : Array Edge} {p : Prop} [Decidable p] (hx : ev m x = some (.bool (decide p))) (hd : Nat.blt d n = true)
    (h : T P n ops md K l ((d, .bool (decide (¬ p))) :: m) w) : T P n ops md K (⟨some d, .unOp .not t x, ty, pos, af, none⟩ :: l) m w :=
  T_val hd (fun a ha w' _ => by simp [execOp, ha.eval hx, Op.unary]) h
theorem T_notB {d : Nat} {x : Operand} {t ty : TypeId} {pos : String} {af : Array Edge} {b : Bool} (hx : ev m x = some (.bool b)) (hd : Nat.blt d n = true)
    (h : T P n ops md K l ((d, .bool (!b)) :: m) w) : T P n ops md K (⟨some d, .unOp .not t x, ty, pos, af, none⟩ :: l) m w :=
  T_val hd (fun a ha w' _ => by simp [execOp, ha.eval hx, Op.unary]) h

/-! ### int -/

theorem wrap_in {x : Int} (h : -9223372036854775808 ≤ x ∧ x ≤ 9223372036854775807) : IntKind.i64.wrap x = x := by
  have e1 : (2 : Int) ^ (IntKind.bits .i64) = 18446744073709551616 := by decide
  have e2 : (2 : Int) ^ (IntKind.bits .i64 - 1) = 9223372036854775808 := by decide
  have e3 : IntKind.signed .i64 = true := rfl
  unfold IntKind.wrap
  simp only [e1, e2, e3, Bool.true_and, decide_eq_true_eq]
  split <;> omega

theorem T_add {d : Nat} {x y : Operand} {t t' ty : TypeId} {pos : String} {af : Array Edge} {i j : Int} (hx : ev m x = some (.int .i64 i)) (hy : ev m y = some (.int .i64 j)) (hd : Nat.blt d n = true)
    (hr : -9223372036854775808 ≤ i + j ∧ i + j ≤ 9223372036854775807) (h : T P n ops md K l ((d, .int .i64 (i + j)) :: m) w) : T P n ops md K (⟨some d, .binOp .add t x y t', ty, pos, af, none⟩ :: l) m w :=
  T_val hd (fun a ha w' _ => by simp [execOp, ha.eval hx, ha.eval hy, eqGuard, binOp, Op.intArith, wrap_in hr]) h
theorem T_sub {d : Nat} {x y : Operand} {t t' ty : TypeId} {pos : String} {af : Array Edge} {i j : Int} (hx : ev m x = some (.int .i64 i)) (hy : ev m y = some (.int .i64 j)) (hd : Nat.blt d n = true)
    (hr : -9223372036854775808 ≤ i - j ∧ i - j ≤ 9223372036854775807) (h : T P n ops md K l ((d, .int .i64 (i - j)) :: m) w) : T P n ops md K (⟨some d, .binOp .sub t x y t', ty, pos, af, none⟩ :: l) m w :=
  T_val hd (fun a ha w' _ => by simp [execOp, ha.eval hx, ha.eval hy, eqGuard, binOp, Op.intArith, wrap_in hr]) h
theorem T_mul {d : Nat} {x y : Operand} {t t' ty : TypeId} {pos : String} {af : Array Edge} {i j : Int} (hx : ev m x = some (.int .i64 i)) (hy : ev m y = some (.int .i64 j)) (hd : Nat.blt d n = true)
    (hr : -9223372036854775808 ≤ i * j ∧ i * j ≤ 9223372036854775807) (h : T P n ops md K l ((d, .int .i64 (i * j)) :: m) w) : T P n ops md K (⟨some d, .binOp .mul t x y t', ty, pos, af, none⟩ :: l) m w :=
  T_val hd (fun a ha w' _ => by simp [execOp, ha.eval hx, ha.eval hy, eqGuard, binOp, Op.intArith, wrap_in hr]) h
/-- sums that may wrap -/
theorem T_addW {d : Nat} {x y : Operand} {t t' ty : TypeId} {pos : String} {af : Array Edge} {i j : Int} (hx : ev m x = some (.int .i64 i)) (hy : ev m y = some (.int .i64 j)) (hd : Nat.blt d n = true)
    (h : T P n ops md K l ((d, .int .i64 (IntKind.i64.wrap (i + j))) :: m) w) : T P n ops md K (⟨some d, .binOp .add t x y t', ty, pos, af, none⟩ :: l) m w :=
  T_val hd (fun a ha w' _ => by simp [execOp, ha.eval hx, ha.eval hy, eqGuard, binOp, Op.intArith]) h
theorem T_subW {d : Nat} {x y : Operand} {t t' ty : TypeId} {pos : String} {af : Array Edge} {i j : Int} (hx : ev m x = some (.int .i64 i)) (hy : ev m y = some (.int .i64 j)) (hd : Nat.blt d n = true)
    (h : T P n ops md K l ((d, .int .i64 (IntKind.i64.wrap (i - j))) :: m) w) : T P n ops md K (⟨some d, .binOp .sub t x y t', ty, pos, af, none⟩ :: l) m w :=
  T_val hd (fun a ha w' _ => by simp [execOp, ha.eval hx, ha.eval hy, eqGuard, binOp, Op.intArith]) h
theorem T_mulW {d : Nat} {x y : Operand} {t t' ty : TypeId} {pos : String} {af : Array Edge} {i j : Int} (hx : ev m x = some (.int .i64 i)) (hy : ev m y = some (.int .i64 j)) (hd : Nat.blt d n = true)
    (h : T P n ops md K l ((d, .int .i64 (IntKind.i64.wrap (i * j))) :: m) w) : T P n ops md K (⟨some d, .binOp .mul t x y t', ty, pos, af, none⟩ :: l) m w :=
  T_val hd (fun a ha w' _ => by simp [execOp, ha.eval hx, ha.eval hy, eqGuard, binOp, Op.intArith]) h
/-- '/' and '%' of a number that is not negative by one that is positive -/
theorem T_quo {d : Nat} {x y : Operand} {t t' ty : TypeId} {pos : String} {af : Array Edge} {i j : Int} (hx : ev m x = some (.int .i64 i)) (hy : ev m y = some (.int .i64 j)) (hd : Nat.blt d n = true)
    (hr : 0 ≤ i ∧ i ≤ 9223372036854775807 ∧ 0 < j) (h : T P n ops md K l ((d, .int .i64 (i / j)) :: m) w) : T P n ops md K (⟨some d, .binOp .quo t x y t', ty, pos, af, none⟩ :: l) m w :=
  T_val hd (fun a ha w' _ => by
    have e : i.tdiv j = i / j := Int.tdiv_eq_ediv_of_nonneg hr.1
    have h1 : 0 ≤ i / j := Int.ediv_nonneg hr.1 (by omega)
    have h2 : i / j ≤ i := Int.ediv_le_self _ hr.1
    simp [execOp, ha.eval hx, ha.eval hy, eqGuard, binOp, Op.intDiv, e, wrap_in (x := i / j) (by omega), show j ≠ 0 by omega]) h
theorem T_rem {d : Nat} {x y : Operand} {t t' ty : TypeId} {pos : String} {af : Array Edge} {i j : Int} (hx : ev m x = some (.int .i64 i)) (hy : ev m y = some (.int .i64 j)) (hd : Nat.blt d n = true)
    (hr : 0 ≤ i ∧ 0 < j) (h : T P n ops md K l ((d, .int .i64 (i % j)) :: m) w) : T P n ops md K (⟨some d, .binOp .rem t x y t', ty, pos, af, none⟩ :: l) m w :=
  T_val hd (fun a ha w' _ => by
    have e : i.tmod j = i % j := Int.tmod_eq_emod_of_nonneg hr.1
    simp [execOp, ha.eval hx, ha.eval hy, eqGuard, binOp, Op.intDiv, e, show j ≠ 0 by omega]) h
theorem T_lss {d : Nat} {x y : Operand} {t t' ty : TypeId} {pos : String} {af : Array Edge} {i j : Int} (hx : ev m x = some (.int .i64 i)) (hy : ev m y = some (.int .i64 j)) (hd : Nat.blt d n = true)
    (h : T P n ops md K l ((d, .bool (decide (i < j))) :: m) w) : T P n ops md K (⟨some d, .binOp .lss t x y t', ty, pos, af, none⟩ :: l) m w :=
  T_val hd (fun a ha w' _ => by simp [execOp, ha.eval hx, ha.eval hy, eqGuard, binOp, Op.intCmp]) h
theorem T_leq {d : Nat} {x y : Operand} {t t' ty : TypeId} {pos : String} {af : Array Edge} {i j : Int} (hx : ev m x = some (.int .i64 i)) (hy : ev m y = some (.int .i64 j)) (hd : Nat.blt d n = true)
    (h : T P n ops md K l ((d, .bool (decide (i ≤ j))) :: m) w) : T P n ops md K (⟨some d, .binOp .leq t x y t', ty, pos, af, none⟩ :: l) m w :=
  T_val hd (fun a ha w' _ => by simp [execOp, ha.eval hx, ha.eval hy, eqGuard, binOp, Op.intCmp]) h
theorem T_gtr {d : Nat} {x y : Operand} {t t' ty : TypeId} {pos : String} {af : Array Edge} {i j : Int} (hx : ev m x = some (.int .i64 i)) (hy : ev m y = some (.int .i64 j)) (hd : Nat.blt d n = true)
    (h : T P n ops md K l ((d, .bool (decide (j < i))) :: m) w) : T P n ops md K (⟨some d, .binOp .gtr t x y t', ty, pos, af, none⟩ :: l) m w :=
  T_val hd (fun a ha w' _ => by simp [execOp, ha.eval hx, ha.eval hy, eqGuard, binOp, Op.intCmp]) h
theorem T_geq {d : Nat} {x y : Operand} {t t' ty : TypeId} {pos : String} {af : Array Edge} {i j : Int} (hx : ev m x = some (.int .i64 i)) (hy : ev m y = some (.int .i64 j)) (hd : Nat.blt d n = true)
    (h : T P n ops md K l ((d, .bool (decide (j ≤ i))) :: m) w) : T P n ops md K (⟨some d, .binOp .geq t x y t', ty, pos, af, none⟩ :: l) m w :=
  T_val hd (fun a ha w' _ => by simp [execOp, ha.eval hx, ha.eval hy, eqGuard, binOp, Op.intCmp]) h
theorem T_eql {d : Nat} {x y : Operand} {t t' ty : TypeId} {pos : String} {af : Array Edge} {i j : Int} (hx : ev m x = some (.int .i64 i)) (hy : ev m y = some (.int .i64 j)) (hd : Nat.blt d n = true)
    (h : T P n ops md K l ((d, .bool (decide (i = j))) :: m) w) : T P n ops md K (⟨some d, .binOp .eql t x y t', ty, pos, af, none⟩ :: l) m w :=
  T_val hd (fun a ha w' _ => by
    have e : (i == j) = decide (i = j) := by by_cases h : i = j <;> simp [h]
    simp [execOp, ha.eval hx, ha.eval hy, eqGuard, binOp, Op.intCmp, e]) h
theorem T_neq {d : Nat} {x y : Operand} {t t' ty : TypeId} {pos : String} {af : Array Edge} {i j : Int} (hx : ev m x = some (.int .i64 i)) (hy : ev m y = some (.int .i64 j)) (hd : Nat.blt d n = true)
    (h : T P n ops md K l ((d, .bool (decide (i ≠ j))) :: m) w) : T P n ops md K (⟨some d, .binOp .neq t x y t', ty, pos, af, none⟩ :: l) m w :=
  T_val hd (fun a ha w' _ => by
    have e : (i != j) = decide (i ≠ j) := by by_cases h : i = j <;> simp [h]
    simp [execOp, ha.eval hx, ha.eval hy, eqGuard, binOp, Op.intCmp, e]) h
/-- the six comparisons in one -/
def cmpV (op : BinOp) (i j : Int) : Option Value :=
  match op with
  | .lss => some (.bool (decide (i < j)))
  | .leq => some (.bool (decide (i ≤ j)))
  | .gtr => some (.bool (decide (j < i)))
  | .geq => some (.bool (decide (j ≤ i)))
  | .eql => some (.bool (decide (i = j)))
  | .neq => some (.bool (decide (i ≠ j)))
  | _ => none
theorem T_cmp {d : Nat} {op : BinOp} {x y : Operand} {t t' ty : TypeId} {pos : String} {af : Array Edge} {i j : Int} {v : Value} (hx : ev m x = some (.int .i64 i)) (hy : ev m y = some (.int .i64 j)) (hd : Nat.blt d n = true) (hv : cmpV op i j = some v)
    (h : T P n ops md K l ((d, v) :: m) w) : T P n ops md K (⟨some d, .binOp op t x y t', ty, pos, af, none⟩ :: l) m w := by
  cases op <;> simp only [cmpV] at hv
  case lss => obtain rfl := Option.some.inj hv; exact T_lss hx hy hd h
  case leq => obtain rfl := Option.some.inj hv; exact T_leq hx hy hd h
  case gtr => obtain rfl := Option.some.inj hv; exact T_gtr hx hy hd h
  case geq => obtain rfl := Option.some.inj hv; exact T_geq hx hy hd h
  case eql => obtain rfl := Option.some.inj hv; exact T_eql hx hy hd h
  case neq => obtain rfl := Option.some.inj hv; exact T_neq hx hy hd h
  all_goals cases hv
theorem T_max {d : Nat} {x y : Operand} {ts : Array TypeId} {ty : TypeId} {pos : String} {af : Array Edge} {i j : Int} (hx : ev m x = some (.int .i64 i)) (hy : ev m y = some (.int .i64 j)) (hd : Nat.blt d n = true)
    (h : T P n ops md K l ((d, .int .i64 (max i j)) :: m) w) : T P n ops md K (⟨some d, .call ⟨.builtin .max, #[x, y], ts⟩, ty, pos, af, none⟩ :: l) m w :=
  T_val hd (fun a ha w' _ => by
    have e : (if i < j then j else i) = max i j := by split <;> omega
    simp [execOp, resolve, invoke, builtin, ha.eval hx, ha.eval hy, Builtin.max_, Builtin.max2, e]) h
theorem T_min {d : Nat} {x y : Operand} {ts : Array TypeId} {ty : TypeId} {pos : String} {af : Array Edge} {i j : Int} (hx : ev m x = some (.int .i64 i)) (hy : ev m y = some (.int .i64 j)) (hd : Nat.blt d n = true)
    (h : T P n ops md K l ((d, .int .i64 (min i j)) :: m) w) : T P n ops md K (⟨some d, .call ⟨.builtin .min, #[x, y], ts⟩, ty, pos, af, none⟩ :: l) m w :=
  T_val hd (fun a ha w' _ => by
    have e : (if j < i then j else i) = min i j := by split <;> omega
    simp [execOp, resolve, invoke, builtin, ha.eval hx, ha.eval hy, Builtin.min_, Builtin.min2, e]) h
theorem T_conv_byte {d : Nat} {x : Operand} {s t ty : TypeId} {pos : String} {af : Array Edge} {i : Int} (hs : P.underlying s = some (.int .u8)) (ht : P.underlying t = some (.int .i64)) (hx : ev m x = some (.int .u8 i)) (hd : Nat.blt d n = true)
    (hr : 0 ≤ i ∧ i ≤ 255) (h : T P n ops md K l ((d, .int .i64 i) :: m) w) : T P n ops md K (⟨some d, .convert s t x, ty, pos, af, none⟩ :: l) m w :=
  T_val hd (fun a ha w' _ => by simp [execOp, ha.eval hx, convert, run_underlying hs, run_underlying ht, Conv.intToInt, wrap_in (x := i) (by omega)]) h
theorem T_extract {d i : Nat} {x : Operand} {ty : TypeId} {pos : String} {af : Array Edge} {vs : Array Value} {v : Value} (hx : ev m x = some (.tuple vs)) (hv : vs[i]? = some v) (hd : Nat.blt d n = true)
    (h : T P n ops md K l ((d, v) :: m) w) : T P n ops md K (⟨some d, .extract x i, ty, pos, af, none⟩ :: l) m w :=
  T_val hd (fun a ha w' _ => by simp [execOp, ha.eval hx, Instr.extract, hv]) h
theorem T_nilCheck {d : Nat} {x : Operand} {ty : TypeId} {pos : String} {af : Array Edge} {p : Addr} (hx : ev m x = some (.pointer (some p))) (hd : Nat.blt d n = true)
    (h : T P n ops md K l ((d, .pointer (some p)) :: m) w) : T P n ops md K (⟨some d, .nilCheck x, ty, pos, af, none⟩ :: l) m w :=
  T_val hd (fun a ha w' _ => by simp [execOp, ha.eval hx]) h

/-! ### Calls of functions -/

def evs (m : Env) : List Operand → Option (List Value)
  | [] => some []
  | x :: r => match ev m x, evs m r with
    | some v, some vs => some (v :: vs)
    | _, _ => none

theorem Fits.evals {a : Act} (ha : Fits n m a) : ∀ {xs : List Operand} {vs : List Value}, evs m xs = some vs → xs.map a.eval = vs
  | [], vs, h => by simp [evs] at h; simp [← h]
  | x :: r, vs, h => by
    unfold evs at h
    split at h
    · rename_i v vs' h1 h2
      obtain rfl := Option.some.inj h
      simp [ha.eval h1, ha.evals h2]
    · cases h

theorem run_call {a : Act} (ha : Fits n m a) {f : FuncId} {xs : List Operand} {vs : List Value} {ts : Array TypeId} {d : Option Tmp} {ty : TypeId} {pos : String} {af : Array Edge} {g : Option (Nat × Bool)}
    (hxs : evs m xs = some vs) (hc : ∀ args w, (callFunc f args).run P w = .ok (.enter f args) w) (w : World) :
    (execOp a.eval ⟨d, .call ⟨.value (.func f), xs.toArray, ts⟩, ty, pos, af, g⟩).run P w = .ok (.enter f vs.toArray) w := by
  have h1 := ha.evals hxs
  have h2 : Array.map a.eval xs.toArray = vs.toArray := by rw [List.map_toArray, h1]
  simp [execOp, resolve, Act.eval, Deferred.ofValue, invoke, hc, -List.map_toArray, h2]

theorem T_call {d : Nat} {f : FuncId} {xs : List Operand} {vs : List Value} {ts : Array TypeId} {ty : TypeId} {pos : String} {af : Array Edge} {Φ : Value → World → Prop}
    (hxs : evs m xs = some vs) (hd : Nat.blt d n = true) (hr : Ret P f vs.toArray w Φ) (h : ∀ v w', Φ v w' → T P n ops 0 K l ((d, v) :: m) w') :
    T P n ops 0 K (⟨some d, .call ⟨.value (.func f), xs.toArray, ts⟩, ty, pos, af, none⟩ :: l) m w := by
  have hd' : d < n := by simpa [Nat.blt_eq] using hd
  intro a ha
  refine wpList_plain rfl fun K' hK => ?_
  unfold Oper.wp
  rw [run_call ha hxs hr.1]
  refine hr.2.mono ?_
  rintro e w' ⟨v, rfl, hv⟩
  exact hK _ _ (h v w' hv _ (ha.put hd' v))

/-- a call for its effect -/
theorem T_call_none {f : FuncId} {xs : List Operand} {vs : List Value} {ts : Array TypeId} {ty : TypeId} {pos : String} {af : Array Edge} {Φ : Value → World → Prop}
    (hxs : evs m xs = some vs) (hr : Ret P f vs.toArray w Φ) (h : ∀ v w', Φ v w' → T P n ops 0 K l m w') :
    T P n ops 0 K (⟨none, .call ⟨.value (.func f), xs.toArray, ts⟩, ty, pos, af, none⟩ :: l) m w := by
  intro a ha
  refine wpList_plain rfl fun K' hK => ?_
  unfold Oper.wp
  rw [run_call ha hxs hr.1]
  refine hr.2.mono ?_
  rintro e w' ⟨v, rfl, hv⟩
  exact hK _ _ (h v w' hv _ ha)

/-- in whatever order: the same value in every later world -/
theorem T_callQ {d : Nat} {f : FuncId} {xs : List Operand} {vs : List Value} {ts : Array TypeId} {ty : TypeId} {pos : String} {af : Array Edge} {v : Value}
    (hxs : evs m xs = some vs) (hd : Nat.blt d n = true) (hr : ∀ w', Below w.heap.size w w' → Ret P f vs.toArray w' (fun v' w'' => v' = v ∧ Below w'.heap.size w' w'')) (h : T P n ops 2 K l ((d, v) :: m) w) :
    T P n ops 2 K (⟨some d, .call ⟨.value (.func f), xs.toArray, ts⟩, ty, pos, af, none⟩ :: l) m w := by
  have hd' : d < n := by simpa [Nat.blt_eq] using hd
  intro a ha
  unfold wpQuiet
  rw [if_pos (by rfl)]
  refine ⟨v, fun w' hw' => ?_, h _ (ha.put hd' v)⟩
  unfold Oper.quietAt
  rw [run_call ha hxs (hr w (Below.refl _ _)).1]
  refine ⟨rfl, (hr w' hw').2.mono ?_⟩
  rintro e w'' ⟨v', rfl, rfl, hb⟩
  exact ⟨rfl, hw'.trans (hb.mono hw'.size)⟩

/-- what comes behind may be told once for all ways -/
theorem T_cut (J : Env → World → Prop) (h : T P n ops 0 J l m w) (hJ : ∀ m' w', J m' w' → K m' w') : T P n ops 0 K l m w := by
  intro a ha
  have h1 := h a ha
  have mono : ∀ (l' : List Oper) (a : Act) (w : World), wpList P ops (fun e a' w' => e = .normal ∧ ∃ m', Fits n m' a' ∧ J m' w') l' a w →
      wpList P ops (fun e a' w' => e = .normal ∧ ∃ m', Fits n m' a' ∧ K m' w') l' a w := by
    intro l'
    induction l' with
    | nil => rintro a w ⟨h1, m', h2, h3⟩; exact ⟨h1, m', h2, hJ _ _ h3⟩
    | cons o r ih =>
      intro a w h
      unfold wpList at h ⊢
      split
      · rename_i hw
        rw [if_pos hw] at h
        rcases h with h | ⟨_, a0, w0, h0⟩
        · left
          unfold Oper.wp at h ⊢
          generalize (execOp a.eval o).run P w = r' at h ⊢
          cases r' with
          | ok nx w' =>
            cases nx <;> simp only [Oper.upon] at h ⊢
            case value v => exact ih _ _ h
            case skip => exact ih _ _ h
            case defer dd => exact ih _ _ h
            case enter f args =>
              refine h.mono ?_
              intro e w2 he
              cases e with
              | returned v => exact ih _ _ he
              | panicked c => exact absurd he.1 (by simp)
              | outgrown => obtain ⟨a0, w0, h0⟩ := he; exact absurd h0.1 (by simp)
            case row rr args => exact h.mono fun v w2 hv => ih _ _ hv
          | halt x w' =>
            cases x <;> simp only [Oper.upon] at h ⊢
            exact absurd h.1 (by simp)
        · exact absurd h0.1 (by simp)
      · rename_i hw; rw [if_neg hw] at h; exact ih _ _ h
  exact mono _ _ _ h1
end

theorem E_cut {P : Program} {fn : Func} {R : Ending → World → Prop} {n : Nat} {k : List Item} {m : Env} {w : World} {x : Item} (J : Env → World → Prop)
    (h : (∀ m' w', J m' w' → E P fn R n k m' w') → E P fn R n (x :: k) m w) (h2 : ∀ m' w', J m' w' → E P fn R n k m' w') : E P fn R n (x :: k) m w := h h2

end Go.PR
