/-
  The frame of the walks: a run told by the machine's own list of things to do, a sparse frame, one rule for each form of code and each operation. No condition.
-/
import Derived.Deep.Quiet
import Derived.StillTail
import Derived.Below
import Derived.OwnWalk
import Derived.KernelRfl
namespace Go.PR
open Go Go.RowKit

/-- A sparse frame: what some slots hold. -/
abbrev Env := List (Nat × Value)

def get : Env → Nat → Option Value
  | [], _ => none
  | (s, v) :: r, t => match Nat.beq s t with
    | true => some v
    | false => get r t

def ev (m : Env) : Operand → Option Value
  | .tmp t => get m t
  | .const v => some v
  | .global g => some (.pointer (some ⟨g, 0, none⟩))
  | .func f => some (.func (.func f) #[] #[])

structure Fits (n : Nat) (m : Env) (a : Act) : Prop where
  defers : a.defers = []
  size : a.tmps.size = n
  slot : ∀ t v, get m t = some v → a.tmps[t]? = some v

theorem get_cons_same (t : Nat) (v : Value) (m : Env) : get ((t, v) :: m) t = some v := by
  simp [get]

theorem get_cons_other {s t : Nat} (v : Value) (m : Env) (h : s ≠ t) : get ((s, v) :: m) t = get m t := by
  have : Nat.beq s t = false := by
    cases hb : Nat.beq s t
    · rfl
    · exact absurd (Nat.eq_of_beq_eq_true hb) h
  simp [get, this]

theorem Fits.eval {n : Nat} {m : Env} {a : Act} (h : Fits n m a) {x : Operand} {v : Value} (hx : ev m x = some v) : a.eval x = v := by
  cases x with
  | tmp t => have := h.slot t v hx; simp [Act.eval, Array.getD_eq_getD_getElem?, this]
  | const u => simpa [ev, Act.eval] using hx
  | global g => simpa [ev, Act.eval] using hx
  | func f => simpa [ev, Act.eval] using hx

theorem Fits.put {n : Nat} {m : Env} {a : Act} (h : Fits n m a) {d : Nat} (hd : d < n) (v : Value) : Fits n ((d, v) :: m) (a.put (some d) v) := by
  refine ⟨h.defers, by simp [Act.put, h.size], fun t u ht => ?_⟩
  by_cases e : d = t
  · subst e
    rw [get_cons_same] at ht
    obtain rfl := Option.some.inj ht
    have : d < a.tmps.size := by rw [h.size]; exact hd
    simp [Act.put, this]
  · rw [get_cons_other v m e] at ht
    have := h.slot t u ht
    simp [Act.put, e, this]

theorem Fits.put_none {n : Nat} {m : Env} {a : Act} (h : Fits n m a) (v : Value) : Fits n m (a.put none v) := h

/-- A frame that fits m fits whatever m tells. -/
theorem Fits.weaken {n : Nat} {m m' : Env} {a : Act} (h : Fits n m a) (hs : ∀ t v, get m' t = some v → get m t = some v) : Fits n m' a :=
  ⟨h.defers, h.size, fun t v ht => h.slot t v (hs t v ht)⟩

/-- m' tells no more than m. -/
def Sub : Env → Env → Prop
  | [], _ => True
  | (t, v) :: r, m => get m t = some v ∧ Sub r m

theorem Sub.spec {m' m : Env} (h : Sub m' m) : ∀ t v, get m' t = some v → get m t = some v := by
  induction m' with
  | nil => intro t v hv; simp [get] at hv
  | cons p r ih =>
    obtain ⟨s, u⟩ := p
    obtain ⟨h1, h2⟩ := h
    intro t v hv
    by_cases e : s = t
    · subst e
      rw [get_cons_same] at hv
      obtain rfl := Option.some.inj hv
      exact h1
    · rw [get_cons_other u r e] at hv
      exact ih h2 t v hv

theorem slotI {m : Env} {t : Nat} {i j : Int} (h : get m t = some (.int .i64 i)) (e : i = j) : get m t = some (.int .i64 j) := by rw [h, e]

/-- From here on, with this list of things to do, the function comes to an ending that meets R. -/
def Run (P : Program) (fn : Func) (R : Ending → World → Prop) (k : List Item) (a : Act) (w : World) : Prop :=
  ∀ (b : Frame) (cs : List Frame), b.kind = .normal → P.funcs[b.fn]? = some fn →
    ∃ e w' fr, R e w' ∧ Comes P (lone (b.at a k) cs w) (lone fr cs w') e ∧ fr.fn = b.fn ∧ fr.leaving P w' e

def E (P : Program) (fn : Func) (R : Ending → World → Prop) (n : Nat) (k : List Item) (m : Env) (w : World) : Prop :=
  ∀ a, Fits n m a → Run P fn R k a w

section rules
variable {P : Program} {fn : Func} {R : Ending → World → Prop} {n : Nat} {k : List Item} {m : Env} {w : World}

theorem Run.step {k k' : List Item} {a a' : Act} {w w' : World} (h : ∀ (b : Frame) cs, step P (lone (b.at a k) cs w) = .next (lone (b.at a' k') cs w')) (h' : Run P fn R k' a' w') : Run P fn R k a w := by
  intro b cs hk hf
  obtain ⟨e, w2, fr, r, c, x⟩ := h' b cs hk hf
  exact ⟨e, w2, fr, r, .of_steps (.one (h b cs)) c, x⟩

theorem E.step {k k' : List Item} {m : Env} {w w' : World} (h : ∀ (a : Act) (b : Frame) cs, step P (lone (Frame.at b a k) cs w) = .next (lone (Frame.at b a k') cs w')) (h' : E P fn R n k' m w') : E P fn R n k m w :=
  fun a ha => Run.step (h a) (h' a ha)

theorem E.weaken {m' : Env} (hs : Sub m' m) (h : E P fn R n k m' w) : E P fn R n k m w := fun a ha => h a (ha.weaken hs.spec)

theorem E_seq {x y : Code} (h : E P fn R n (.code x :: .code y :: k) m w) : E P fn R n (.code (.seq x y) :: k) m w := E.step (fun _ _ _ => step_seq) h
theorem E_seqR {r : Nat} {o : Array Oper} {d : Bool} {y : Code} (h : E P fn R n (.code (.region r o d) :: .code y :: k) m w) : E P fn R n (.code (.seq (.region r o d) y) :: k) m w := E_seq h
theorem E_seqB {id : Nat} {x y : Code} (h : E P fn R n (.code (.block id x) :: .code y :: k) m w) : E P fn R n (.code (.seq (.block id x) y) :: k) m w := E_seq h
theorem E_skip (h : E P fn R n k m w) : E P fn R n (.code .skip :: k) m w := E.step (fun _ _ _ => step_skip) h
theorem E_label {l : Nat} (h : E P fn R n k m w) : E P fn R n (.code (.label l) :: k) m w := E.step (fun _ _ _ => step_label) h
theorem E_inBlock {id : Nat} (h : E P fn R n k m w) : E P fn R n (.inBlock id :: k) m w := E.step (fun _ _ _ => step_inBlock) h
theorem E_block {id : Nat} {c : Code} (h : E P fn R n (.code c :: .inBlock id :: k) m w) : E P fn R n (.code (.block id c) :: k) m w := E.step (fun _ _ _ => step_block) h
theorem E_exit {id : Nat} {k' : List Item} (hk : exitTo id k = some k') (h : E P fn R n k' m w) : E P fn R n (.code (.exit id) :: k) m w := E.step (fun _ _ _ => step_exit hk) h
theorem E_inLoop {c : Code} (h : E P fn R n (.code c :: .inLoop c :: k) m w) : E P fn R n (.inLoop c :: k) m w := E.step (fun _ _ _ => step_inLoop) h

theorem E_cond {c : Operand} {x y : Code} {t : Bool} (hc : ev m c = some (.bool t)) (h : E P fn R n (.code (if t then x else y) :: k) m w) : E P fn R n (.code (.cond c x y) :: k) m w :=
  fun a ha => Run.step (fun _ _ => step_cond (ha.eval hc)) (h a ha)
theorem E_cond_true {c : Operand} {x y : Code} (hc : ev m c = some (.bool true)) (h : E P fn R n (.code x :: k) m w) : E P fn R n (.code (.cond c x y) :: k) m w := E_cond hc h
theorem E_cond_false {c : Operand} {x y : Code} (hc : ev m c = some (.bool false)) (h : E P fn R n (.code y :: k) m w) : E P fn R n (.code (.cond c x y) :: k) m w := E_cond hc h
theorem E_cond_bool {c : Operand} {x y : Code} {t : Bool} (hc : ev m c = some (.bool t)) (ht : t = true → E P fn R n (.code x :: k) m w) (hf : t = false → E P fn R n (.code y :: k) m w) :
    E P fn R n (.code (.cond c x y) :: k) m w := by
  cases t
  · exact E_cond hc (hf rfl)
  · exact E_cond hc (ht rfl)
theorem E_cond_if {c : Operand} {x y : Code} {p : Prop} [Decidable p] (hc : ev m c = some (.bool (decide p))) (ht : p → E P fn R n (.code x :: k) m w) (hf : ¬ p → E P fn R n (.code y :: k) m w) :
    E P fn R n (.code (.cond c x y) :: k) m w :=
  E_cond_bool hc (fun h => ht (of_decide_eq_true h)) (fun h => hf (of_decide_eq_false h))

/-- The loop: ghost states s, what the frame holds at the round's head, what holds of the world, a measure. -/
theorem E_loop0 {σ : Type} {c : Code} (env : σ → Env) (inv : σ → World → Prop) (μ : σ → Nat) (s0 : σ) (h0 : inv s0 w) (hs : Sub (env s0) m)
    (round : ∀ s w, inv s w → (∀ s' w' m', inv s' w' → μ s' < μ s → Sub (env s') m' → E P fn R n (.inLoop c :: k) m' w') → E P fn R n (.code c :: .inLoop c :: k) (env s) w) :
    E P fn R n (.code (.loop c) :: k) m w := by
  have key : ∀ N s w, μ s = N → inv s w → E P fn R n (.code c :: .inLoop c :: k) (env s) w := by
    intro N
    induction N using Nat.strongRecOn with
    | _ N ih =>
      intro s w hN hI
      exact round s w hI fun s' w' m' hI' hlt hsub => E_inLoop (E.weaken hsub (ih (μ s') (hN ▸ hlt) s' w' rfl hI'))
  exact E.step (fun _ _ _ => step_loop) (E.weaken hs (key _ s0 w rfl h0))
/-- as the text lays it, in a block of its own -/
theorem E_loop {σ : Type} {id : Nat} {c : Code} (env : σ → Env) (inv : σ → World → Prop) (μ : σ → Nat) (s0 : σ) (h0 : inv s0 w) (hs : Sub (env s0) m)
    (round : ∀ s w, inv s w → (∀ s' w' m', inv s' w' → μ s' < μ s → Sub (env s') m' → E P fn R n (.inLoop c :: .inBlock id :: k) m' w') → E P fn R n (.code c :: .inLoop c :: .inBlock id :: k) (env s) w) :
    E P fn R n (.code (.block id (.loop c)) :: k) m w := E_block (E_loop0 env inv μ s0 h0 hs round)
/-- and what comes behind it is told once, for all ways out: J -/
theorem E_loopJ {σ : Type} {id : Nat} {c : Code} (env : σ → Env) (inv : σ → World → Prop) (μ : σ → Nat) (s0 : σ) (J : Env → World → Prop) (h0 : inv s0 w) (hs : Sub (env s0) m)
    (round : ∀ s w, inv s w → (∀ s' w' m', inv s' w' → μ s' < μ s → Sub (env s') m' → E P fn R n (.inLoop c :: .inBlock id :: k) m' w') → (∀ m' w', J m' w' → E P fn R n k m' w') → E P fn R n (.code c :: .inLoop c :: .inBlock id :: k) (env s) w)
    (behind : ∀ m' w', J m' w' → E P fn R n k m' w') : E P fn R n (.code (.block id (.loop c)) :: k) m w := E_loop env inv μ s0 h0 hs (fun s w h1 h2 => round s w h1 h2 behind)
theorem E_blockS {id : Nat} {x y : Code} (h : E P fn R n (.code (.seq x y) :: .inBlock id :: k) m w) : E P fn R n (.code (.block id (.seq x y)) :: k) m w := E_block h
theorem E_blockR {id r : Nat} {o : Array Oper} {d : Bool} (h : E P fn R n (.code (.region r o d) :: .inBlock id :: k) m w) : E P fn R n (.code (.block id (.region r o d)) :: k) m w := E_block h
theorem E_blockC {id : Nat} {c : Operand} {x y : Code} (h : E P fn R n (.code (.cond c x y) :: .inBlock id :: k) m w) : E P fn R n (.code (.block id (.cond c x y)) :: k) m w := E_block h
theorem E_blockB {id i : Nat} {x : Code} (h : E P fn R n (.code (.block i x) :: .inBlock id :: k) m w) : E P fn R n (.code (.block id (.block i x)) :: k) m w := E_block h
theorem E_blockK {id : Nat} (h : E P fn R n (.code .skip :: .inBlock id :: k) m w) : E P fn R n (.code (.block id .skip) :: k) m w := E_block h

theorem Run_of_wp {c : Code} {a : Act} (h : c.wp P (fun e a' w' => e = .normal ∧ Run P fn R k a' w') a w) : Run P fn R (.code c :: k) a w := by
  intro b cs hk hf
  obtain ⟨e, a', w', ⟨rfl, hr⟩, harr⟩ := h b k cs
  obtain ⟨e2, w2, fr, r, c2, x⟩ := hr b cs hk hf
  exact ⟨e2, w2, fr, r, .of_steps harr c2, x⟩

theorem Run_ret {a : Act} {v : Value} (hd : a.defers = []) (hv : (results fn a.tmps).run P w = .ok v w) (h : R (.returned v) w) : Run P fn R (.code .ret :: k) a w := by
  intro b cs hk hf
  exact ⟨.returned v, w, { b.at a (.code .ret :: k) with mode := .returning }, h, Steps.one step_ret, rfl, rfl, hd, hk, fn, hf, hv⟩
theorem Run_end {a : Act} {v : Value} (hd : a.defers = []) (hv : (results fn a.tmps).run P w = .ok v w) (h : R (.returned v) w) : Run P fn R [] a w := by
  intro b cs hk hf
  exact ⟨.returned v, w, { b.at a [] with mode := .returning }, h, Steps.one step_end, rfl, rfl, hd, hk, fn, hf, hv⟩

/-- What the results come to. -/
def Results (P : Program) (fn : Func) (n : Nat) (m : Env) (w : World) (v : Value) : Prop := ∀ a, Fits n m a → (results fn a.tmps).run P w = .ok v w

theorem E_ret {v : Value} (hv : Results P fn n m w v) (h : R (.returned v) w) : E P fn R n (.code .ret :: k) m w := fun a ha => Run_ret ha.defers (hv a ha) h
theorem E_end {v : Value} (hv : Results P fn n m w v) (h : R (.returned v) w) : E P fn R n [] m w := fun a ha => Run_end ha.defers (hv a ha) h

theorem Fits.getD {n : Nat} {m : Env} {a : Act} (h : Fits n m a) {t : Nat} {v : Value} (hx : get m t = some v) : a.tmps.getD t undef = v := by
  simp [Array.getD_eq_getD_getElem?, h.slot t v hx]

theorem Results_one {t : Nat} {v : Value} (hr : fn.results = #[.tmp t]) (ht : get m t = some v) : Results P fn n m w v := by
  intro a ha
  have := ha.slot _ _ ht
  simp [results, hr, this]
theorem Results_two {t u : Nat} {v v' : Value} (hr : fn.results = #[.tmp t, .tmp u]) (ht : get m t = some v) (hu : get m u = some v') : Results P fn n m w (.tuple #[v, v']) := by
  intro a ha
  have h1 := ha.slot _ _ ht
  have h2 := ha.slot _ _ hu
  simp [results, hr, h1, h2]
theorem Results_three {t u s : Nat} {v v' v'' : Value} (hr : fn.results = #[.tmp t, .tmp u, .tmp s]) (ht : get m t = some v) (hu : get m u = some v') (hs : get m s = some v'') : Results P fn n m w (.tuple #[v, v', v'']) := by
  intro a ha
  have h1 := ha.slot _ _ ht
  have h2 := ha.slot _ _ hu
  have h3 := ha.slot _ _ hs
  simp [results, hr, h1, h2, h3]
end rules

/-! ### Calls -/

/-- The call comes back with a value, and this holds of it and of the world behind it. -/
def Ret (P : Program) (f : FuncId) (args : Array Value) (w : World) (Φ : Value → World → Prop) : Prop :=
  (∀ args w, (callFunc f args).run P w = .ok (.enter f args) w) ∧ Calls P f args w (fun e w' => ∃ v, e = .returned v ∧ Φ v w')

theorem Ret.mono {P : Program} {f : FuncId} {args : Array Value} {w : World} {Φ Ψ : Value → World → Prop} (h : Ret P f args w Φ) (hi : ∀ v w', Φ v w' → Ψ v w') : Ret P f args w Ψ :=
  ⟨h.1, h.2.mono fun _ _ ⟨v, he, hv⟩ => ⟨v, he, hi _ _ hv⟩⟩

theorem frame_start (args : List Value) (n : Nat) (m : Env) (hn : args.length ≤ n) (hm : ∀ t v, get m t = some v → args[t]? = some v) :
    Fits n m { tmps := args.toArray ++ Array.replicate (n - args.toArray.size) undef, defers := [] } := by
  refine ⟨rfl, by simp; omega, fun t v ht => ?_⟩
  have h := hm t v ht
  have hlt : t < args.length := (List.getElem?_eq_some_iff.1 h).1
  simp only [Array.getElem?_append, List.size_toArray, hlt, if_true]
  simpa using h

def argsEnv (args : List Value) (i : Nat) : Env :=
  match args with
  | [] => []
  | v :: r => (i, v) :: argsEnv r (i + 1)

theorem get_argsEnv (args : List Value) : ∀ (i t : Nat) (v : Value), get (argsEnv args i) t = some v → i ≤ t ∧ args[t - i]? = some v := by
  induction args with
  | nil => intro i t v h; simp [argsEnv, get] at h
  | cons x r ih =>
    intro i t v h
    by_cases e : i = t
    · subst e
      rw [argsEnv, get_cons_same] at h
      simpa using h
    · rw [argsEnv, get_cons_other _ _ e] at h
      obtain ⟨h1, h2⟩ := ih (i + 1) t v h
      refine ⟨by omega, ?_⟩
      rw [show t - i = (t - (i + 1)) + 1 by omega]
      simpa using h2

theorem Ret_of {P : Program} {f : FuncId} {fn : Func} {c : Code} {args : List Value} {w : World} {Φ : Value → World → Prop}
    (hc : ∀ args w, (callFunc f args).run P w = .ok (.enter f args) w) (hf : P.funcs[f]? = some fn) (hb : fn.body = some c) (n : Nat) (hn : fn.ntmps = n) (hl : Nat.ble args.length n = true)
    (h : E P fn (fun e w' => ∃ v, e = .returned v ∧ Φ v w') n [.code c] (argsEnv args 0) w) : Ret P f args.toArray w Φ := by
  refine ⟨hc, fun cs => ?_⟩
  let b : Frame := { (default : Frame) with fn := f, kind := .normal }
  have henter : Frame.enter P f args.toArray .normal = b.at { tmps := args.toArray ++ Array.replicate (n - args.toArray.size) undef, defers := [] } [.code c] := by
    simp [Frame.enter, Frame.at, hf, hb, b, hn]
  have := h _ (frame_start args n (argsEnv args 0) (Nat.le_of_ble_eq_true hl) (fun t v ht => by have := get_argsEnv args 0 t v ht; simpa using this.2)) b cs rfl hf
  rw [← henter] at this
  obtain ⟨e, w', fr, r, cc, x, y⟩ := this
  exact ⟨e, w', fr, r, cc, x, y⟩

theorem Results_zero {P : Program} {fn : Func} {n : Nat} {m : Env} {w : World} (hr : fn.results = #[]) : Results P fn n m w (.tuple #[]) := by
  intro a ha
  simp [results, hr]
theorem E_ret0 {P : Program} {fn : Func} {Φ : Value → World → Prop} {n : Nat} {k : List Item} {m : Env} {w : World} (hr : fn.results = #[]) (h : Φ (.tuple #[]) w) :
    E P fn (fun e w' => ∃ v, e = .returned v ∧ Φ v w') n (.code .ret :: k) m w := E_ret (Results_zero hr) ⟨_, rfl, h⟩
theorem E_end0 {P : Program} {fn : Func} {Φ : Value → World → Prop} {n : Nat} {m : Env} {w : World} (hr : fn.results = #[]) (h : Φ (.tuple #[]) w) :
    E P fn (fun e w' => ∃ v, e = .returned v ∧ Φ v w') n [] m w := E_end (Results_zero hr) ⟨_, rfl, h⟩
theorem E_ret1 {P : Program} {fn : Func} {Φ : Value → World → Prop} {n : Nat} {k : List Item} {m : Env} {w : World} {t : Nat} {v : Value} (hr : fn.results = #[.tmp t]) (ht : get m t = some v) (h : Φ v w) :
    E P fn (fun e w' => ∃ v, e = .returned v ∧ Φ v w') n (.code .ret :: k) m w := E_ret (Results_one hr ht) ⟨v, rfl, h⟩
theorem E_ret2 {P : Program} {fn : Func} {Φ : Value → World → Prop} {n : Nat} {k : List Item} {m : Env} {w : World} {t u : Nat} {v v' : Value} (hr : fn.results = #[.tmp t, .tmp u]) (ht : get m t = some v) (hu : get m u = some v') (h : Φ (.tuple #[v, v']) w) :
    E P fn (fun e w' => ∃ v, e = .returned v ∧ Φ v w') n (.code .ret :: k) m w := E_ret (Results_two hr ht hu) ⟨_, rfl, h⟩
theorem E_ret3 {P : Program} {fn : Func} {Φ : Value → World → Prop} {n : Nat} {k : List Item} {m : Env} {w : World} {t u s : Nat} {v v' v'' : Value} (hr : fn.results = #[.tmp t, .tmp u, .tmp s]) (ht : get m t = some v) (hu : get m u = some v') (hs : get m s = some v'') (h : Φ (.tuple #[v, v', v'']) w) :
    E P fn (fun e w' => ∃ v, e = .returned v ∧ Φ v w') n (.code .ret :: k) m w := E_ret (Results_three hr ht hu hs) ⟨_, rfl, h⟩

end Go.PR
