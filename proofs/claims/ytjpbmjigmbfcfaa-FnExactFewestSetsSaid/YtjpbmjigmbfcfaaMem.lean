/-
  Memory in the walks: slices that are read, rows that the call owns, boxes of structs. No condition.
-/
import Derived.Test.YtjpbmjigmbfcfaaOps
import Derived.Laws.AppendOwnNone
import Derived.Laws.MakeOwn
namespace Go.PR
open Go Go.RowKit

/-! ### Cells -/

def cellAt (h : Array Obj) (a : Addr) : Option Value :=
  match h[a.block]? with
  | some (.cells c _ _) => if a.spot.isSome then none else c[a.off]?
  | _ => none

theorem cell_eq (w : World) (a : Addr) : w.cell? a = cellAt w.heap a := rfl

theorem cellAt_lt {h : Array Obj} {a : Addr} {v : Value} (hc : cellAt h a = some v) : a.block < h.size := by
  unfold cellAt at hc
  split at hc
  · rename_i hb; exact (Array.getElem?_eq_some_iff.1 hb).1
  · cases hc

theorem cellAt_block {h h' : Array Obj} {a : Addr} (e : h'[a.block]? = h[a.block]?) : cellAt h' a = cellAt h a := by simp [cellAt, e]

theorem cellAt_later {w w' : World} (hb : Below w.heap.size w w') {a : Addr} {v : Value} (h : cellAt w.heap a = some v) : cellAt w'.heap a = some v := by
  rw [cellAt_block (hb.block _ (cellAt_lt h))]; exact h

theorem add_add (a : Addr) (i j : Nat) : (a.add i).add j = a.add (i + j) := by
  unfold Addr.add
  by_cases hi : i = 0 <;> by_cases hj : j = 0 <;> simp [hi, hj, Nat.add_assoc]

theorem grown_of_below {w w' : World} (h : Below w.heap.size w w') : w.grownBy w' none :=
  ⟨h.os, h.tape, h.output, h.size, fun k hk _ => h.block k hk⟩
theorem below_of_grown {w w' : World} (h : w.grownBy w' none) : Below w.heap.size w w' :=
  ⟨h.os, h.tape, h.output, h.size, fun k hk => h.block k hk (by simp)⟩
theorem _root_.Go.RowKit.Below.step {B : Nat} {a w w' : World} (h : Below B a w) (hB : B ≤ w.heap.size) (h' : Below w.heap.size w w') : Below B a w' := h.trans (h'.mono hB)

/-! ### Slices -/

def SlLen (v : Value) (k : Nat) : Prop := ∃ a c, v = .slice a k c

/-- The slice v has k elements of sz cells; its cells are cs. -/
def Sl (h : Array Obj) (sz : Nat) (v : Value) (k : Nat) (cs : List Value) : Prop :=
  cs.length = k * sz ∧ ∃ ao cap, v = .slice ao k cap ∧ k ≤ cap ∧ ∀ j u, cs[j]? = some u → ∃ a, ao = some a ∧ cellAt h (a.add j) = some u

def ePtr (v : Value) (j : Nat) : Value :=
  match v with
  | .slice (some a) _ _ => .pointer (some (a.add j))
  | _ => .pointer none

def Ints (h : Array Obj) (v : Value) (xs : List Int) : Prop := Sl h 1 v xs.length (xs.map (Value.int .i64))
def Bools (h : Array Obj) (v : Value) (xs : List Bool) : Prop := Sl h 1 v xs.length (xs.map Value.bool)

theorem Sl.later {w w' : World} {sz : Nat} {v : Value} {k : Nat} {cs : List Value} (h : Sl w.heap sz v k cs) (hb : Below w.heap.size w w') : Sl w'.heap sz v k cs := by
  obtain ⟨h1, ao, cap, h2, hle, h3⟩ := h
  refine ⟨h1, ao, cap, h2, hle, fun j u hj => ?_⟩
  obtain ⟨a, ha, hc⟩ := h3 j u hj
  exact ⟨a, ha, cellAt_later hb hc⟩
theorem Ints.later {w w' : World} {v : Value} {xs : List Int} (h : Ints w.heap v xs) (hb : Below w.heap.size w w') : Ints w'.heap v xs := Sl.later h hb
theorem Bools.later {w w' : World} {v : Value} {xs : List Bool} (h : Bools w.heap v xs) (hb : Below w.heap.size w w') : Bools w'.heap v xs := Sl.later h hb
theorem Sl.len {h : Array Obj} {sz : Nat} {v : Value} {k : Nat} {cs : List Value} (hs : Sl h sz v k cs) : SlLen v k := by
  obtain ⟨_, ao, cap, h2, _, _⟩ := hs; exact ⟨ao, cap, h2⟩
theorem Ints.len {h : Array Obj} {v : Value} {xs : List Int} (hs : Ints h v xs) : SlLen v xs.length := Sl.len hs
theorem Bools.len {h : Array Obj} {v : Value} {xs : List Bool} (hs : Bools h v xs) : SlLen v xs.length := Sl.len hs

theorem Sl.base {h : Array Obj} {sz : Nat} {v : Value} {k : Nat} {cs : List Value} (hs : Sl h sz v k cs) (hsz : 0 < sz) (hk : 0 < k) : ∃ a cap, v = .slice (some a) k cap := by
  obtain ⟨h1, ao, cap, h2, _, h3⟩ := hs
  have hpos : 0 < cs.length := by rw [h1]; exact Nat.mul_pos hk hsz
  obtain ⟨a, ha, _⟩ := h3 0 cs[0] (by simp [hpos])
  exact ⟨a, cap, by rw [h2, ha]⟩

theorem Sl.nil (h : Array Obj) (sz : Nat) : Sl h sz (.slice none 0 0) 0 [] := ⟨by simp, none, 0, rfl, Nat.le_refl _, fun j u hj => by simp at hj⟩
theorem Ints.nil (h : Array Obj) : Ints h (.slice none 0 0) [] := Sl.nil h 1

/-- What the call owns can be read. -/
theorem Sl.of_own {w : World} {B : Nat} {e : TypeId} {sz : Nat} {v : Value} {k : Nat} {cs : List Value} (h : w.ownsRow B e sz v k cs) : Sl w.heap sz v k cs := by
  refine ⟨h.1, ?_⟩
  rcases h.2 with ⟨rfl, rfl⟩ | ⟨g, cap, cur, rfl, _, hg, hle, _, _, ht⟩
  · have : cs = [] := List.eq_nil_of_length_eq_zero (by simpa using h.1)
    subst this
    exact ⟨none, 0, rfl, Nat.le_refl _, fun j u hj => by simp at hj⟩
  · exact ⟨_, cap, rfl, hle, fun j u hj => ⟨_, rfl, h.cells (g := g) rfl j u hj⟩⟩

def OwnI (w : World) (B : Nat) (e : TypeId) (v : Value) (xs : List Int) : Prop := w.ownsRow B e 1 v xs.length (xs.map (Value.int .i64))
def OwnB (w : World) (B : Nat) (e : TypeId) (v : Value) (xs : List Bool) : Prop := w.ownsRow B e 1 v xs.length (xs.map Value.bool)
theorem OwnI.ints {w : World} {B : Nat} {e : TypeId} {v : Value} {xs : List Int} (h : OwnI w B e v xs) : Ints w.heap v xs := Sl.of_own h
theorem OwnB.bools {w : World} {B : Nat} {e : TypeId} {v : Value} {xs : List Bool} (h : OwnB w B e v xs) : Bools w.heap v xs := Sl.of_own h

theorem own_later {w w' : World} {B : Nat} {e : TypeId} {sz : Nat} {v : Value} {k : Nat} {cs : List Value} (h : w.ownsRow B e sz v k cs) (hb : Below w.heap.size w w') : w'.ownsRow B e sz v k cs :=
  h.kept (grown_of_below hb) (by cases hv : v.ownBlock <;> simp)
theorem OwnI.later {w w' : World} {B : Nat} {e : TypeId} {v : Value} {xs : List Int} (h : OwnI w B e v xs) (hb : Below w.heap.size w w') : OwnI w' B e v xs := own_later h hb
theorem OwnB.later {w w' : World} {B : Nat} {e : TypeId} {v : Value} {xs : List Bool} (h : OwnB w B e v xs) (hb : Below w.heap.size w w') : OwnB w' B e v xs := own_later h hb
theorem own_base {w : World} {B B' : Nat} {e : TypeId} {sz : Nat} {v : Value} {k : Nat} {cs : List Value} (h : w.ownsRow B e sz v k cs) (hB : B' ≤ B) : w.ownsRow B' e sz v k cs := by
  refine ⟨h.1, ?_⟩
  rcases h.2 with h | ⟨g, cap, cur, h1, h2, h3⟩
  · exact .inl h
  · exact .inr ⟨g, cap, cur, h1, Nat.le_trans hB h2, h3⟩
theorem OwnI.base {w : World} {B B' : Nat} {e : TypeId} {v : Value} {xs : List Int} (h : OwnI w B e v xs) (hB : B' ≤ B) : OwnI w B' e v xs := own_base h hB
theorem OwnB.base {w : World} {B B' : Nat} {e : TypeId} {v : Value} {xs : List Bool} (h : OwnB w B e v xs) (hB : B' ≤ B) : OwnB w B' e v xs := own_base h hB
theorem OwnI.nil (w : World) (B : Nat) (e : TypeId) : OwnI w B e (.slice none 0 0) [] := World.ownsRow_nil w B e 1

/-! ### The types of slices -/

structure STy (P : Program) (t e : TypeId) (sz byt : Nat) (z : Value) : Prop where
  under : P.underlying t = some (.slice e)
  info : ∃ i, P.info? e = some i ∧ i.zero = some z ∧ i.size = sz ∧ i.bytes = byt
  zc : z.cells.size = sz
  pos : 0 < sz

theorem STy.size {P : Program} {t e : TypeId} {sz byt : Nat} {z : Value} (h : STy P t e sz byt z) (w : World) : (sizeOf e).run P w = .ok sz w := by
  obtain ⟨i, h1, _, h2, _⟩ := h.info
  simp [sizeOf, typeInfo, h1, h2]

section
variable {P : Program} {n : Nat} {m : Env} {w : World} {ops : Array Oper} {md : Nat} {K : Env → World → Prop} {l : List Oper}

theorem T_len {d : Nat} {x : Operand} {t e : TypeId} {sz byt : Nat} {z : Value} {ty : TypeId} {pos : String} {af : Array Edge} {v : Value} {k : Nat} (hT : STy P t e sz byt z) (hx : ev m x = some v) (hd : Nat.blt d n = true) (hv : SlLen v k)
    (h : T P n ops md K l ((d, .int .i64 (k : Int)) :: m) w) : T P n ops md K (⟨some d, .call ⟨.builtin .len, #[x], #[t]⟩, ty, pos, af, none⟩ :: l) m w := by
  obtain ⟨a', c, rfl⟩ := hv
  exact T_val hd (fun a ha w' _ => by simp [execOp, resolve, invoke, builtin, ha.eval hx, Builtin.len_, run_underlying hT.under, goInt]) h

theorem T_index {d : Nat} {x ix : Operand} {t e : TypeId} {sz byt : Nat} {z : Value} {ty : TypeId} {pos : String} {af : Array Edge} {v : Value} {k : Nat} {cs : List Value} {hp : Array Obj} {i : Int} (hT : STy P t e sz byt z)
    (hx : ev m x = some v) (hi : ev m ix = some (.int .i64 i)) (hd : Nat.blt d n = true) (hS : Sl hp sz v k cs) (hr : 0 ≤ i ∧ i < (k : Int))
    (h : T P n ops md K l ((d, ePtr v (i.toNat * sz)) :: m) w) : T P n ops md K (⟨some d, .indexAddr t x ix, ty, pos, af, none⟩ :: l) m w := by
  obtain ⟨a', cap, rfl⟩ := hS.base hT.pos (by omega)
  exact T_val hd (fun a ha w' _ => by simp [execOp, ha.eval hx, ha.eval hi, Instr.indexAt, asIntOf, run_underlying hT.under, hr, STy.size hT, ePtr]) h
theorem T_indexI {d : Nat} {x ix : Operand} {t e : TypeId} {byt : Nat} {z : Value} {ty : TypeId} {pos : String} {af : Array Edge} {v : Value} {xs : List Int} {hp : Array Obj} {i : Int} (hT : STy P t e 1 byt z)
    (hx : ev m x = some v) (hi : ev m ix = some (.int .i64 i)) (hd : Nat.blt d n = true) (hS : Ints hp v xs) (hr : 0 ≤ i ∧ i < (xs.length : Int))
    (h : T P n ops md K l ((d, ePtr v i.toNat) :: m) w) : T P n ops md K (⟨some d, .indexAddr t x ix, ty, pos, af, none⟩ :: l) m w :=
  T_index hT hx hi hd hS hr (by simpa using h)
theorem T_indexN {d : Nat} {x ix : Operand} {t e : TypeId} {byt : Nat} {z : Value} {ty : TypeId} {pos : String} {af : Array Edge} {v : Value} {xs : List Int} {hp : Array Obj} {i : Nat} (hT : STy P t e 1 byt z)
    (hx : ev m x = some v) (hi : ev m ix = some (.int .i64 (i : Int))) (hd : Nat.blt d n = true) (hS : Ints hp v xs) (hr : i < xs.length)
    (h : T P n ops md K l ((d, ePtr v i) :: m) w) : T P n ops md K (⟨some d, .indexAddr t x ix, ty, pos, af, none⟩ :: l) m w :=
  T_index hT hx hi hd hS (by omega) (by simpa using h)
theorem T_indexBN {d : Nat} {x ix : Operand} {t e : TypeId} {byt : Nat} {z : Value} {ty : TypeId} {pos : String} {af : Array Edge} {v : Value} {xs : List Bool} {hp : Array Obj} {i : Nat} (hT : STy P t e 1 byt z)
    (hx : ev m x = some v) (hi : ev m ix = some (.int .i64 (i : Int))) (hd : Nat.blt d n = true) (hS : Bools hp v xs) (hr : i < xs.length)
    (h : T P n ops md K l ((d, ePtr v i) :: m) w) : T P n ops md K (⟨some d, .indexAddr t x ix, ty, pos, af, none⟩ :: l) m w :=
  T_index hT hx hi hd hS (by omega) (by simpa using h)
theorem T_indexB {d : Nat} {x ix : Operand} {t e : TypeId} {byt : Nat} {z : Value} {ty : TypeId} {pos : String} {af : Array Edge} {v : Value} {xs : List Bool} {hp : Array Obj} {i : Int} (hT : STy P t e 1 byt z)
    (hx : ev m x = some v) (hi : ev m ix = some (.int .i64 i)) (hd : Nat.blt d n = true) (hS : Bools hp v xs) (hr : 0 ≤ i ∧ i < (xs.length : Int))
    (h : T P n ops md K l ((d, ePtr v i.toNat) :: m) w) : T P n ops md K (⟨some d, .indexAddr t x ix, ty, pos, af, none⟩ :: l) m w :=
  T_index hT hx hi hd hS hr (by simpa using h)

theorem run_load {t : TypeId} (ht : ∀ w, (isAgg t).run P w = .ok false w) {a : Addr} {v : Value} {w : World} (hc : cellAt w.heap a = some v) : (Instr.loadAt t (.pointer (some a))).run P w = .ok v w := by
  rw [← cell_eq] at hc
  simp [Instr.loadAt, Instr.sureAddr, loadVar, ht, load, Sem.run, hc]

theorem T_load {d : Nat} {x : Operand} {t ty : TypeId} {pos : String} {af : Array Edge} {p : Addr} {v : Value} (ht : ∀ w, (isAgg t).run P w = .ok false w) (hx : ev m x = some (.pointer (some p))) (hd : Nat.blt d n = true)
    (hc : cellAt w.heap p = some v) (h : T P n ops md K l ((d, v) :: m) w) (hmd : Nat.blt md 4 = true := by rfl) : T P n ops md K (⟨some d, .load t x, ty, pos, af, none⟩ :: l) m w :=
  T_val hd (fun a ha w' hb => by simp [execOp, ha.eval hx, run_load ht (cellAt_later (hb.below hmd) hc)]) h
/-- one cell of a slice -/
theorem T_loadS {d : Nat} {x : Operand} {t ty : TypeId} {pos : String} {af : Array Edge} {v u : Value} {sz k j : Nat} {cs : List Value} (ht : ∀ w, (isAgg t).run P w = .ok false w) (hx : ev m x = some (ePtr v j)) (hd : Nat.blt d n = true)
    (hS : Sl w.heap sz v k cs) (hj : cs[j]? = some u) (h : T P n ops md K l ((d, u) :: m) w) (hmd : Nat.blt md 4 = true := by rfl) : T P n ops md K (⟨some d, .load t x, ty, pos, af, none⟩ :: l) m w := by
  obtain ⟨_, ao, cap, rfl, _, hc⟩ := hS
  obtain ⟨a, rfl, hc'⟩ := hc j u hj
  exact T_load ht hx hd hc' h hmd
theorem T_loadI {d : Nat} {x : Operand} {t ty : TypeId} {pos : String} {af : Array Edge} {v : Value} {j : Nat} {xs : List Int} (ht : ∀ w, (isAgg t).run P w = .ok false w) (hx : ev m x = some (ePtr v j)) (hd : Nat.blt d n = true)
    (hS : Ints w.heap v xs) (hj : j < xs.length) (h : T P n ops md K l ((d, .int .i64 (xs.getD j 0)) :: m) w) (hmd : Nat.blt md 4 = true := by rfl) : T P n ops md K (⟨some d, .load t x, ty, pos, af, none⟩ :: l) m w :=
  T_loadS ht hx hd hS (by simp [hj]) h hmd
theorem T_loadB {d : Nat} {x : Operand} {t ty : TypeId} {pos : String} {af : Array Edge} {v : Value} {j : Nat} {xs : List Bool} (ht : ∀ w, (isAgg t).run P w = .ok false w) (hx : ev m x = some (ePtr v j)) (hd : Nat.blt d n = true)
    (hS : Bools w.heap v xs) (hj : j < xs.length) (h : T P n ops md K l ((d, .bool (xs.getD j false)) :: m) w) (hmd : Nat.blt md 4 = true := by rfl) : T P n ops md K (⟨some d, .load t x, ty, pos, af, none⟩ :: l) m w :=
  T_loadS ht hx hd hS (by simp [hj]) h hmd

theorem run_loadCellsFrom {w : World} {a : Addr} : ∀ (us : List Value) (i : Nat) (acc : Array Value), (∀ q u, us[q]? = some u → cellAt w.heap (a.add (i + q)) = some u) →
    (loadCellsFrom a i us.length acc).run P w = .ok (acc ++ us.toArray) w
  | [], i, acc, _ => by simp [loadCellsFrom]
  | u :: r, i, acc, h => by
    have h0 := h 0 u (by simp)
    rw [← cell_eq, Nat.add_zero] at h0
    have ih := run_loadCellsFrom r (i + 1) (acc.push u) (fun q u' hq => by have := h (q + 1) u' (by simpa using hq); rwa [show i + (q + 1) = i + 1 + q by omega] at this)
    simp [loadCellsFrom, load, Sem.run, h0, ih]

theorem run_loadAgg {t : TypeId} {us : List Value} (ht : ∀ w, (isAgg t).run P w = .ok true w) (hs : ∀ w, (sizeOf t).run P w = .ok us.length w) {a : Addr} {w : World}
    (hc : ∀ q u, us[q]? = some u → cellAt w.heap (a.add q) = some u) : (Instr.loadAt t (.pointer (some a))).run P w = .ok (.agg us.toArray) w := by
  have := run_loadCellsFrom (P := P) (w := w) (a := a) us 0 #[] (by simpa using hc)
  simp [Instr.loadAt, Instr.sureAddr, loadVar, ht, hs, loadCells, this]

/-- a struct of a slice, whole -/
theorem T_loadSA {d : Nat} {x : Operand} {t ty : TypeId} {pos : String} {af : Array Edge} {v : Value} {us : List Value} {sz k j : Nat} {cs : List Value} (ht : ∀ w, (isAgg t).run P w = .ok true w) (hs : ∀ w, (sizeOf t).run P w = .ok us.length w)
    (hx : ev m x = some (ePtr v j)) (hd : Nat.blt d n = true) (hS : Sl w.heap sz v k cs) (hj : ∀ q u, us[q]? = some u → cs[j + q]? = some u) (hpos : 0 < us.length)
    (h : T P n ops md K l ((d, .agg us.toArray) :: m) w) (hmd : Nat.blt md 4 = true := by rfl) : T P n ops md K (⟨some d, .load t x, ty, pos, af, none⟩ :: l) m w := by
  obtain ⟨_, ao, cap, rfl, _, hc⟩ := hS
  obtain ⟨a, rfl, _⟩ := hc (j + 0) us[0] (hj 0 _ (by simp [hpos]))
  refine T_val hd (fun a' ha w' hb => ?_) h
  have := run_loadAgg (P := P) (t := t) (us := us) ht hs (a := a.add j) (w := w') (fun q u hq => by
    obtain ⟨a2, e, h2⟩ := hc (j + q) u (hj q u hq)
    obtain rfl := Option.some.inj e
    rw [add_add]; exact cellAt_later (hb.below hmd) h2)
  simp [execOp, ha.eval hx, ePtr, this]

/-! ### Boxes -/

def Box (h : Array Obj) (b : Nat) (cs : List Value) : Prop := ∃ ty, h[b]? = some (.cells cs.toArray ty (0, 0))
def bPtr (b off : Nat) : Value := .pointer (some ((⟨b, 0, none⟩ : Addr).add off))

theorem Box.lt {h : Array Obj} {b : Nat} {cs : List Value} (hb : Box h b cs) : b < h.size := by
  obtain ⟨ty, e⟩ := hb; exact (Array.getElem?_eq_some_iff.1 e).1
theorem Box.later {w w' : World} {b : Nat} {cs : List Value} (h : Box w.heap b cs) (hb : Below w.heap.size w w') : Box w'.heap b cs := by
  have hl := h.lt
  obtain ⟨ty, e⟩ := h; exact ⟨ty, by rw [hb.block b hl]; exact e⟩
theorem Box.kept {w w' : World} {b : Nat} {cs : List Value} {row : Option Nat} (h : Box w.heap b cs) (hg : w.grownBy w' row) (hne : some b ≠ row) : Box w'.heap b cs := by
  have hl := h.lt
  obtain ⟨ty, e⟩ := h; exact ⟨ty, by rw [hg.block b hl hne]; exact e⟩
theorem Box.cell {h : Array Obj} {b : Nat} {cs : List Value} (hb : Box h b cs) {off : Nat} {v : Value} (hv : cs[off]? = some v) : cellAt h ((⟨b, 0, none⟩ : Addr).add off) = some v := by
  obtain ⟨ty, e⟩ := hb
  have : ((⟨b, 0, none⟩ : Addr).add off) = ⟨b, off, none⟩ := by unfold Addr.add; split <;> simp_all
  rw [this]
  simp [cellAt, e, hv]

theorem T_box {d : Nat} {x : Operand} {t ty : TypeId} {pos : String} {af : Array Edge} {cs : List Value} (hx : ev m x = some (.agg cs.toArray)) (hd : Nat.blt d n = true)
    (h : ∀ b w', w.heap.size ≤ b → Box w'.heap b cs → Below w.heap.size w w' → T P n ops 0 K l ((d, bPtr b 0) :: m) w') :
    T P n ops 0 K (⟨some d, .box t x, ty, pos, af, none⟩ :: l) m w := by
  have hd' : d < n := by simpa [Nat.blt_eq] using hd
  intro a ha
  refine wpList_plain rfl fun K' hK => ?_
  have h1 : (execOp a.eval ⟨some d, .box t x, ty, pos, af, none⟩).run P w = .ok (.value (.pointer (some ⟨w.heap.size, 0, none⟩))) (w.alloc (.cells cs.toArray t)) := by
    simp [execOp, ha.eval hx, Instr.box, newVar, newRow, newObj, Sem.run, Value.cells]
  unfold Oper.wp
  rw [h1]
  refine hK _ _ (h w.heap.size _ (Nat.le_refl _) ⟨t, heap_alloc_new w _⟩ ((Below.refl _ _).alloc (Nat.le_refl _) _) _ (ha.put hd' _))

theorem T_loadBox {d : Nat} {x : Operand} {t ty : TypeId} {pos : String} {af : Array Edge} {b off : Nat} {cs : List Value} {v : Value} (ht : ∀ w, (isAgg t).run P w = .ok false w) (hx : ev m x = some (bPtr b off)) (hd : Nat.blt d n = true)
    (hB : Box w.heap b cs) (hv : cs[off]? = some v) (h : T P n ops md K l ((d, v) :: m) w) (hmd : Nat.blt md 4 = true := by rfl) : T P n ops md K (⟨some d, .load t x, ty, pos, af, none⟩ :: l) m w :=
  T_load ht hx hd (hB.cell hv) h hmd
/-- the whole struct of a box -/
theorem T_loadBoxA {d : Nat} {x : Operand} {t ty : TypeId} {pos : String} {af : Array Edge} {b q : Nat} {cs : List Value} (ht : ∀ w, (isAgg t).run P w = .ok true w) (hs : ∀ w, (sizeOf t).run P w = .ok q w) (hx : ev m x = some (bPtr b 0)) (hd : Nat.blt d n = true)
    (hB : Box w.heap b cs) (hq : cs.length = q) (h : T P n ops md K l ((d, .agg cs.toArray) :: m) w) (hmd : Nat.blt md 4 = true := by rfl) : T P n ops md K (⟨some d, .load t x, ty, pos, af, none⟩ :: l) m w := by
  subst hq
  refine T_val hd (fun a' ha w' hb => ?_) h
  have := run_loadAgg (P := P) (t := t) (us := cs) ht hs (a := ⟨b, 0, none⟩) (w := w') (fun q u hq => (hB.later (hb.below hmd)).cell hq)
  have e : (⟨b, 0, none⟩ : Addr).add 0 = ⟨b, 0, none⟩ := by simp [Addr.add]
  simp [execOp, ha.eval hx, bPtr, e, this]

/-- the address of a field -/
def FieldAt (P : Program) (s : TypeId) (f off : Nat) : Prop := ∀ (a : Addr) (w : World), (Instr.fieldAt s (.pointer (some a)) f).run P w = .ok (.pointer (some (a.add off))) w

theorem T_fieldBox {d : Nat} {x : Operand} {s ty : TypeId} {f off : Nat} {pos : String} {af : Array Edge} {b o : Nat} (hf : FieldAt P s f off) (hx : ev m x = some (bPtr b o)) (hd : Nat.blt d n = true)
    (h : T P n ops md K l ((d, bPtr b (o + off)) :: m) w) : T P n ops md K (⟨some d, .fieldAddr s x f, ty, pos, af, none⟩ :: l) m w :=
  T_val hd (fun a ha w' _ => by simp [execOp, ha.eval hx, bPtr, hf _ w', add_add]) h
theorem T_fieldS {d : Nat} {x : Operand} {s ty : TypeId} {f off : Nat} {pos : String} {af : Array Edge} {v : Value} {j sz k : Nat} {cs : List Value} {hp : Array Obj} (hf : FieldAt P s f off) (hx : ev m x = some (ePtr v j)) (hd : Nat.blt d n = true)
    (hS : Sl hp sz v k cs) (hk : 0 < sz ∧ 0 < k) (h : T P n ops md K l ((d, ePtr v (j + off)) :: m) w) : T P n ops md K (⟨some d, .fieldAddr s x f, ty, pos, af, none⟩ :: l) m w := by
  obtain ⟨a', cap, rfl⟩ := hS.base hk.1 hk.2
  exact T_val hd (fun a ha w' _ => by simp [execOp, ha.eval hx, ePtr, hf _ w', add_add]) h
theorem T_nilBox {d : Nat} {x : Operand} {ty : TypeId} {pos : String} {af : Array Edge} {b o : Nat} (hx : ev m x = some (bPtr b o)) (hd : Nat.blt d n = true)
    (h : T P n ops md K l ((d, bPtr b o) :: m) w) : T P n ops md K (⟨some d, .nilCheck x, ty, pos, af, none⟩ :: l) m w :=
  T_nilCheck hx hd h

theorem run_store {t : TypeId} (hs : ∀ w, (sizeOf t).run P w = .ok 1 w) {a : Addr} {u v : Value} {w : World} (h1 : v.oneCell' = true) (hc : cellAt w.heap a = some u) (hf : w.frozen? a = false) :
    (Instr.storeAt t (.pointer (some a)) v).run P w = .ok () (w.setCell a v) := by
  rw [← cell_eq] at hc
  have e0 : a.add 0 = a := by simp [Addr.add]
  cases v <;> simp [Value.oneCell'] at h1 <;> simp [Instr.storeAt, Instr.sureAddr, storeVar, hs, Value.cells, storeCells, store, Sem.run, e0, hc, hf]

theorem T_storeBox {x y : Operand} {t ty : TypeId} {pos : String} {af : Array Edge} {b off : Nat} {cs : List Value} {v : Value} (hs : ∀ w, (sizeOf t).run P w = .ok 1 w) (hx : ev m x = some (bPtr b off)) (hy : ev m y = some v) (h1 : v.oneCell' = true)
    (hB : Box w.heap b cs) (hl : off < cs.length) (h : ∀ w', Box w'.heap b (cs.set off v) → w.grownBy w' (some b) → w'.heap.size = w.heap.size → T P n ops 0 K l m w') :
    T P n ops 0 K (⟨none, .store t x y, ty, pos, af, none⟩ :: l) m w := by
  intro a ha
  refine wpList_plain rfl fun K' hK => ?_
  have hc := hB.cell (off := off) (v := cs[off]) (by simp [hl])
  obtain ⟨tt, e⟩ := hB
  have ea : ((⟨b, 0, none⟩ : Addr).add off) = ⟨b, off, none⟩ := by unfold Addr.add; split <;> simp_all
  rw [ea] at hc
  have hf : w.frozen? ⟨b, off, none⟩ = false := by simp [World.frozen?, e]
  have hr := run_store (P := P) hs h1 hc hf
  unfold Oper.wp
  have h2 : (execOp a.eval ⟨none, .store t x y, ty, pos, af, none⟩).run P w = .ok .skip (w.setCell ⟨b, off, none⟩ v) := by
    simp [execOp, ha.eval hx, ha.eval hy, bPtr, ea, hr]
  rw [h2]
  refine hK _ _ (h (w.setCell ⟨b, off, none⟩ v) ⟨tt, ?_⟩ ⟨rfl, rfl, rfl, by simp [World.setCell], fun k _ hk => Below.heap_setCell _ _ _ _ (fun e2 => hk (by simp [e2]))⟩ (by simp [World.setCell]) _ ha)
  have := heap_setCell_same w b off cs.toArray tt v e
  rw [this]
  simp

/-! ### Stores into rows of the call's own -/

theorem T_storeOwn {x y : Operand} {t ty : TypeId} {pos : String} {af : Array Edge} {B : Nat} {e : TypeId} {sz : Nat} {v u : Value} {k j : Nat} {cs : List Value} (hs : ∀ w, (sizeOf t).run P w = .ok 1 w) (hx : ev m x = some (ePtr v j)) (hy : ev m y = some u) (h1 : u.oneCell' = true)
    (hO : w.ownsRow B e sz v k cs) (hl : j < cs.length) (h : ∀ w', w'.ownsRow B e sz v k (cs.set j u) → w.grownBy w' v.ownBlock → w'.heap.size = w.heap.size → T P n ops 0 K l m w') :
    T P n ops 0 K (⟨none, .store t x y, ty, pos, af, none⟩ :: l) m w := by
  intro a ha
  refine wpList_plain rfl fun K' hK => ?_
  rcases hO.2 with ⟨rfl, rfl⟩ | ⟨g, cap, cur, rfl, hb, hg, hr⟩
  · have h0 := hO.1
    simp at h0
    subst h0
    simp at hl
  have hc := hO.cells (g := g) rfl j cs[j] (by simp [hl])
  have ea : ((⟨g, 0, none⟩ : Addr).add j) = ⟨g, j, none⟩ := by unfold Addr.add; split <;> simp_all
  rw [ea, cell_eq] at hc
  have hst := hO.stored j u
  have hr := run_store (P := P) hs h1 hc (hO.frozenAt j)
  unfold Oper.wp
  have h2 : (execOp a.eval ⟨none, .store t x y, ty, pos, af, none⟩).run P w = .ok .skip (w.setCell ⟨g, j, none⟩ u) := by
    simp [execOp, ha.eval hx, ha.eval hy, ePtr, ea, hr]
  rw [h2]
  exact hK _ _ (h _ hst.1 hst.2 (by simp [World.setCell]) _ ha)
theorem T_storeI {x y : Operand} {t ty : TypeId} {pos : String} {af : Array Edge} {B : Nat} {e : TypeId} {v : Value} {j : Nat} {xs : List Int} {i : Int} (hs : ∀ w, (sizeOf t).run P w = .ok 1 w) (hx : ev m x = some (ePtr v j)) (hy : ev m y = some (.int .i64 i))
    (hO : OwnI w B e v xs) (hl : j < xs.length) (h : ∀ w', OwnI w' B e v (xs.set j i) → w.grownBy w' v.ownBlock → w'.heap.size = w.heap.size → T P n ops 0 K l m w') :
    T P n ops 0 K (⟨none, .store t x y, ty, pos, af, none⟩ :: l) m w :=
  T_storeOwn hs hx hy rfl hO (by simpa using hl) (fun w' h1 h2 h3 => h w' (by unfold OwnI; rw [List.length_set, List.map_set]; exact h1) h2 h3)
theorem T_storeB {x y : Operand} {t ty : TypeId} {pos : String} {af : Array Edge} {B : Nat} {e : TypeId} {v : Value} {j : Nat} {xs : List Bool} {i : Bool} (hs : ∀ w, (sizeOf t).run P w = .ok 1 w) (hx : ev m x = some (ePtr v j)) (hy : ev m y = some (.bool i))
    (hO : OwnB w B e v xs) (hl : j < xs.length) (h : ∀ w', OwnB w' B e v (xs.set j i) → w.grownBy w' v.ownBlock → w'.heap.size = w.heap.size → T P n ops 0 K l m w') :
    T P n ops 0 K (⟨none, .store t x y, ty, pos, af, none⟩ :: l) m w :=
  T_storeOwn hs hx hy rfl hO (by simpa using hl) (fun w' h1 h2 h3 => h w' (by unfold OwnB; rw [List.length_set, List.map_set]; exact h1) h2 h3)

/-! ### make, composite literals, append -/

theorem T_make {d : Nat} {x y : Operand} {t e : TypeId} {sz byt : Nat} {z : Value} {ty : TypeId} {pos : String} {af : Array Edge} {i : Int} (hT : STy P t e sz byt z) (hx : ev m x = some (.int .i64 i)) (hy : ev m y = some (.int .i64 i)) (hd : Nat.blt d n = true)
    (hr : 0 ≤ i ∧ (byt : Int) * i ≤ 281474976710656 ∧ i ≤ 9223372036854775807)
    (h : ∀ v w', w'.ownsRow w.heap.size e sz v i.toNat (madeCells z.cells (i.toNat * sz)).toList → v.ownBlock = some w.heap.size → w.heap.size < w'.heap.size → Below w.heap.size w w' → T P n ops 0 K l ((d, v) :: m) w') :
    T P n ops 0 K (⟨some d, .makeSlice t x y, ty, pos, af, none⟩ :: l) m w := by
  have hd' : d < n := by simpa [Nat.blt_eq] using hd
  obtain ⟨inf, h1, h2, h3, h4⟩ := hT.info
  obtain ⟨k, rfl⟩ := Int.eq_ofNat_of_zero_le hr.1
  intro a ha
  refine wpList_plain rfl fun K' hK => ?_
  have hrun := run_make (P := P) w t e inf z hT.under h1 h2 .i64 .i64 (k : Int) (k : Int) (by omega) (Int.le_refl _) (by rw [h4]; exact hr.2.1) hr.2.2
  have hx2 : (execOp a.eval ⟨some d, .makeSlice t x y, ty, pos, af, none⟩).run P w = .ok (.value (.slice (some ⟨w.heap.size, 0, none⟩) k k)) (w.alloc (.cells (madeCells z.cells (k * sz)) e)) := by
    simp only [execOp, ha.eval hx, ha.eval hy]
    simp [hrun, h3]
  unfold Oper.wp
  rw [hx2]
  refine hK _ _ (h _ _ ?_ rfl (by simp) ((Below.refl _ _).alloc (Nat.le_refl _) _) _ (ha.put hd' _))
  refine ⟨by simp [madeCells], .inr ⟨w.heap.size, k, _, by simp, Nat.le_refl _, heap_alloc_new w _, by simp, by simp only [maxLen]; omega, by simp [madeCells], ?_⟩⟩
  simp [madeCells, List.take_of_length_le]

theorem madeCells_one (z : Value) (k : Nat) (hz : z.cells = #[z]) : (madeCells z.cells (k * 1)).toList = List.replicate k z := by
  rw [hz]
  apply List.ext_getElem?
  intro j
  by_cases hj : j < k
  · simp [madeCells, hj, Nat.mod_one]
  · simp [madeCells, hj]

theorem T_makeI {d : Nat} {x y : Operand} {t e : TypeId} {byt : Nat} {ty : TypeId} {pos : String} {af : Array Edge} {i : Int} (hT : STy P t e 1 byt (.int .i64 0)) (hx : ev m x = some (.int .i64 i)) (hy : ev m y = some (.int .i64 i)) (hd : Nat.blt d n = true)
    (hr : 0 ≤ i ∧ (byt : Int) * i ≤ 281474976710656 ∧ i ≤ 9223372036854775807)
    (h : ∀ v w', OwnI w' w.heap.size e v (List.replicate i.toNat 0) → v.ownBlock = some w.heap.size → w.heap.size < w'.heap.size → Below w.heap.size w w' → T P n ops 0 K l ((d, v) :: m) w') :
    T P n ops 0 K (⟨some d, .makeSlice t x y, ty, pos, af, none⟩ :: l) m w :=
  T_make hT hx hy hd hr (fun v w' h1 h2 h3 h4 => h v w' (by
    rw [madeCells_one _ _ (by rfl)] at h1
    unfold OwnI; simpa using h1) h2 h3 h4)
theorem T_makeB {d : Nat} {x y : Operand} {t e : TypeId} {byt : Nat} {ty : TypeId} {pos : String} {af : Array Edge} {i : Int} (hT : STy P t e 1 byt (.bool false)) (hx : ev m x = some (.int .i64 i)) (hy : ev m y = some (.int .i64 i)) (hd : Nat.blt d n = true)
    (hr : 0 ≤ i ∧ (byt : Int) * i ≤ 281474976710656 ∧ i ≤ 9223372036854775807)
    (h : ∀ v w', OwnB w' w.heap.size e v (List.replicate i.toNat false) → v.ownBlock = some w.heap.size → w.heap.size < w'.heap.size → Below w.heap.size w w' → T P n ops 0 K l ((d, v) :: m) w') :
    T P n ops 0 K (⟨some d, .makeSlice t x y, ty, pos, af, none⟩ :: l) m w :=
  T_make hT hx hy hd hr (fun v w' h1 h2 h3 h4 => h v w' (by
    rw [madeCells_one _ _ (by rfl)] at h1
    unfold OwnB; simpa using h1) h2 h3 h4)
end
end Go.PR
