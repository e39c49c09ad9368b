/-
  Memory in the walks, the third part: slices of records (structs of k one-cell fields), new variables, ranges of blocks. No condition.
-/
import Derived.Test.YtjpbmjigmbfcfaaMem2
import Derived.Laws.StructEq
namespace Go.PR
open Go Go.RowKit

/-! ### Lists of records, laid flat -/

theorem flat_length {α : Type} (enc : α → List Value) (k : Nat) (hk : ∀ x, (enc x).length = k) : ∀ xs : List α, (xs.flatMap enc).length = xs.length * k
  | [] => by simp
  | x :: r => by rw [List.flatMap_cons, List.length_append, hk, flat_length enc k hk r, List.length_cons, Nat.succ_mul, Nat.add_comm]

theorem flat_get {α : Type} (enc : α → List Value) (k : Nat) (hk : ∀ x, (enc x).length = k) (d : α) : ∀ (xs : List α) (i j : Nat), i < xs.length → j < k → (xs.flatMap enc)[i * k + j]? = (enc (xs.getD i d))[j]?
  | [], i, j, hi, _ => by simp at hi
  | x :: r, 0, j, _, hj => by
    rw [List.flatMap_cons, List.getElem?_append_left (by rw [hk]; omega)]
    simp
  | x :: r, i + 1, j, hi, hj => by
    have ih := flat_get enc k hk d r i j (by simpa using hi) hj
    rw [List.flatMap_cons, List.getElem?_append_right (by rw [hk, Nat.succ_mul]; omega), hk, show (i + 1) * k + j - k = i * k + j by rw [Nat.succ_mul]; omega, ih]
    simp

theorem flat_set {α : Type} (enc : α → List Value) (k : Nat) (hk : ∀ x, (enc x).length = k) (d : α) : ∀ (xs : List α) (i j : Nat) (u : Value) (x' : α), i < xs.length → j < k → (enc (xs.getD i d)).set j u = enc x' →
    (xs.flatMap enc).set (i * k + j) u = (xs.set i x').flatMap enc
  | [], i, j, _, _, hi, _, _ => by simp at hi
  | x :: r, 0, j, u, x', _, hj, he => by
    simp only [List.getD_cons_zero] at he
    rw [List.flatMap_cons, Nat.zero_mul, Nat.zero_add, List.set_append_left _ _ (by rw [hk]; exact hj), he]
    simp
  | x :: r, i + 1, j, u, x', hi, hj, he => by
    simp only [List.getD_cons_succ] at he
    have ih := flat_set enc k hk d r i j u x' (by simpa using hi) hj he
    rw [List.flatMap_cons, List.set_append_right _ _ (by rw [hk, Nat.succ_mul]; omega), hk, show (i + 1) * k + j - k = i * k + j by rw [Nat.succ_mul]; omega, ih]
    simp

/-- A kind of records: how a record is laid, in how many cells. -/
structure Rec (α : Type) where
  enc : α → List Value
  k : Nat
  zero : α
  len : ∀ x, (enc x).length = k
  pos : 0 < k
  one : ∀ x, ∀ u ∈ enc x, u.oneCell' = true

def Recs {α : Type} (r : Rec α) (h : Array Obj) (v : Value) (xs : List α) : Prop := Sl h r.k v xs.length (xs.flatMap r.enc)
def OwnR {α : Type} (r : Rec α) (w : World) (B : Nat) (e : TypeId) (v : Value) (xs : List α) : Prop := w.ownsRow B e r.k v xs.length (xs.flatMap r.enc)

theorem Recs.later {α : Type} {r : Rec α} {w w' : World} {v : Value} {xs : List α} (h : Recs r w.heap v xs) (hb : Below w.heap.size w w') : Recs r w'.heap v xs := Sl.later h hb
theorem Recs.rlen {α : Type} {r : Rec α} {h : Array Obj} {v : Value} {xs : List α} (hs : Recs r h v xs) : SlLen v xs.length := Sl.len hs
theorem OwnR.recs {α : Type} {r : Rec α} {w : World} {B : Nat} {e : TypeId} {v : Value} {xs : List α} (h : OwnR r w B e v xs) : Recs r w.heap v xs := Sl.of_own h
theorem OwnR.later {α : Type} {r : Rec α} {w w' : World} {B : Nat} {e : TypeId} {v : Value} {xs : List α} (h : OwnR r w B e v xs) (hb : Below w.heap.size w w') : OwnR r w' B e v xs := own_later h hb
theorem OwnR.base {α : Type} {r : Rec α} {w : World} {B B' : Nat} {e : TypeId} {v : Value} {xs : List α} (h : OwnR r w B e v xs) (hB : B' ≤ B) : OwnR r w B' e v xs := own_base h hB
theorem OwnR.nil {α : Type} (r : Rec α) (w : World) (B : Nat) (e : TypeId) : OwnR r w B e (.slice none 0 0) [] := World.ownsRow_nil w B e r.k
theorem Recs.nil {α : Type} (r : Rec α) (h : Array Obj) : Recs r h (.slice none 0 0) [] := Sl.nil h r.k

/-! ### Which block -/

def Blk (v : Value) (lo hi : Nat) : Prop := ∀ b, v.ownBlock = some b → lo ≤ b ∧ b < hi
theorem own_blk {w : World} {B : Nat} {e : TypeId} {sz : Nat} {v : Value} {k : Nat} {cs : List Value} (h : w.ownsRow B e sz v k cs) : Blk v B w.heap.size := h.lt
theorem OwnI.blk {w : World} {B : Nat} {e : TypeId} {v : Value} {xs : List Int} (h : OwnI w B e v xs) : Blk v B w.heap.size := World.ownsRow.lt h
theorem OwnB.blk {w : World} {B : Nat} {e : TypeId} {v : Value} {xs : List Bool} (h : OwnB w B e v xs) : Blk v B w.heap.size := World.ownsRow.lt h
theorem OwnR.blk {α : Type} {r : Rec α} {w : World} {B : Nat} {e : TypeId} {v : Value} {xs : List α} (h : OwnR r w B e v xs) : Blk v B w.heap.size := World.ownsRow.lt h
/-- two rows in ranges that do not meet -/
theorem Blk.ne {v u : Value} {lo hi lo' hi' : Nat} (h : Blk v lo hi) (h' : Blk u lo' hi') (hd : hi ≤ lo' ∨ hi' ≤ lo) : v.ownBlock = none ∨ v.ownBlock ≠ u.ownBlock := by
  cases hv : v.ownBlock with
  | none => exact .inl rfl
  | some b =>
    right
    intro hu
    have h1 := h b hv
    have h2 := h' b hu.symm
    omega
theorem Blk.ne_some {v : Value} {lo hi b : Nat} (h : Blk v lo hi) (hb : hi ≤ b ∨ b < lo) : v.ownBlock = none ∨ v.ownBlock ≠ some b := by
  cases hv : v.ownBlock with
  | none => exact .inl rfl
  | some c =>
    right
    intro e
    have := h c hv
    simp at e
    omega
theorem Blk.mono {v : Value} {lo hi lo' hi' : Nat} (h : Blk v lo hi) (h1 : lo' ≤ lo) (h2 : hi ≤ hi') : Blk v lo' hi' := fun b hb => by have := h b hb; omega
theorem OwnI.kept {w w' : World} {B : Nat} {e : TypeId} {v : Value} {xs : List Int} {row : Option Nat} (h : OwnI w B e v xs) (hg : w.grownBy w' row) (hne : v.ownBlock = none ∨ v.ownBlock ≠ row) : OwnI w' B e v xs := World.ownsRow.kept h hg hne
theorem OwnB.kept {w w' : World} {B : Nat} {e : TypeId} {v : Value} {xs : List Bool} {row : Option Nat} (h : OwnB w B e v xs) (hg : w.grownBy w' row) (hne : v.ownBlock = none ∨ v.ownBlock ≠ row) : OwnB w' B e v xs := World.ownsRow.kept h hg hne
theorem OwnR.kept {α : Type} {r : Rec α} {w w' : World} {B : Nat} {e : TypeId} {v : Value} {xs : List α} {row : Option Nat} (h : OwnR r w B e v xs) (hg : w.grownBy w' row) (hne : v.ownBlock = none ∨ v.ownBlock ≠ row) : OwnR r w' B e v xs := World.ownsRow.kept h hg hne
/-- old memory is as it was where only a row of the call's own was written -/
theorem _root_.Go.RowKit.Below.own {B : Nat} {a w w' : World} {v : Value} {lo hi : Nat} (h : Below B a w) (hg : w.grownBy w' v.ownBlock) (hb : Blk v lo hi) (hlo : B ≤ lo) (hB : B ≤ w.heap.size) : Below B a w' :=
  h.grown hg hB (fun b hb' => by have := (hb b hb').1; omega)
theorem grown_trans {w w' w'' : World} {row : Option Nat} (h : w.grownBy w' row) (h' : w'.grownBy w'' row) : w.grownBy w'' row :=
  ⟨h'.os.trans h.os, h'.tape.trans h.tape, h'.output.trans h.output, Nat.le_trans h.size h'.size, fun b hb hne => (h'.block b (Nat.lt_of_lt_of_le hb h.size) hne).trans (h.block b hb hne)⟩
theorem grown_refl (w : World) (row : Option Nat) : w.grownBy w row := ⟨rfl, rfl, rfl, Nat.le_refl _, fun _ _ _ => rfl⟩
theorem grown_below {w w' : World} {row : Option Nat} (h : Below w.heap.size w w') : w.grownBy w' row := ⟨h.os, h.tape, h.output, h.size, fun b hb _ => h.block b hb⟩
/-- a row that was made behind w may be written -/
theorem grown_new {w w' w'' : World} {row row' : Option Nat} (h : w.grownBy w' row) (h' : w'.grownBy w'' row') (hn : ∀ b, row' = some b → w.heap.size ≤ b ∨ row = some b) : w.grownBy w'' row :=
  ⟨h'.os.trans h.os, h'.tape.trans h.tape, h'.output.trans h.output, Nat.le_trans h.size h'.size, fun b hb hne => (h'.block b (Nat.lt_of_lt_of_le hb h.size) (fun e => by
    rcases hn b e.symm with h1 | h1
    · omega
    · exact hne h1.symm)).trans (h.block b hb hne)⟩

section
variable {P : Program} {n : Nat} {m : Env} {w : World} {ops : Array Oper} {md : Nat} {K : Env → World → Prop} {l : List Oper}

theorem T_indexR {α : Type} {r : Rec α} {d : Nat} {x ix : Operand} {t e : TypeId} {byt : Nat} {z : Value} {ty : TypeId} {pos : String} {af : Array Edge} {v : Value} {xs : List α} {hp : Array Obj} {i : Nat} (hT : STy P t e r.k byt z)
    (hx : ev m x = some v) (hi : ev m ix = some (.int .i64 (i : Int))) (hd : Nat.blt d n = true) (hS : Recs r hp v xs) (hr : i < xs.length)
    (h : T P n ops md K l ((d, ePtr v (i * r.k)) :: m) w) : T P n ops md K (⟨some d, .indexAddr t x ix, ty, pos, af, none⟩ :: l) m w :=
  T_index hT hx hi hd hS (by omega) (by simpa using h)
theorem T_indexRI {α : Type} {r : Rec α} {d : Nat} {x ix : Operand} {t e : TypeId} {byt : Nat} {z : Value} {ty : TypeId} {pos : String} {af : Array Edge} {v : Value} {xs : List α} {hp : Array Obj} {i : Int} (hT : STy P t e r.k byt z)
    (hx : ev m x = some v) (hi : ev m ix = some (.int .i64 i)) (hd : Nat.blt d n = true) (hS : Recs r hp v xs) (hr : 0 ≤ i ∧ i < (xs.length : Int))
    (h : T P n ops md K l ((d, ePtr v (i.toNat * r.k)) :: m) w) : T P n ops md K (⟨some d, .indexAddr t x ix, ty, pos, af, none⟩ :: l) m w :=
  T_index hT hx hi hd hS hr h
theorem T_fieldR {α : Type} {r : Rec α} {d : Nat} {x : Operand} {s ty : TypeId} {f off : Nat} {pos : String} {af : Array Edge} {v : Value} {j : Nat} {xs : List α} {hp : Array Obj} (hf : FieldAt P s f off) (hx : ev m x = some (ePtr v j)) (hd : Nat.blt d n = true)
    (hS : Recs r hp v xs) (hk : 0 < xs.length) (h : T P n ops md K l ((d, ePtr v (j + off)) :: m) w) : T P n ops md K (⟨some d, .fieldAddr s x f, ty, pos, af, none⟩ :: l) m w :=
  T_fieldS hf hx hd hS ⟨r.pos, hk⟩ h
/-- one field of a record -/
theorem T_loadR {α : Type} {r : Rec α} {d : Nat} {x : Operand} {t ty : TypeId} {pos : String} {af : Array Edge} {v u : Value} {i j : Nat} {xs : List α} (ht : ∀ w, (isAgg t).run P w = .ok false w) (hx : ev m x = some (ePtr v (i * r.k + j))) (hd : Nat.blt d n = true)
    (hS : Recs r w.heap v xs) (hi : i < xs.length) (hj : (r.enc (xs.getD i r.zero))[j]? = some u) (h : T P n ops md K l ((d, u) :: m) w) (hmd : Nat.blt md 4 = true := by rfl) : T P n ops md K (⟨some d, .load t x, ty, pos, af, none⟩ :: l) m w :=
  T_loadS ht hx hd hS (by
    have hlt : j < r.k := by have := (List.getElem?_eq_some_iff.1 hj).1; rwa [r.len] at this
    rw [flat_get r.enc r.k r.len r.zero xs i j hi hlt]; exact hj) h hmd
/-- a whole record -/
theorem T_loadRA {α : Type} {r : Rec α} {d : Nat} {x : Operand} {t ty : TypeId} {pos : String} {af : Array Edge} {v : Value} {i : Nat} {xs : List α} (ht : ∀ w, (isAgg t).run P w = .ok true w) (hs : ∀ w, (sizeOf t).run P w = .ok r.k w) (hx : ev m x = some (ePtr v (i * r.k))) (hd : Nat.blt d n = true)
    (hS : Recs r w.heap v xs) (hi : i < xs.length) (h : T P n ops md K l ((d, .agg (r.enc (xs.getD i r.zero)).toArray) :: m) w) (hmd : Nat.blt md 4 = true := by rfl) : T P n ops md K (⟨some d, .load t x, ty, pos, af, none⟩ :: l) m w :=
  T_loadSA ht (by rw [r.len]; exact hs) hx hd hS (fun q u hq => by
    have hlt : q < r.k := by have := (List.getElem?_eq_some_iff.1 hq).1; rwa [r.len] at this
    rw [flat_get r.enc r.k r.len r.zero xs i q hi hlt]; exact hq) (by rw [r.len]; exact r.pos) h hmd

/-- a literal of one record, as append lays it -/
theorem T_lit1 {α : Type} {r : Rec α} {d : Nat} {x : Operand} {t e : TypeId} {byt : Nat} {z : Value} {ty : TypeId} {pos : String} {af : Array Edge} {a : α} (hT : STy P t e r.k byt z) (hx : ev m x = some (.agg (r.enc a).toArray)) (hd : Nat.blt d n = true) (hsm : Nat.ble r.k 16777216 = true)
    (h : ∀ v w', OwnR r w' w.heap.size e v [a] → v.ownBlock = some w.heap.size → w.heap.size < w'.heap.size → Below w.heap.size w w' → T P n ops 0 K l ((d, v) :: m) w') :
    T P n ops 0 K (⟨some d, .buildSlice t 1 #[(0, x)], ty, pos, af, none⟩ :: l) m w := by
  have hp : evParts m 0 [(0, x)] = some [.agg (r.enc a).toArray] := by simp [evParts, hx]
  refine T_lit (ps := [(0, x)]) hT hp rfl hd (by intro v hv; simp at hv; subst hv; simp [Value.cells, r.len]) (by have := Nat.le_of_ble_eq_true hsm; omega) (fun v w' h1 h2 h3 h4 => h v w' ?_ h2 h3 h4)
  unfold OwnR
  simpa [Value.cells] using h1

theorem T_appendR {α : Type} {r : Rec α} {d : Nat} {x y : Operand} {t e : TypeId} {byt : Nat} {z : Value} {ty : TypeId} {pos : String} {af : Array Edge} {B : Nat} {v u : Value} {xs ys : List α} (hT : STy P t e r.k byt z) (hx : ev m x = some v) (hy : ev m y = some u) (hd : Nat.blt d n = true)
    (hO : OwnR r w B e v xs) (hS : Recs r w.heap u ys) (hB : B ≤ w.heap.size) (hb : (xs.length + ys.length) * byt ≤ 140737488355328) (h63 : xs.length + ys.length ≤ 9223372036854775807)
    (h : ∀ v' w', OwnR r w' B e v' (xs ++ ys) → w.grownBy w' v.ownBlock → (v'.ownBlock = v.ownBlock ∨ v'.ownBlock = some w.heap.size) → T P n ops 0 K l ((d, v') :: m) w') :
    T P n ops 0 K (⟨some d, .call ⟨.builtin .append, #[x, y], #[t, t]⟩, ty, pos, af, none⟩ :: l) m w :=
  T_append hT hx hy hd hO hS (by intro q hq; simp at hq; obtain ⟨a, _, ha⟩ := hq; exact r.one a q ha) hB hb (by simp only [maxLen]; omega)
    (fun v' w' h1 h2 h3 => h v' w' (by unfold OwnR; simpa using h1) h2 h3)

/-- a store into one field of a record of the call's own -/
theorem T_storeR {α : Type} {r : Rec α} {x y : Operand} {t ty : TypeId} {pos : String} {af : Array Edge} {B : Nat} {e : TypeId} {v u : Value} {i j : Nat} {xs : List α} {a' : α} (hs : ∀ w, (sizeOf t).run P w = .ok 1 w) (hx : ev m x = some (ePtr v (i * r.k + j))) (hy : ev m y = some u) (h1 : u.oneCell' = true)
    (hO : OwnR r w B e v xs) (hi : i < xs.length) (hj : j < r.k) (he : (r.enc (xs.getD i r.zero)).set j u = r.enc a')
    (h : ∀ w', OwnR r w' B e v (xs.set i a') → w.grownBy w' v.ownBlock → w'.heap.size = w.heap.size → T P n ops 0 K l m w') :
    T P n ops 0 K (⟨none, .store t x y, ty, pos, af, none⟩ :: l) m w :=
  T_storeOwn hs hx hy h1 hO (by rw [flat_length r.enc r.k r.len]; exact Nat.lt_of_lt_of_le (Nat.add_lt_add_left hj _) (by rw [← Nat.succ_mul]; exact Nat.mul_le_mul_right _ hi))
    (fun w' h2 h3 h4 => h w' (by unfold OwnR; rw [List.length_set, ← flat_set r.enc r.k r.len r.zero xs i j u a' hi hj he]; exact h2) h3 h4)

/-! ### New variables -/

theorem T_alloc {d : Nat} {t ty : TypeId} {pos : String} {af : Array Edge} {z : Value} (hz : ∀ w, (zeroValue t).run P w = .ok z w) (hd : Nat.blt d n = true)
    (h : ∀ b w', w.heap.size ≤ b → Box w'.heap b z.cells.toList → Below w.heap.size w w' → T P n ops 0 K l ((d, bPtr b 0) :: m) w') :
    T P n ops 0 K (⟨some d, .alloc t, ty, pos, af, none⟩ :: l) m w := by
  have hd' : d < n := by simpa [Nat.blt_eq] using hd
  intro a ha
  refine wpList_plain rfl fun K' hK => ?_
  have h1 : (execOp a.eval ⟨some d, .alloc t, ty, pos, af, none⟩).run P w = .ok (.value (.pointer (some ⟨w.heap.size, 0, none⟩))) (w.alloc (.cells z.cells t)) := by
    simp [execOp, Instr.alloc, hz, newVar, newRow, newObj, Sem.run]
  unfold Oper.wp
  rw [h1]
  refine hK _ _ (h w.heap.size _ (Nat.le_refl _) ⟨t, by rw [Array.toArray_toList]; exact heap_alloc_new w _⟩ ((Below.refl _ _).alloc (Nat.le_refl _) _) _ (ha.put hd' _))

/-- a whole struct into a box -/
theorem run_storeCells_box {b : Nat} {tt : TypeId} : ∀ (us : List Value) (i : Nat) (cur : Array Value) (w : World), w.heap[b]? = some (.cells cur tt (0, 0)) → i + us.length ≤ cur.size → (∀ u ∈ us, u.oneCell' = true) →
    ∃ w', (storeCells (⟨b, 0, none⟩ : Addr) us i).run P w = .ok () w' ∧ w'.heap[b]? = some (.cells (cur.toList.take i ++ us ++ cur.toList.drop (i + us.length)).toArray tt (0, 0)) ∧ w.grownBy w' (some b) ∧ w'.heap.size = w.heap.size
  | [], i, cur, w, h, _, _ => ⟨w, by simp [storeCells], by simp [h], grown_refl _ _, rfl⟩
  | u :: r, i, cur, w, h, hl, h1 => by
    have ea : ((⟨b, 0, none⟩ : Addr).add i) = ⟨b, i, none⟩ := by unfold Addr.add; split <;> simp_all
    have hlt : i < cur.size := by simp at hl; omega
    have hc : w.cell? ⟨b, i, none⟩ = some cur[i] := by simp [World.cell?, h, hlt]
    have hf : w.frozen? ⟨b, i, none⟩ = false := by simp [World.frozen?, h]
    have hw := heap_setCell_same w b i cur tt u h
    obtain ⟨w', e1, e2, e3, e4⟩ := run_storeCells_box r (i + 1) (cur.setIfInBounds i u) (w.setCell ⟨b, i, none⟩ u) hw (by simp at hl ⊢; omega) (fun q hq => h1 q (by simp [hq]))
    have hgs : w.grownBy (w.setCell ⟨b, i, none⟩ u) (some b) := ⟨rfl, rfl, rfl, by simp [World.setCell], fun k _ hk => Below.heap_setCell _ _ _ _ (fun e5 => hk (by simp [e5]))⟩
    refine ⟨w', ?_, ?_, grown_trans hgs e3, by rw [e4]; simp [World.setCell]⟩
    · have := h1 u (by simp)
      cases u <;> simp [Value.oneCell'] at this <;> simp [storeCells, store, Sem.run, ea, hc, hf, e1]
    · rw [e2]
      congr 3
      apply List.ext_getElem?
      intro q
      simp only [Array.toList_setIfInBounds, List.length_cons]
      by_cases hq : q < i
      · rw [List.getElem?_append_left (by simp; omega), List.getElem?_append_left (by simp; omega), List.getElem?_append_left (by simp; omega), List.getElem?_append_left (by simp; omega)]
        rw [List.getElem?_take, List.getElem?_take, if_pos (by omega), if_pos hq, List.getElem?_set_ne (by omega)]
      · by_cases hq2 : q = i
        · subst hq2
          rw [List.getElem?_append_left (by simp; omega), List.getElem?_append_left (by simp; omega), List.getElem?_append_left (by simp; omega), List.getElem?_append_right (by simp; omega)]
          simp [hlt, Nat.min_eq_left (Nat.le_of_lt hlt)]
        · have g1 : ((cur.toList.set i u).take (i + 1)).length = i + 1 := by simp; omega
          have g2 : (cur.toList.take i).length = i := by simp; omega
          by_cases hq3 : q < i + 1 + r.length
          · rw [List.getElem?_append_left (by simp; omega), List.getElem?_append_right (by omega), List.getElem?_append_left (by simp; omega), List.getElem?_append_right (by omega), g1, g2, show q - i = (q - (i + 1)) + 1 by omega]
            simp
          · rw [List.getElem?_append_right (by simp; omega), List.getElem?_append_right (by simp; omega)]
            simp only [List.length_append, g1, g2, List.length_cons, List.getElem?_drop]
            rw [List.getElem?_set_ne (by omega)]
            congr 1
            omega

theorem T_storeBoxA {x y : Operand} {t ty : TypeId} {pos : String} {af : Array Edge} {b q : Nat} {cs us : List Value} (hs : ∀ w, (sizeOf t).run P w = .ok q w) (hx : ev m x = some (bPtr b 0)) (hy : ev m y = some (.agg us.toArray)) (hq : us.length = q) (h1 : ∀ u ∈ us, u.oneCell' = true)
    (hB : Box w.heap b cs) (hl : cs.length = us.length) (h : ∀ w', Box w'.heap b us → w.grownBy w' (some b) → w'.heap.size = w.heap.size → T P n ops 0 K l m w') :
    T P n ops 0 K (⟨none, .store t x y, ty, pos, af, none⟩ :: l) m w := by
  subst hq
  intro a ha
  refine wpList_plain rfl fun K' hK => ?_
  obtain ⟨tt, e⟩ := hB
  have ea : ((⟨b, 0, none⟩ : Addr).add 0) = ⟨b, 0, none⟩ := by simp [Addr.add]
  obtain ⟨w', e1, e2, e3, e4⟩ := run_storeCells_box (P := P) (b := b) us 0 cs.toArray w e (by simp [hl]) h1
  have h2 : (execOp a.eval ⟨none, .store t x y, ty, pos, af, none⟩).run P w = .ok .skip w' := by
    simp [execOp, ha.eval hx, ha.eval hy, bPtr, ea, Instr.storeAt, Instr.sureAddr, storeVar, Value.cells, hs, e1]
  unfold Oper.wp
  rw [h2]
  refine hK _ _ (h w' ⟨tt, ?_⟩ e3 e4 _ ha)
  rw [e2]
  simp [← hl]
/-! ### '==' and '!=' of structs and of bools -/

def EqTy {α : Type} [DecidableEq α] (P : Program) (t : TypeId) (r : Rec α) : Prop := P.eqGuardType P.depth t = false ∧ ∀ (a b : α) (w : World), (Op.equalIn 10000 t (.agg (r.enc a).toArray) (.agg (r.enc b).toArray)).run P w = .ok (decide (a = b)) w

theorem T_neqR {α : Type} [DecidableEq α] {r : Rec α} {d : Nat} {x y : Operand} {t t' ty : TypeId} {pos : String} {af : Array Edge} {a b : α} (hE : EqTy P t r) (hx : ev m x = some (.agg (r.enc a).toArray)) (hy : ev m y = some (.agg (r.enc b).toArray)) (hd : Nat.blt d n = true)
    (h : T P n ops md K l ((d, .bool (decide (a ≠ b))) :: m) w) : T P n ops md K (⟨some d, .binOp .neq t x y t', ty, pos, af, none⟩ :: l) m w :=
  T_val hd (fun f ha w' _ => by
    simp only [execOp, ha.eval hx, ha.eval hy, Sem.run_bind]
    rw [run_eqGuard_agg _ _ _ _ _ _ _ hE.1, Result.andThen_ok, run_neq_struct, hE.2]
    simp) h
theorem T_eqlR {α : Type} [DecidableEq α] {r : Rec α} {d : Nat} {x y : Operand} {t t' ty : TypeId} {pos : String} {af : Array Edge} {a b : α} (hE : EqTy P t r) (hx : ev m x = some (.agg (r.enc a).toArray)) (hy : ev m y = some (.agg (r.enc b).toArray)) (hd : Nat.blt d n = true)
    (h : T P n ops md K l ((d, .bool (decide (a = b))) :: m) w) : T P n ops md K (⟨some d, .binOp .eql t x y t', ty, pos, af, none⟩ :: l) m w :=
  T_val hd (fun f ha w' _ => by
    simp only [execOp, ha.eval hx, ha.eval hy, Sem.run_bind]
    rw [run_eqGuard_agg _ _ _ _ _ _ _ hE.1, Result.andThen_ok, run_eql_struct, hE.2]
    simp) h
theorem T_neqB {d : Nat} {x y : Operand} {t t' ty : TypeId} {pos : String} {af : Array Edge} {a b : Bool} (ht : P.underlying t = some .bool) (hx : ev m x = some (.bool a)) (hy : ev m y = some (.bool b)) (hd : Nat.blt d n = true)
    (h : T P n ops md K l ((d, .bool (decide (a ≠ b))) :: m) w) : T P n ops md K (⟨some d, .binOp .neq t x y t', ty, pos, af, none⟩ :: l) m w :=
  T_val hd (fun f ha w' _ => by
    have := run_equal_bool (P := P) w' t a b ht
    cases a <;> cases b <;> simp [execOp, ha.eval hx, ha.eval hy, eqGuard, binOp] at this ⊢ <;> simp [this]) h
theorem T_eqlB {d : Nat} {x y : Operand} {t t' ty : TypeId} {pos : String} {af : Array Edge} {a b : Bool} (ht : P.underlying t = some .bool) (hx : ev m x = some (.bool a)) (hy : ev m y = some (.bool b)) (hd : Nat.blt d n = true)
    (h : T P n ops md K l ((d, .bool (decide (a = b))) :: m) w) : T P n ops md K (⟨some d, .binOp .eql t x y t', ty, pos, af, none⟩ :: l) m w :=
  T_val hd (fun f ha w' _ => by
    have := run_equal_bool (P := P) w' t a b ht
    cases a <;> cases b <;> simp [execOp, ha.eval hx, ha.eval hy, eqGuard, binOp] at this ⊢ <;> simp [this]) h
end
end Go.PR
