/-
  Memory in the walks, the fifth part: slices of slices of numbers; what stays where only a range of blocks is written. No condition.
-/
import Derived.Test.YtjpbmjigmbfcfaaMem4
namespace Go.PR
open Go Go.RowKit

/-! ### Only blocks of a range, and new ones, are written -/

theorem Stay.refl (lo hi : Nat) (w : World) : Stay lo hi w w := ⟨rfl, rfl, rfl, Nat.le_refl _, fun _ _ _ => rfl⟩
theorem Stay.trans {lo hi : Nat} {w w' w'' : World} (h : Stay lo hi w w') (h' : Stay lo hi w' w'') : Stay lo hi w w'' :=
  ⟨h'.os.trans h.os, h'.tape.trans h.tape, h'.output.trans h.output, Nat.le_trans h.size h'.size, fun k hk hn => (h'.block k (Nat.lt_of_lt_of_le hk h.size) hn).trans (h.block k hk hn)⟩
theorem Stay.mono {lo hi lo' hi' : Nat} {w w' : World} (h : Stay lo hi w w') (h1 : lo' ≤ lo) (h2 : hi ≤ hi') : Stay lo' hi' w w' :=
  ⟨h.os, h.tape, h.output, h.size, fun k hk hn => h.block k hk (fun ⟨a, b⟩ => hn ⟨by omega, by omega⟩)⟩
theorem Stay.of_grown {lo hi : Nat} {w w' : World} {v : Value} (h : w.grownBy w' v.ownBlock) (hb : Blk v lo hi) : Stay lo hi w w' :=
  ⟨h.os, h.tape, h.output, h.size, fun k hk hn => h.block k hk (fun e => hn (hb k e.symm))⟩
theorem Stay.of_below {lo hi : Nat} {w w' : World} (h : Below w.heap.size w w') : Stay lo hi w w' :=
  ⟨h.os, h.tape, h.output, h.size, fun k hk _ => h.block k hk⟩
theorem Stay.below {lo hi B : Nat} {a w w' : World} (h : Stay lo hi w w') (hb : Below B a w) (hlo : B ≤ lo) (hB : B ≤ w.heap.size) : Below B a w' :=
  ⟨h.os.trans hb.os, h.tape.trans hb.tape, h.output.trans hb.output, Nat.le_trans hb.size h.size, fun k hk => by
    have h1 := h.block k (by omega) (by omega)
    rw [h1]; exact hb.block k hk⟩

theorem own_block {w w' : World} {B : Nat} {e : TypeId} {sz : Nat} {v : Value} {k : Nat} {cs : List Value} (h : w.ownsRow B e sz v k cs) (hb : ∀ b, v.ownBlock = some b → w'.heap[b]? = w.heap[b]?) : w'.ownsRow B e sz v k cs := by
  refine ⟨h.1, ?_⟩
  rcases h.2 with h | ⟨g, cap, cur, rfl, h2, h3, h4⟩
  · exact .inl h
  · exact .inr ⟨g, cap, cur, rfl, h2, by rw [hb g rfl]; exact h3, h4⟩
theorem own_stay {w w' : World} {B : Nat} {e : TypeId} {sz : Nat} {v : Value} {k : Nat} {cs : List Value} {lo hi a b : Nat} (h : w.ownsRow B e sz v k cs) (hs : Stay lo hi w w') (hb : Blk v a b) (hd : b ≤ lo ∨ hi ≤ a) : w'.ownsRow B e sz v k cs :=
  own_block h (fun c hc => hs.block c (World.ownsRow.lt h c hc).2 (fun ⟨x, y⟩ => by have := hb c hc; omega))
theorem OwnI.stay {w w' : World} {B : Nat} {e : TypeId} {v : Value} {xs : List Int} {lo hi a b : Nat} (h : OwnI w B e v xs) (hs : Stay lo hi w w') (hb : Blk v a b) (hd : b ≤ lo ∨ hi ≤ a) : OwnI w' B e v xs := own_stay h hs hb hd
theorem OwnR.stay {α : Type} {r : Rec α} {w w' : World} {B : Nat} {e : TypeId} {v : Value} {xs : List α} {lo hi a b : Nat} (h : OwnR r w B e v xs) (hs : Stay lo hi w w') (hb : Blk v a b) (hd : b ≤ lo ∨ hi ≤ a) : OwnR r w' B e v xs := own_stay h hs hb hd
theorem Box.stay {w w' : World} {b : Nat} {cs : List Value} {lo hi : Nat} (h : Box w.heap b cs) (hs : Stay lo hi w w') (hd : b < lo ∨ hi ≤ b) : Box w'.heap b cs := by
  have hl := h.lt
  obtain ⟨ty, e⟩ := h
  exact ⟨ty, by rw [hs.block b hl (by omega)]; exact e⟩

/-! ### Slices of slices of numbers -/

def nilV : Value := .slice none 0 0
theorem nilV_block : nilV.ownBlock = none := rfl

structure Rws (h : Array Obj) (v : Value) (vs : List Value) (xss : List (List Int)) : Prop where
  sl : Sl h 1 v vs.length vs
  len : vs.length = xss.length
  row : ∀ i, i < xss.length → Ints h (vs.getD i nilV) (xss.getD i [])

theorem Rws.later {w w' : World} {v : Value} {vs : List Value} {xss : List (List Int)} (h : Rws w.heap v vs xss) (hb : Below w.heap.size w w') : Rws w'.heap v vs xss :=
  ⟨h.sl.later hb, h.len, fun i hi => (h.row i hi).later hb⟩
theorem Rws.slen {h : Array Obj} {v : Value} {vs : List Value} {xss : List (List Int)} (hs : Rws h v vs xss) : SlLen v xss.length := by
  have := hs.sl.len
  rwa [hs.len] at this

section
variable {P : Program} {n : Nat} {m : Env} {w : World} {ops : Array Oper} {md : Nat} {K : Env → World → Prop} {l : List Oper}
theorem T_lenS {d : Nat} {x : Operand} {t e : TypeId} {sz byt : Nat} {z : Value} {ty : TypeId} {pos : String} {af : Array Edge} {v : Value} {vs : List Value} {xss : List (List Int)} {hp : Array Obj} (hT : STy P t e sz byt z) (hx : ev m x = some v) (hd : Nat.blt d n = true) (hv : Rws hp v vs xss)
    (h : T P n ops md K l ((d, .int .i64 (xss.length : Int)) :: m) w) : T P n ops md K (⟨some d, .call ⟨.builtin .len, #[x], #[t]⟩, ty, pos, af, none⟩ :: l) m w := T_len hT hx hd hv.slen h
theorem T_indexS {d : Nat} {x ix : Operand} {t e : TypeId} {byt : Nat} {z : Value} {ty : TypeId} {pos : String} {af : Array Edge} {v : Value} {vs : List Value} {xss : List (List Int)} {hp : Array Obj} {i : Nat} (hT : STy P t e 1 byt z)
    (hx : ev m x = some v) (hi : ev m ix = some (.int .i64 (i : Int))) (hd : Nat.blt d n = true) (hS : Rws hp v vs xss) (hr : i < xss.length)
    (h : T P n ops md K l ((d, ePtr v i) :: m) w) : T P n ops md K (⟨some d, .indexAddr t x ix, ty, pos, af, none⟩ :: l) m w :=
  T_index hT hx hi hd hS.sl (by have := hS.len; omega) (by simpa using h)
theorem T_indexSI {d : Nat} {x ix : Operand} {t e : TypeId} {byt : Nat} {z : Value} {ty : TypeId} {pos : String} {af : Array Edge} {v : Value} {vs : List Value} {xss : List (List Int)} {hp : Array Obj} {i : Int} (hT : STy P t e 1 byt z)
    (hx : ev m x = some v) (hi : ev m ix = some (.int .i64 i)) (hd : Nat.blt d n = true) (hS : Rws hp v vs xss) (hr : 0 ≤ i ∧ i < (xss.length : Int))
    (h : T P n ops md K l ((d, ePtr v i.toNat) :: m) w) : T P n ops md K (⟨some d, .indexAddr t x ix, ty, pos, af, none⟩ :: l) m w :=
  T_index hT hx hi hd hS.sl (by have := hS.len; omega) (by simpa using h)
theorem T_loadRow {d : Nat} {x : Operand} {t ty : TypeId} {pos : String} {af : Array Edge} {v : Value} {vs : List Value} {xss : List (List Int)} {j : Nat} (ht : ∀ w, (isAgg t).run P w = .ok false w) (hx : ev m x = some (ePtr v j)) (hd : Nat.blt d n = true)
    (hS : Rws w.heap v vs xss) (hj : j < xss.length) (h : T P n ops md K l ((d, vs.getD j nilV) :: m) w) (hmd : Nat.blt md 4 = true := by rfl) : T P n ops md K (⟨some d, .load t x, ty, pos, af, none⟩ :: l) m w :=
  T_loadS ht hx hd hS.sl (by
    have hl : j < vs.length := by rw [hS.len]; exact hj
    simp [List.getD_eq_getElem?_getD, hl]) h hmd
end

/-! ### Loads while block b may be written -/
theorem cellAt_stay {b : Nat} {w w' : World} (hs : Stay b (b + 1) w w') {a : Addr} {v : Value} (h : cellAt w.heap a = some v) (hne : a.block ≠ b) : cellAt w'.heap a = some v := by
  rw [cellAt_block (hs.block _ (cellAt_lt h) (by omega))]; exact h
theorem block_add (a : Addr) (i : Nat) : (a.add i).block = a.block := by unfold Addr.add; split <;> rfl
section
variable {P : Program} {n b : Nat} {m : Env} {w : World} {ops : Array Oper} {K : Env → World → Prop} {l : List Oper}
theorem T_loadS4 {d : Nat} {x : Operand} {t ty : TypeId} {pos : String} {af : Array Edge} {v u : Value} {sz k j : Nat} {cs : List Value} (ht : ∀ w, (isAgg t).run P w = .ok false w) (hx : ev m x = some (ePtr v j)) (hd : Nat.blt d n = true)
    (hS : Sl w.heap sz v k cs) (hj : cs[j]? = some u) (hne : v.ownBlock ≠ some b) (h : T P n ops (b + 4) K l ((d, u) :: m) w) : T P n ops (b + 4) K (⟨some d, .load t x, ty, pos, af, none⟩ :: l) m w := by
  obtain ⟨_, ao, cap, rfl, _, hc⟩ := hS
  obtain ⟨a, rfl, hc'⟩ := hc j u hj
  refine T_val hd (fun a' ha w' hb => ?_) h
  have h1 := cellAt_stay (b := b) hb hc' (by rw [block_add]; intro e; exact hne (by simp [Value.ownBlock, e]))
  simp [execOp, ha.eval hx, ePtr, run_load ht h1]
theorem T_loadI4 {d : Nat} {x : Operand} {t ty : TypeId} {pos : String} {af : Array Edge} {v : Value} {j : Nat} {xs : List Int} (ht : ∀ w, (isAgg t).run P w = .ok false w) (hx : ev m x = some (ePtr v j)) (hd : Nat.blt d n = true)
    (hS : Ints w.heap v xs) (hj : j < xs.length) (hne : v.ownBlock ≠ some b) (h : T P n ops (b + 4) K l ((d, .int .i64 (xs.getD j 0)) :: m) w) : T P n ops (b + 4) K (⟨some d, .load t x, ty, pos, af, none⟩ :: l) m w :=
  T_loadS4 ht hx hd hS (by simp [hj]) hne h
theorem T_loadRow4 {d : Nat} {x : Operand} {t ty : TypeId} {pos : String} {af : Array Edge} {v : Value} {vs : List Value} {xss : List (List Int)} {j : Nat} (ht : ∀ w, (isAgg t).run P w = .ok false w) (hx : ev m x = some (ePtr v j)) (hd : Nat.blt d n = true)
    (hS : Rws w.heap v vs xss) (hj : j < xss.length) (hne : v.ownBlock ≠ some b) (h : T P n ops (b + 4) K l ((d, vs.getD j nilV) :: m) w) : T P n ops (b + 4) K (⟨some d, .load t x, ty, pos, af, none⟩ :: l) m w :=
  T_loadS4 ht hx hd hS.sl (by
    have hl : j < vs.length := by rw [hS.len]; exact hj
    simp [List.getD_eq_getElem?_getD, hl]) hne h
end
theorem Blk.not_some {v : Value} {lo hi b : Nat} (h : Blk v lo hi) (hb : hi ≤ b ∨ b < lo) : v.ownBlock ≠ some b := fun e => by have := h b e; omega

/-- Slices of slices that the call owns, row apart from row. -/
structure OwnSS (w : World) (B : Nat) (eo ei : TypeId) (v : Value) (vs : List Value) (xss : List (List Int)) : Prop where
  own : w.ownsRow B eo 1 v vs.length vs
  len : vs.length = xss.length
  row : ∀ i, i < xss.length → OwnI w B ei (vs.getD i nilV) (xss.getD i [])
  apart : ∀ i j, i < j → j < xss.length → (vs.getD i nilV).ownBlock = none ∨ (vs.getD i nilV).ownBlock ≠ (vs.getD j nilV).ownBlock
  outer : ∀ i, i < xss.length → (vs.getD i nilV).ownBlock = none ∨ (vs.getD i nilV).ownBlock ≠ v.ownBlock

theorem OwnSS.rows {w : World} {B : Nat} {eo ei : TypeId} {v : Value} {vs : List Value} {xss : List (List Int)} (h : OwnSS w B eo ei v vs xss) : Rws w.heap v vs xss :=
  ⟨Sl.of_own h.own, h.len, fun i hi => (h.row i hi).ints⟩
theorem OwnSS.later {w w' : World} {B : Nat} {eo ei : TypeId} {v : Value} {vs : List Value} {xss : List (List Int)} (h : OwnSS w B eo ei v vs xss) (hb : Below w.heap.size w w') : OwnSS w' B eo ei v vs xss :=
  ⟨own_later h.own hb, h.len, fun i hi => (h.row i hi).later hb, h.apart, h.outer⟩
theorem OwnSS.base {w : World} {B B' : Nat} {eo ei : TypeId} {v : Value} {vs : List Value} {xss : List (List Int)} (h : OwnSS w B eo ei v vs xss) (hB : B' ≤ B) : OwnSS w B' eo ei v vs xss :=
  ⟨own_base h.own hB, h.len, fun i hi => (h.row i hi).base hB, h.apart, h.outer⟩
theorem OwnSS.nil (w : World) (B : Nat) (eo ei : TypeId) : OwnSS w B eo ei (.slice none 0 0) [] [] :=
  ⟨World.ownsRow_nil w B eo 1, rfl, fun i hi => by simp at hi, fun i j _ hj => by simp at hj, fun i hi => by simp at hi⟩

/-- All of it lies in a range of blocks. -/
def BlkS (v : Value) (vs : List Value) (lo hi : Nat) : Prop := Blk v lo hi ∧ ∀ i, Blk (vs.getD i nilV) lo hi
theorem OwnSS.blk {w : World} {B : Nat} {eo ei : TypeId} {v : Value} {vs : List Value} {xss : List (List Int)} (h : OwnSS w B eo ei v vs xss) : BlkS v vs B w.heap.size := by
  refine ⟨own_blk h.own, fun i => ?_⟩
  by_cases hi : i < xss.length
  · exact (h.row i hi).blk
  · intro b hb
    rw [List.getD_eq_getElem?_getD, List.getElem?_eq_none (by rw [h.len]; omega)] at hb
    cases hb
theorem OwnSS.stay {w w' : World} {B : Nat} {eo ei : TypeId} {v : Value} {vs : List Value} {xss : List (List Int)} {lo hi a b : Nat} (h : OwnSS w B eo ei v vs xss) (hs : Stay lo hi w w') (hb : BlkS v vs a b) (hd : b ≤ lo ∨ hi ≤ a) : OwnSS w' B eo ei v vs xss :=
  ⟨own_stay h.own hs hb.1 hd, h.len, fun i hi => (h.row i hi).stay hs (hb.2 i) hd, h.apart, h.outer⟩
theorem OwnSS.kept {w w' : World} {B : Nat} {eo ei : TypeId} {v : Value} {vs : List Value} {xss : List (List Int)} {u : Value} {lo hi a b : Nat} (h : OwnSS w B eo ei v vs xss) (hg : w.grownBy w' u.ownBlock) (hu : Blk u lo hi) (hb : BlkS v vs a b) (hd : b ≤ lo ∨ hi ≤ a) : OwnSS w' B eo ei v vs xss :=
  h.stay (Stay.of_grown hg hu) hb hd

theorem getD_append_left {α : Type} {xs ys : List α} {d : α} {i : Nat} (h : i < xs.length) : (xs ++ ys).getD i d = xs.getD i d := by
  rw [List.getD_eq_getElem?_getD, List.getElem?_append_left h, ← List.getD_eq_getElem?_getD]
theorem getD_append_right {α : Type} {xs ys : List α} {d : α} {i : Nat} (h : xs.length ≤ i) : (xs ++ ys).getD i d = ys.getD (i - xs.length) d := by
  rw [List.getD_eq_getElem?_getD, List.getElem?_append_right h, ← List.getD_eq_getElem?_getD]

section
variable {P : Program} {n : Nat} {m : Env} {w : World} {ops : Array Oper} {md : Nat} {K : Env → World → Prop} {l : List Oper}

/-- append of slices of slices: the rows of u were made behind those of v -/
theorem T_appendSS {d : Nat} {x y : Operand} {t eo ei : TypeId} {byt : Nat} {z : Value} {ty : TypeId} {pos : String} {af : Array Edge} {B N : Nat} {v u : Value} {vs us : List Value} {xss yss : List (List Int)} (hT : STy P t eo 1 byt z) (hx : ev m x = some v) (hy : ev m y = some u) (hd : Nat.blt d n = true)
    (hO : OwnSS w B eo ei v vs xss) (hU : OwnSS w N eo ei u us yss) (hN : BlkS v vs B N) (hBN : B ≤ N) (hB : B ≤ w.heap.size) (hb : (xss.length + yss.length) * byt ≤ 140737488355328) (h63 : xss.length + yss.length ≤ 9223372036854775807)
    (h : ∀ v' w', OwnSS w' B eo ei v' (vs ++ us) (xss ++ yss) → w.grownBy w' v.ownBlock → (v'.ownBlock = v.ownBlock ∨ v'.ownBlock = some w.heap.size) → T P n ops 0 K l ((d, v') :: m) w') :
    T P n ops 0 K (⟨some d, .call ⟨.builtin .append, #[x, y], #[t, t]⟩, ty, pos, af, none⟩ :: l) m w := by
  have hone : ∀ q ∈ us, q.oneCell' = true := by
    intro q hq
    obtain ⟨i, hi, rfl⟩ := List.getElem_of_mem hq
    have hr := hU.row i (by rw [← hU.len]; exact hi)
    rw [List.getD_eq_getElem?_getD, List.getElem?_eq_getElem hi] at hr
    simp only [Option.getD_some] at hr
    rcases hr.2 with ⟨e, _⟩ | ⟨g, c, cu, e, _⟩ <;> rw [e] <;> rfl
  refine T_append hT hx hy hd hO.own (Sl.of_own hU.own) hone hB (by rw [hO.len, hU.len]; exact hb) (by simp only [maxLen]; rw [hO.len, hU.len]; omega) (fun v' w' h1 h2 h3 => h v' w' ?_ h2 h3)
  have hl1 := hO.len
  have hl2 := hU.len
  have hbu := hU.blk
  have hbv := hO.blk
  have keepV : ∀ i, i < xss.length → OwnI w' B ei (vs.getD i nilV) (xss.getD i []) := fun i hi =>
    (hO.row i hi).kept h2 (hO.outer i hi)
  have keepU : ∀ i, i < yss.length → OwnI w' B ei (us.getD i nilV) (yss.getD i []) := fun i hi =>
    ((hU.row i hi).kept h2 ((hbu.2 i).ne hN.1 (by omega))).base hBN
  have newV : ∀ (q : Value) (lo : Nat), Blk q lo w.heap.size → (q.ownBlock = none ∨ q.ownBlock ≠ v.ownBlock) → (q.ownBlock = none ∨ q.ownBlock ≠ v'.ownBlock) := fun q lo hq hne => by
    rcases h3 with h3 | h3
    · rw [h3]; exact hne
    · rw [h3]; exact hq.ne_some (.inl (Nat.le_refl _))
  refine ⟨by simpa using h1, by simp [hl1, hl2], fun i hi => ?_, fun i j hij hj => ?_, fun i hi => ?_⟩
  · by_cases e : i < xss.length
    · rw [getD_append_left (by omega), getD_append_left e]; exact keepV i e
    · rw [getD_append_right (by omega), getD_append_right (by omega), hl1]
      exact keepU _ (by simp at hi; omega)
  · by_cases ej : j < xss.length
    · rw [getD_append_left (by omega), getD_append_left (by omega)]
      exact hO.apart i j hij ej
    · by_cases ei' : i < xss.length
      · rw [getD_append_left (by omega), getD_append_right (by omega), hl1]
        exact (hN.2 i).ne (hbu.2 _) (.inl (Nat.le_refl _))
      · rw [getD_append_right (by omega), getD_append_right (by omega), hl1]
        exact hU.apart _ _ (by omega) (by simp at hj; omega)
  · by_cases e : i < xss.length
    · rw [getD_append_left (by omega)]
      exact newV _ _ (hbv.2 i) (hO.outer i e)
    · rw [getD_append_right (by omega), hl1]
      exact newV _ _ (hbu.2 _) ((hbu.2 _).ne hN.1 (by omega))

/-- a literal of one row, as append lays it -/
theorem T_litS {d : Nat} {x : Operand} {t eo ei : TypeId} {byt : Nat} {z : Value} {ty : TypeId} {pos : String} {af : Array Edge} {N : Nat} {r : Value} {xs : List Int} (hT : STy P t eo 1 byt z) (hx : ev m x = some r) (hd : Nat.blt d n = true) (hR : OwnI w N ei r xs) (hN : N ≤ w.heap.size)
    (h : ∀ v w', OwnSS w' N eo ei v [r] [xs] → v.ownBlock = some w.heap.size → w.heap.size < w'.heap.size → Below w.heap.size w w' → T P n ops 0 K l ((d, v) :: m) w') :
    T P n ops 0 K (⟨some d, .buildSlice t 1 #[(0, x)], ty, pos, af, none⟩ :: l) m w := by
  have hp : evParts m 0 [(0, x)] = some [r] := by simp [evParts, hx]
  have hr : r.cells = #[r] := by rcases hR.2 with ⟨e, _⟩ | ⟨g, c, cu, e, _⟩ <;> rw [e] <;> rfl
  refine T_lit (ps := [(0, x)]) hT hp rfl hd (by intro v hv; simp at hv; subst hv; simp [hr]) (by omega) (fun v w' h1 h2 h3 h4 => h v w' ?_ h2 h3 h4)
  have h1' : w'.ownsRow w.heap.size eo 1 v 1 [r] := by simpa [hr] using h1
  refine ⟨own_base h1' hN, rfl, fun i hi => ?_, fun i j hij hj => by simp at hj; omega, fun i hi => ?_⟩
  · have : i = 0 := by simp at hi; omega
    subst this
    simpa using hR.later h4
  · have : i = 0 := by simp at hi; omega
    subst this
    rw [h2]
    simpa using hR.blk.ne_some (.inl (Nat.le_refl _))
/-- an empty literal -/
theorem T_lit0S {d : Nat} {t eo : TypeId} (ei : TypeId) {byt : Nat} {z : Value} {ty : TypeId} {pos : String} {af : Array Edge} (hT : STy P t eo 1 byt z) (hd : Nat.blt d n = true)
    (h : ∀ v w', OwnSS w' w.heap.size eo ei v [] [] → v.ownBlock = some w.heap.size → w.heap.size < w'.heap.size → Below w.heap.size w w' → T P n ops 0 K l ((d, v) :: m) w') :
    T P n ops 0 K (⟨some d, .buildSlice t 0 #[], ty, pos, af, none⟩ :: l) m w :=
  T_lit (ps := []) hT (vs := []) rfl rfl hd (by simp) (by omega) (fun v w' h1 h2 h3 h4 => h v w' ⟨by simpa using h1, rfl, fun i hi => by simp at hi, fun i j _ hj => by simp at hj, fun i hi => by simp at hi⟩ h2 h3 h4)

theorem ne_swap {a b : Option Nat} (h : a = none ∨ a ≠ b) : b = none ∨ b ≠ a := by
  rcases h with h | h
  · cases b
    · exact .inl rfl
    · right; rw [h]; simp
  · exact .inr (fun e => h e.symm)
theorem getD_set {α : Type} {xs : List α} {i a : Nat} {y d : α} (hi : i < xs.length) : (xs.set i y).getD a d = if a = i then y else xs.getD a d := by
  by_cases e : a = i
  · subst e; rw [if_pos rfl, List.getD_eq_getElem?_getD, List.getElem?_set_self hi]; rfl
  · rw [if_neg e, List.getD_eq_getElem?_getD, List.getElem?_set_ne (by omega), ← List.getD_eq_getElem?_getD]
/-- one row is written -/
theorem OwnSS.wrote {w w' : World} {B : Nat} {eo ei : TypeId} {v : Value} {vs : List Value} {xss : List (List Int)} {i : Nat} {ys : List Int} (hO : OwnSS w B eo ei v vs xss) (hi : i < xss.length) (h1 : OwnI w' B ei (vs.getD i nilV) ys) (h2 : w.grownBy w' (vs.getD i nilV).ownBlock) : OwnSS w' B eo ei v vs (xss.set i ys) := by
  refine ⟨World.ownsRow.kept hO.own h2 (ne_swap (hO.outer i hi)), by simp [hO.len], fun a ha => ?_, fun a b hab hb => hO.apart a b hab (by simpa using hb), fun a ha => hO.outer a (by simpa using ha)⟩
  have ha' : a < xss.length := by simpa using ha
  rw [getD_set hi]
  by_cases e : a = i
  · subst e; rw [if_pos rfl]; exact h1
  · rw [if_neg e]
    refine (hO.row a ha').kept h2 ?_
    rcases Nat.lt_or_ge a i with h4 | h4
    · exact hO.apart a i h4 hi
    · exact ne_swap (hO.apart i a (by omega) ha')
/-- a store into one cell of a row -/
theorem T_storeSS {x y : Operand} {t ty : TypeId} {pos : String} {af : Array Edge} {B : Nat} {eo ei : TypeId} {v : Value} {vs : List Value} {xss : List (List Int)} {i j : Nat} {q : Int} (hs : ∀ w, (sizeOf t).run P w = .ok 1 w) (hx : ev m x = some (ePtr (vs.getD i nilV) j)) (hy : ev m y = some (.int .i64 q))
    (hO : OwnSS w B eo ei v vs xss) (hi : i < xss.length) (hj : j < (xss.getD i []).length)
    (h : ∀ w', OwnSS w' B eo ei v vs (xss.set i ((xss.getD i []).set j q)) → w.grownBy w' (vs.getD i nilV).ownBlock → w'.heap.size = w.heap.size → T P n ops 0 K l m w') :
    T P n ops 0 K (⟨none, .store t x y, ty, pos, af, none⟩ :: l) m w :=
  T_storeI hs hx hy (hO.row i hi) hj (fun w' h1 h2 h3 => h w' (hO.wrote hi h1 h2) h2 h3)
/-- a new row is laid into a place of the outer slice -/
theorem T_storeRow {x y : Operand} {t ty : TypeId} {pos : String} {af : Array Edge} {B N : Nat} {eo ei : TypeId} {v r : Value} {vs : List Value} {xss : List (List Int)} {xs : List Int} {i : Nat} (hs : ∀ w, (sizeOf t).run P w = .ok 1 w) (hx : ev m x = some (ePtr v i)) (hy : ev m y = some r)
    (hO : OwnSS w B eo ei v vs xss) (hR : OwnI w N ei r xs) (hN : BlkS v vs B N) (hBN : B ≤ N) (hi : i < xss.length)
    (h : ∀ w', OwnSS w' B eo ei v (vs.set i r) (xss.set i xs) → w.grownBy w' v.ownBlock → w'.heap.size = w.heap.size → T P n ops 0 K l m w') :
    T P n ops 0 K (⟨none, .store t x y, ty, pos, af, none⟩ :: l) m w := by
  have h1 : r.oneCell' = true := by rcases hR.2 with ⟨e, _⟩ | ⟨g, c, cu, e, _⟩ <;> rw [e] <;> rfl
  have hl := hO.len
  have hbr := hR.blk
  refine T_storeOwn hs hx hy h1 hO.own (by omega) (fun w' a1 a2 a3 => h w' ⟨by simpa using a1, by simp [hl], fun a ha => ?_, fun a b hab hb => ?_, fun a ha => ?_⟩ a2 a3)
  · have ha' : a < xss.length := by simpa using ha
    rw [getD_set hi, getD_set (by omega)]
    by_cases e : a = i
    · rw [if_pos e, if_pos e]
      exact (hR.kept a2 (hbr.ne hN.1 (.inr (Nat.le_refl _)))).base hBN
    · rw [if_neg e, if_neg e]
      exact (hO.row a ha').kept a2 (hO.outer a ha')
  · have hb' : b < xss.length := by simpa using hb
    rw [getD_set (by omega), getD_set (by omega)]
    by_cases e : a = i
    · rw [if_pos e, if_neg (by omega)]
      exact hbr.ne (hN.2 b) (.inr (Nat.le_refl _))
    · rw [if_neg e]
      by_cases e2 : b = i
      · rw [if_pos e2]; exact (hN.2 a).ne hbr (.inl (Nat.le_refl _))
      · rw [if_neg e2]; exact hO.apart a b hab hb'
  · have ha' : a < xss.length := by simpa using ha
    rw [getD_set (by omega)]
    by_cases e : a = i
    · rw [if_pos e]; exact hbr.ne hN.1 (.inr (Nat.le_refl _))
    · rw [if_neg e]; exact hO.outer a ha'
theorem getD_replicate {α : Type} {k i : Nat} {d : α} : (List.replicate k d).getD i d = d := by
  rw [List.getD_eq_getElem?_getD]
  by_cases h : i < k <;> simp [h]
/-- make of a slice of slices -/
theorem T_makeSS {d : Nat} {x y : Operand} {t eo : TypeId} (ei : TypeId) {byt : Nat} {ty : TypeId} {pos : String} {af : Array Edge} {i : Int} (hT : STy P t eo 1 byt (.slice none 0 0)) (hx : ev m x = some (.int .i64 i)) (hy : ev m y = some (.int .i64 i)) (hd : Nat.blt d n = true)
    (hr : 0 ≤ i ∧ (byt : Int) * i ≤ 281474976710656 ∧ i ≤ 9223372036854775807)
    (h : ∀ v w', OwnSS w' w.heap.size eo ei v (List.replicate i.toNat nilV) (List.replicate i.toNat []) → v.ownBlock = some w.heap.size → w.heap.size < w'.heap.size → Below w.heap.size w w' → T P n ops 0 K l ((d, v) :: m) w') :
    T P n ops 0 K (⟨some d, .makeSlice t x y, ty, pos, af, none⟩ :: l) m w :=
  T_make hT hx hy hd hr (fun v w' h1 h2 h3 h4 => h v w' (by
    rw [madeCells_one _ _ (by rfl)] at h1
    refine ⟨by simpa [nilV] using h1, by simp, fun a ha => ?_, fun a b _ _ => .inl ?_, fun a _ => .inl ?_⟩
    · rw [getD_replicate, getD_replicate]; exact OwnI.nil _ _ _
    · rw [getD_replicate]; rfl
    · rw [getD_replicate]; rfl) h2 h3 h4)

/-- '== nil' of a slice -/
theorem T_eqNil {d : Nat} {x : Operand} {t e ty t' : TypeId} {pos : String} {af : Array Edge} {v : Value} {ao : Option Addr} {k c : Nat} (ht : P.underlying t = some (.slice e)) (hx : ev m x = some v) (hv : v = .slice ao k c) (hd : Nat.blt d n = true)
    (h : T P n ops md K l ((d, .bool ao.isNone) :: m) w) : T P n ops md K (⟨some d, .binOp .eql t x (.const (.slice none 0 0)) t', ty, pos, af, none⟩ :: l) m w := by
  subst hv
  refine T_val hd (fun a ha w' _ => ?_) h
  have h1 : a.eval (.const (.slice none 0 0)) = .slice none 0 0 := rfl
  have h2 : ∀ d, (Op.equalIn (d + 1) t (.slice ao k c) (.slice none 0 0)).run P w' = .ok ao.isNone w' := fun d => by
    cases ao <;> simp [Op.equalIn, run_underlying ht]
  simp [execOp, ha.eval hx, h1, eqGuard, binOp, Op.equal, Op.maxDepth, h2 9999]
end
end Go.PR
