/-
  Structs in the walks: boxes of an earlier world, new struct variables, results in cells, a whole record into a row. No condition.
-/
import Derived.Test.YtnecmchcemnopaaHeld
import Derived.Test.YtnecmchcemnopaaMem5
namespace Go.PR
open Go Go.RowKit

theorem put_step (xs r : List Value) (u : Value) (p : Nat) (h : p < xs.length) : (xs.set p u).take (p + 1) ++ r ++ (xs.set p u).drop (p + 1 + r.length) = xs.take p ++ (u :: r) ++ xs.drop (p + (r.length + 1)) := by
  have h1 : (xs.set p u).take (p + 1) = xs.take p ++ [u] := by
    rw [List.take_succ_eq_append_getElem (by simpa using h), List.take_set_of_le (Nat.le_refl _)]
    simp
  have h2 : (xs.set p u).drop (p + 1 + r.length) = xs.drop (p + (r.length + 1)) := by
    rw [show p + 1 + r.length = p + (r.length + 1) by omega]
    apply List.ext_getElem?
    intro q
    rw [List.getElem?_drop, List.getElem?_drop, List.getElem?_set_ne (by omega)]
  rw [h1, h2]
  simp

/-- a whole record into a row of the call's own -/
theorem run_storeCells_own {P : Program} {B : Nat} {e : TypeId} {sz k g cap j : Nat} : ∀ (us : List Value) (i : Nat) (cs : List Value) (w : World), w.ownsRow B e sz (.slice (some ⟨g, 0, none⟩) k cap) k cs → j + i + us.length ≤ cs.length → (∀ u ∈ us, u.oneCell' = true) →
    ∃ w', (storeCells ((⟨g, 0, none⟩ : Addr).add j) us i).run P w = .ok () w' ∧ w'.ownsRow B e sz (.slice (some ⟨g, 0, none⟩) k cap) k (cs.take (j + i) ++ us ++ cs.drop (j + i + us.length)) ∧ w.grownBy w' (some g) ∧ w'.heap.size = w.heap.size
  | [], i, cs, w, hO, _, _ => ⟨w, by simp [storeCells], by simpa using hO, grown_refl _ _, rfl⟩
  | u :: r, i, cs, w, hO, hl, h1 => by
    have hlt : j + i < cs.length := by simp at hl; omega
    have ea : (((⟨g, 0, none⟩ : Addr).add j).add i) = ⟨g, j + i, none⟩ := by
      rw [add_add]; unfold Addr.add; split <;> simp_all
    have hc := hO.cells (g := g) rfl (j + i) cs[j + i] (by simp [hlt])
    have eb : ((⟨g, 0, none⟩ : Addr).add (j + i)) = ⟨g, j + i, none⟩ := by unfold Addr.add; split <;> simp_all
    rw [eb] at hc
    have hst := hO.stored (j + i) u
    have hf := hO.frozenAt (j + i)
    obtain ⟨w', e1, e2, e3, e4⟩ := run_storeCells_own (P := P) (j := j) r (i + 1) (cs.set (j + i) u) (w.setCell ⟨g, j + i, none⟩ u) hst.1 (by simp at hl ⊢; omega) (fun q hq => h1 q (by simp [hq]))
    have hgs : w.grownBy (w.setCell ⟨g, j + i, none⟩ u) (some g) := hst.2
    refine ⟨w', ?_, ?_, grown_trans hgs e3, by rw [e4]; simp [World.setCell]⟩
    · have := h1 u (by simp)
      cases u <;> simp [Value.oneCell'] at this <;> simp [storeCells, store, Sem.run, ea, hc, hf, e1]
    · rw [← Nat.add_assoc, put_step _ _ _ _ hlt] at e2
      simpa using e2

section
variable {P : Program} {n : Nat} {m : Env} {w : World} {ops : Array Oper} {md : Nat} {K : Env → World → Prop} {l : List Oper}

/-- one cell of a box of an earlier world -/
theorem T_loadBoxB {d : Nat} {x : Operand} {t ty : TypeId} {pos : String} {af : Array Edge} {b off : Nat} {cs : List Value} {v : Value} {w0 : World} (ht : ∀ w, (isAgg t).run P w = .ok false w) (hx : ev m x = some (bPtr b off)) (hd : Nat.blt d n = true)
    (hB : Box w0.heap b cs) (hb : Below w0.heap.size w0 w) (hv : cs[off]? = some v) (h : T P n ops md K l ((d, v) :: m) w) (hmd : Nat.blt md 4 = true := by rfl) : T P n ops md K (⟨some d, .load t x, ty, pos, af, none⟩ :: l) m w :=
  T_loadBox ht hx hd (hB.later hb) hv h hmd
theorem T_loadBoxAB {d : Nat} {x : Operand} {t ty : TypeId} {pos : String} {af : Array Edge} {b q : Nat} {cs : List Value} {w0 : World} (ht : ∀ w, (isAgg t).run P w = .ok true w) (hs : ∀ w, (sizeOf t).run P w = .ok q w) (hx : ev m x = some (bPtr b 0)) (hd : Nat.blt d n = true)
    (hB : Box w0.heap b cs) (hb : Below w0.heap.size w0 w) (hq : cs.length = q) (h : T P n ops md K l ((d, .agg cs.toArray) :: m) w) (hmd : Nat.blt md 4 = true := by rfl) : T P n ops md K (⟨some d, .load t x, ty, pos, af, none⟩ :: l) m w :=
  T_loadBoxA ht hs hx hd (hB.later hb) hq h hmd
/-- a new struct variable, and what it holds -/
theorem T_new {d q : Nat} {y : Operand} {t ty ty' t' : TypeId} {pos pos' : String} {af af' : Array Edge} {z : Value} {us : List Value} (hz : ∀ w, (zeroValue t).run P w = .ok z w) (hs : ∀ w, (sizeOf t').run P w = .ok q w) (hzl : z.cells.toList.length = us.length) (hy : ∀ u, ev ((d, u) :: m) y = some (.agg us.toArray)) (hd : Nat.blt d n = true)
    (hq : us.length = q) (h1 : ∀ u ∈ us, u.oneCell' = true) (h : ∀ b w', w.heap.size ≤ b → Box w'.heap b us → Below w.heap.size w w' → T P n ops 0 K l ((d, bPtr b 0) :: m) w') :
    T P n ops 0 K (⟨some d, .alloc t, ty, pos, af, none⟩ :: ⟨none, .store t' (.tmp d) y, ty', pos', af', none⟩ :: l) m w :=
  T_alloc hz hd (fun b w1 hb hx hB => T_storeBoxA hs (get_cons_same d _ m) (hy _) hq h1 hx hzl (fun w2 hx2 hg _ => h b w2 hb hx2 (hB.grown hg hB.size (fun c hc => by simp at hc; omega))))

/-- a whole record of the call's own is written -/
theorem T_storeRA {α : Type} {r : Rec α} {x y : Operand} {t ty : TypeId} {pos : String} {af : Array Edge} {B : Nat} {e : TypeId} {v : Value} {i : Nat} {xs : List α} {a' : α} (hs : ∀ w, (sizeOf t).run P w = .ok r.k w) (hx : ev m x = some (ePtr v (i * r.k))) (hy : ev m y = some (.agg (r.enc a').toArray))
    (hO : OwnR r w B e v xs) (hi : i < xs.length)
    (h : ∀ w', OwnR r w' B e v (xs.set i a') → w.grownBy w' v.ownBlock → w'.heap.size = w.heap.size → T P n ops 0 K l m w') :
    T P n ops 0 K (⟨none, .store t x y, ty, pos, af, none⟩ :: l) m w := by
  intro a ha
  refine wpList_plain rfl fun K' hK => ?_
  have hr := r.pos
  have hlen : (xs.flatMap r.enc).length = xs.length * r.k := flat_length r.enc r.k r.len xs
  rcases hO.2 with ⟨rfl, he⟩ | ⟨g, cap, cur, hv, hb, hg, hrest⟩
  · exfalso
    omega
  have hO' : w.ownsRow B e r.k (.slice (some ⟨g, 0, none⟩) xs.length cap) xs.length (xs.flatMap r.enc) := by rw [← hv]; exact hO
  have hle : i * r.k + 0 + (r.enc a').length ≤ (xs.flatMap r.enc).length := by
    rw [hlen, r.len, Nat.add_zero, ← Nat.succ_mul]; exact Nat.mul_le_mul_right _ hi
  obtain ⟨w', e1, e2, e3, e4⟩ := run_storeCells_own (P := P) (j := i * r.k) (r.enc a') 0 _ w hO' hle (r.one a')
  have h2 : (execOp a.eval ⟨none, .store t x y, ty, pos, af, none⟩).run P w = .ok .skip w' := by
    simp [execOp, ha.eval hx, ha.eval hy, hv, ePtr, Instr.storeAt, Instr.sureAddr, storeVar, Value.cells, hs, r.len, e1]
  unfold Oper.wp
  rw [h2]
  refine hK _ _ (h w' ?_ (by rw [hv]; exact e3) e4 _ ha)
  unfold OwnR
  rw [List.length_set, hv]
  rw [Nat.add_zero, r.len] at e2
  have el : (xs.set i a').flatMap r.enc = (xs.flatMap r.enc).take (i * r.k) ++ r.enc a' ++ (xs.flatMap r.enc).drop (i * r.k + r.k) := by
    have h3 : xs.set i a' = xs.take i ++ a' :: xs.drop (i + 1) := by
      rw [List.set_eq_take_append_cons_drop, if_pos hi]
    have h4 : xs.flatMap r.enc = (xs.take i).flatMap r.enc ++ (xs.drop i).flatMap r.enc := by rw [← List.flatMap_append, List.take_append_drop]
    have h5 : xs.flatMap r.enc = (xs.take (i + 1)).flatMap r.enc ++ (xs.drop (i + 1)).flatMap r.enc := by rw [← List.flatMap_append, List.take_append_drop]
    have l1 : ((xs.take i).flatMap r.enc).length = i * r.k := by rw [flat_length r.enc r.k r.len, List.length_take, Nat.min_eq_left (by omega)]
    have l2 : ((xs.take (i + 1)).flatMap r.enc).length = (i + 1) * r.k := by rw [flat_length r.enc r.k r.len, List.length_take, Nat.min_eq_left (by omega)]
    rw [h3, List.flatMap_append, List.flatMap_cons, ← Nat.succ_mul]
    have t1 : (xs.flatMap r.enc).take (i * r.k) = (xs.take i).flatMap r.enc := by rw [h4, ← l1, List.take_left']; rfl
    have t2 : (xs.flatMap r.enc).drop ((i + 1) * r.k) = (xs.drop (i + 1)).flatMap r.enc := by rw [h5, ← l2, List.drop_left']; rfl
    rw [t1, Nat.succ_eq_add_one, t2]
    simp
  rw [el]
  exact e2
/-- make of a slice of records -/
theorem T_makeR {α : Type} {r : Rec α} {d : Nat} {x y : Operand} {t e : TypeId} {byt : Nat} {z : Value} {ty : TypeId} {pos : String} {af : Array Edge} {i : Int} (hT : STy P t e r.k byt z) (hz : z.cells.toList = List.replicate r.k (.int .i64 0)) (hz2 : r.enc r.zero = List.replicate r.k (.int .i64 0)) (hx : ev m x = some (.int .i64 i)) (hy : ev m y = some (.int .i64 i)) (hd : Nat.blt d n = true)
    (hr : 0 ≤ i ∧ (byt : Int) * i ≤ 281474976710656 ∧ i ≤ 9223372036854775807)
    (h : ∀ v w', OwnR r w' w.heap.size e v (List.replicate i.toNat r.zero) → v.ownBlock = some w.heap.size → w.heap.size < w'.heap.size → Below w.heap.size w w' → T P n ops 0 K l ((d, v) :: m) w') :
    T P n ops 0 K (⟨some d, .makeSlice t x y, ty, pos, af, none⟩ :: l) m w :=
  T_make hT hx hy hd hr (fun v w' h1 h2 h3 h4 => h v w' (by
    unfold OwnR
    have e1 : (List.replicate i.toNat r.zero).flatMap r.enc = (madeCells z.cells (i.toNat * r.k)).toList := by
      have a1 : ∀ q : Nat, (List.replicate q r.zero).flatMap r.enc = List.replicate (q * r.k) (.int .i64 0) := by
        intro q
        induction q with
        | zero => simp
        | succ q ih => rw [List.replicate_succ, List.flatMap_cons, ih, hz2, List.replicate_append_replicate]; congr 1; rw [Nat.succ_mul]; omega
      rw [a1]
      have hzs : z.cells.size = r.k := hT.zc
      have hp := r.pos
      apply List.ext_getElem?
      intro j
      by_cases hj : j < i.toNat * r.k
      · have hm : j % z.cells.size < z.cells.size := Nat.mod_lt _ (by omega)
        have hzj : z.cells[j % z.cells.size]? = some (.int .i64 0) := by
          rw [← Array.getElem?_toList, hz, List.getElem?_replicate, if_pos (by omega)]
        have hz3 : z.cells[j % z.cells.size]! = .int .i64 0 := by rw [getElem!_def, hzj]
        simp [madeCells, hj, hz3]
      · simp [madeCells, hj]
    rw [e1]
    simpa using h1) h2 h3 h4)
end

section
variable {P : Program} {fn : Func} {n : Nat} {k : List Item} {m : Env} {w : World}
theorem run_loadVarBox {t : TypeId} {b q : Nat} {cs : List Value} (ht : ∀ w, (isAgg t).run P w = .ok true w) (hs : ∀ w, (sizeOf t).run P w = .ok q w) (hB : Box w.heap b cs) (hq : cs.length = q) : (loadVar t ⟨b, 0, none⟩).run P w = .ok (.agg cs.toArray) w := by
  subst hq
  have h := run_loadCellsFrom (P := P) (w := w) (a := ⟨b, 0, none⟩) cs 0 #[] (fun q u hq => by rw [Nat.zero_add]; exact hB.cell hq)
  simp [loadVar, ht, hs, loadCells, h]
theorem bPtr0 (b : Nat) : bPtr b 0 = .pointer (some ⟨b, 0, none⟩) := by simp [bPtr, Addr.add]
theorem E_retC {Φ : Value → World → Prop} {t b q : Nat} {ty : TypeId} {cs : List Value} (hr : fn.results = #[.cell t ty]) (ht : get m t = some (bPtr b 0)) (hA : ∀ w, (isAgg ty).run P w = .ok true w) (hs : ∀ w, (sizeOf ty).run P w = .ok q w) (hB : Box w.heap b cs) (hq : cs.length = q) (h : Φ (.agg cs.toArray) w) :
    E P fn (fun e w' => ∃ v, e = .returned v ∧ Φ v w') n (.code .ret :: k) m w :=
  E_ret (v := .agg cs.toArray) (fun a ha => by
    have h1 := ha.slot _ _ ht
    rw [bPtr0] at h1
    have h2 := run_loadVarBox (P := P) hA hs hB hq
    simp [results, hr, h1, asAddr, h2]) ⟨_, rfl, h⟩
theorem E_retC1 {Φ : Value → World → Prop} {t u b q : Nat} {ty : TypeId} {cs : List Value} {v' : Value} (hr : fn.results = #[.cell t ty, .tmp u]) (ht : get m t = some (bPtr b 0)) (hu : get m u = some v') (hA : ∀ w, (isAgg ty).run P w = .ok true w) (hs : ∀ w, (sizeOf ty).run P w = .ok q w) (hB : Box w.heap b cs) (hq : cs.length = q) (h : Φ (.tuple #[.agg cs.toArray, v']) w) :
    E P fn (fun e w' => ∃ v, e = .returned v ∧ Φ v w') n (.code .ret :: k) m w :=
  E_ret (v := .tuple #[.agg cs.toArray, v']) (fun a ha => by
    have h1 := ha.slot _ _ ht
    have h3 := ha.slot _ _ hu
    rw [bPtr0] at h1
    have h2 := run_loadVarBox (P := P) hA hs hB hq
    simp [results, hr, h1, h3, asAddr, h2]) ⟨_, rfl, h⟩
end
end Go.PR
