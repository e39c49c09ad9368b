/-
  Memory in the walks, the second part: composite literals, append, slices of slices. No condition.
-/
import Derived.Test.YtjpbmjigmbfcfaaMem
namespace Go.PR
open Go Go.RowKit

theorem fold_set : ∀ (us pre post : List Value) (off k : Nat), off + k = pre.length → us.length ≤ post.length →
    List.foldl (fun (cs : Array Value) (p : Value × Nat) => cs.setIfInBounds (off + p.2) p.1) (pre ++ post).toArray (us.zipIdx k) = (pre ++ us ++ post.drop us.length).toArray
  | [], pre, post, off, k, _, _ => by simp
  | u :: r, pre, [], off, k, _, hl => by simp at hl
  | u :: r, pre, q :: post, off, k, h, hl => by
    have ih := fold_set r (pre ++ [u]) post off (k + 1) (by simp; omega) (by simpa using hl)
    have e : (pre ++ q :: post).toArray.setIfInBounds (off + k) u = (pre ++ [u] ++ post).toArray := by
      rw [h, List.setIfInBounds_toArray]
      simp
    simp only [List.zipIdx_cons, List.foldl_cons, e, ih]
    simp

def zipFrom (k : Nat) : List Value → List (Nat × Value)
  | [] => []
  | v :: r => (k, v) :: zipFrom (k + 1) r

theorem fill_from (sz : Nat) : ∀ (vs : List Value) (k : Nat) (pre post : List Value), pre.length = k * sz → post.length = vs.length * sz → (∀ v ∈ vs, v.cells.size = sz) →
    Instr.fill (fun i => some (i * sz, sz)) (pre ++ post).toArray (zipFrom k vs) = some (pre ++ vs.flatMap (·.cells.toList)).toArray
  | [], k, pre, post, _, hq, _ => by
    have : post = [] := List.eq_nil_of_length_eq_zero (by simpa using hq)
    simp [zipFrom, Instr.fill, this]
  | v :: r, k, pre, post, hp, hq, hv => by
    have h1 := hv v (by simp)
    have hlen : post.length = sz + r.length * sz := by rw [hq, List.length_cons, Nat.succ_mul, Nat.add_comm]
    have hf := fold_set v.cells.toList pre post (k * sz) 0 (by simp [hp]) (by simp [h1]; omega)
    have ih := fill_from sz r (k + 1) (pre ++ v.cells.toList) (post.drop v.cells.toList.length) (by simp [h1, hp, Nat.succ_mul]) (by simp [h1]; omega) (fun u hu => hv u (by simp [hu]))
    have c1 : ¬ (k * sz + v.cells.size > (pre ++ post).toArray.size) := by simp [hp, h1]; omega
    have e1 : (v.cells.zipIdx.foldl (fun cs (x : Value × Nat) => cs.setIfInBounds (k * sz + x.2) x.1) (pre ++ post).toArray) = (pre ++ v.cells.toList ++ post.drop v.cells.toList.length).toArray := by
      rw [← hf, ← Array.foldl_toList]; simp
    simp only [zipFrom, Instr.fill, h1, ne_eq, not_true_eq_false, decide_false, Bool.false_or]
    rw [if_neg (by simpa [h1] using c1)]
    have e2 : (v.cells.zipIdx.foldl (fun cs (x : Value × Nat) => match x with | (c, j) => cs.setIfInBounds (k * sz + j) c) (pre ++ post).toArray) = (pre ++ v.cells.toList ++ post.drop v.cells.toList.length).toArray := e1
    rw [e2, ih]
    simp

/-- The parts of a composite literal, one after the other from k on. -/
def evParts (m : Env) (k : Nat) : List (Nat × Operand) → Option (List Value)
  | [] => some []
  | (i, x) :: r => match Nat.beq i k, ev m x, evParts m (k + 1) r with
    | true, some v, some vs => some (v :: vs)
    | _, _, _ => none
def evPartsI (m : Env) (k : Nat) : List (Nat × Operand) → Option (List Int)
  | [] => some []
  | (i, x) :: r => match Nat.beq i k, ev m x, evPartsI m (k + 1) r with
    | true, some (.int .i64 v), some vs => some (v :: vs)
    | _, _, _ => none

theorem evPartsI_spec (m : Env) : ∀ (ps : List (Nat × Operand)) (k : Nat) (xs : List Int), evPartsI m k ps = some xs → evParts m k ps = some (xs.map (Value.int .i64))
  | [], k, xs, h => by simp [evPartsI] at h; simp [evParts, ← h]
  | (i, x) :: r, k, xs, h => by
    unfold evPartsI at h
    split at h
    · rename_i v vs h1 h2 h3
      obtain rfl := Option.some.inj h
      simp [evParts, h1, h2, evPartsI_spec m r (k + 1) vs h3]
    · cases h

section
variable {P : Program} {n : Nat} {m : Env} {w : World} {ops : Array Oper} {md : Nat} {K : Env → World → Prop} {l : List Oper}

theorem Fits.parts {a : Act} (ha : Fits n m a) : ∀ {ps : List (Nat × Operand)} {k : Nat} {vs : List Value}, evParts m k ps = some vs → ps.map (fun p => (p.1, a.eval p.2)) = zipFrom k vs
  | [], k, vs, h => by simp [evParts] at h; subst h; rfl
  | (i, x) :: r, k, vs, h => by
    unfold evParts at h
    split at h
    · rename_i v vs' h1 h2 h3
      obtain rfl := Option.some.inj h
      have := Nat.eq_of_beq_eq_true h1
      simp [zipFrom, this, ha.eval h2, ha.parts h3]
    · cases h

theorem run_buildSlice {t e : TypeId} {sz byt : Nat} {z : Value} (hT : STy P t e sz byt z) (vs : List Value) (hsz : ∀ v ∈ vs, v.cells.size = sz) (hsm : vs.length * sz ≤ 16777216) (w : World) :
    (Instr.buildSlice t vs.length (zipFrom 0 vs).toArray).run P w = .ok (.slice (some ⟨w.heap.size, 0, none⟩) vs.length vs.length) (w.alloc (.cells (vs.flatMap (·.cells.toList)).toArray e)) := by
  obtain ⟨i, h1, h2, h3, h4⟩ := hT.info
  have hcond : ¬ (vs.length * sz > 2 ^ 24) := by simp; exact hsm
  have hz : ∀ zz : Array Value, (Array.map (fun x => zz[x % zz.size]!) (Array.range (vs.length * sz))).toList.length = vs.length * sz := by intro zz; simp
  have hfill : ∀ zz : Array Value, Instr.fill (fun i => some (i * sz, sz)) (Array.map (fun x => zz[x % zz.size]!) (Array.range (vs.length * sz))) (zipFrom 0 vs) = some (vs.flatMap (·.cells.toList)).toArray := by
    intro zz
    have := fill_from sz vs 0 [] (Array.map (fun x => zz[x % zz.size]!) (Array.range (vs.length * sz))).toList (by simp) (hz zz) hsz
    simp only [List.nil_append, Array.toArray_toList] at this
    exact this
  by_cases h0 : vs.length * sz = 0
  · have hv : vs = [] := by
      rcases Nat.mul_eq_zero.1 h0 with h | h
      · exact List.eq_nil_of_length_eq_zero h
      · have := hT.pos; omega
    subst hv
    simp [Instr.buildSlice, run_underlying hT.under, STy.size hT, zipFrom, Instr.fill, newRow, newObj, Sem.run]
    have er : Array.range 0 = #[] := by apply Array.ext'; simp
    rw [er]; simp
  · have hf := hfill z.cells
    simp [Instr.buildSlice, run_underlying hT.under, STy.size hT, zeroValue, typeInfo, h1, h2, h0, hcond, hf, newRow, newObj, Sem.run]

theorem flat_len (sz : Nat) : ∀ (vs : List Value), (∀ v ∈ vs, v.cells.size = sz) → (vs.flatMap (·.cells.toList)).length = vs.length * sz
  | [], _ => by simp
  | u :: r, h => by
    have h1 := flat_len sz r (fun v hv => h v (by simp [hv]))
    simp only [List.flatMap_cons, List.length_append, h1, List.length_cons, Nat.succ_mul]
    rw [Array.length_toList, h u (by simp), Nat.add_comm]

theorem T_lit {d len : Nat} {ps : List (Nat × Operand)} {t e : TypeId} {sz byt : Nat} {z : Value} {ty : TypeId} {pos : String} {af : Array Edge} {vs : List Value} (hT : STy P t e sz byt z) (hp : evParts m 0 ps = some vs) (hlen : Nat.beq vs.length len = true) (hd : Nat.blt d n = true)
    (hsz : ∀ v ∈ vs, v.cells.size = sz) (hsm : len * sz ≤ 16777216)
    (h : ∀ v w', w'.ownsRow w.heap.size e sz v len (vs.flatMap (·.cells.toList)) → v.ownBlock = some w.heap.size → w.heap.size < w'.heap.size → Below w.heap.size w w' → T P n ops 0 K l ((d, v) :: m) w') :
    T P n ops 0 K (⟨some d, .buildSlice t len ps.toArray, ty, pos, af, none⟩ :: l) m w := by
  have hd' : d < n := by simpa [Nat.blt_eq] using hd
  obtain rfl := Nat.eq_of_beq_eq_true hlen
  intro a ha
  refine wpList_plain rfl fun K' hK => ?_
  have hr := run_buildSlice (P := P) hT vs hsz hsm w
  have h1 : (execOp a.eval ⟨some d, .buildSlice t vs.length ps.toArray, ty, pos, af, none⟩).run P w = .ok (.value (.slice (some ⟨w.heap.size, 0, none⟩) vs.length vs.length)) (w.alloc (.cells (vs.flatMap (·.cells.toList)).toArray e)) := by
    have e1 : Array.map (fun (x : Nat × Operand) => match x with | (i, x) => (i, a.eval x)) ps.toArray = (zipFrom 0 vs).toArray := by
      rw [List.map_toArray]; exact congrArg List.toArray (ha.parts hp)
    simp only [execOp, e1]
    simp [hr]
  unfold Oper.wp
  rw [h1]
  refine hK _ _ (h _ _ ?_ rfl (by simp) ((Below.refl _ _).alloc (Nat.le_refl _) _) _ (ha.put hd' _))
  have hfl := flat_len sz vs hsz
  have hml : vs.length ≤ maxLen := by
    have h2 : vs.length ≤ vs.length * sz := Nat.le_mul_of_pos_right _ hT.pos
    simp only [maxLen]; omega
  refine ⟨hfl, .inr ⟨w.heap.size, vs.length, _, rfl, Nat.le_refl _, heap_alloc_new w _, Nat.le_refl _, hml, by simpa using hfl, ?_⟩⟩
  simp [← hfl, List.take_of_length_le]

theorem T_litI {d len : Nat} {ps : List (Nat × Operand)} {t e : TypeId} {byt : Nat} {z : Value} {ty : TypeId} {pos : String} {af : Array Edge} {xs : List Int} (hT : STy P t e 1 byt z) (hp : evPartsI m 0 ps = some xs) (hlen : Nat.beq xs.length len = true) (hd : Nat.blt d n = true)
    (hsm : Nat.ble len 16777216 = true)
    (h : ∀ v w', OwnI w' w.heap.size e v xs → v.ownBlock = some w.heap.size → w.heap.size < w'.heap.size → Below w.heap.size w w' → T P n ops 0 K l ((d, v) :: m) w') :
    T P n ops 0 K (⟨some d, .buildSlice t len ps.toArray, ty, pos, af, none⟩ :: l) m w :=
  T_lit hT (evPartsI_spec m ps 0 xs hp) (by simpa using hlen) hd (by intro v hv; simp at hv; obtain ⟨x, _, rfl⟩ := hv; rfl) (by have := Nat.le_of_ble_eq_true hsm; omega)
    (fun v w' h1 h2 h3 h4 => h v w' (by
      have e1 : (xs.map (Value.int .i64)).flatMap (·.cells.toList) = xs.map (Value.int .i64) := by
        clear h1 hp hlen h
        induction xs with
        | nil => rfl
        | cons x r ih => simp only [List.map_cons, List.flatMap_cons, ih]; rfl
      have e2 : len = xs.length := (Nat.eq_of_beq_eq_true hlen).symm
      rw [e1, e2] at h1
      exact h1) h2 h3 h4)

/-! ### append -/

theorem run_append_any {t e : TypeId} {sz byt : Nat} {z : Value} (hT : STy P t e sz byt z) (ty : TypeId) {w : World} {B : Nat} {v y : Value} {k q : Nat} {cs news : List Value} (hO : w.ownsRow B e sz v k cs) (hS : Sl w.heap sz y q news) (h1 : ∀ u ∈ news, u.oneCell' = true)
    (h63 : k + q ≤ maxLen) (hb : (k + q) * byt ≤ 140737488355328) (hB : B ≤ w.heap.size) :
    ∃ v' w', (Builtin.append_ #[t, t] ty #[v, y]).run P w = .ok v' w' ∧ w'.ownsRow B e sz v' (k + q) (cs ++ news) ∧ w.grownBy w' v.ownBlock ∧ (v'.ownBlock = v.ownBlock ∨ v'.ownBlock = some w.heap.size) := by
  obtain ⟨i, i1, i2, i3, i4⟩ := hT.info
  obtain ⟨hl, ao, cap, rfl, hle, hc⟩ := hS
  cases ao with
  | none =>
    have hn : news = [] := by
      cases news with
      | nil => rfl
      | cons u r => obtain ⟨a, ha, _⟩ := hc 0 u (by simp); cases ha
    subst hn
    have hq : q = 0 := by
      have hp := hT.pos
      have h0 : q * sz = 0 := by simpa using hl.symm
      rcases Nat.mul_eq_zero.1 h0 with h | h
      · exact h
      · omega
    subst hq
    refine ⟨v, w, ?_, by simpa using hO, ⟨rfl, rfl, rfl, Nat.le_refl _, fun _ _ _ => rfl⟩, .inl rfl⟩
    rcases hO.2 with ⟨rfl, rfl⟩ | ⟨g, cp, cur, rfl, _, hg, hk, _⟩
    · simp [Builtin.append_, run_underlying hT.under, sizeOf, typeInfo, i1, Builtin.lenOf, Builtin.firstCells]
    · simp [Builtin.append_, run_underlying hT.under, sizeOf, typeInfo, i1, Builtin.lenOf, Builtin.firstCells, hk, storeCells]
  | some a =>
    have hnews : ∀ j u, news[j]? = some u → w.cell? (a.add j) = some u := by
      intro j u hj
      obtain ⟨a', e1, e2⟩ := hc j u hj
      obtain rfl := Option.some.inj e1
      exact e2
    obtain ⟨v', w', hr, ho, hg, _⟩ := run_append_own (P := P) w B t ty e i z sz byt hT.under i1 i2 i3 i4 hT.zc hT.pos v k cs hO a q cap news hl hnews h1 h63 hb hB
    refine ⟨v', w', hr, ho, hg, ?_⟩
    rcases hO.2 with ⟨rfl, rfl⟩ | ⟨g, cp, cur, rfl, hbg, hgg, hk, hcm, hcs, ht⟩
    · rcases ho.2 with ⟨rfl, _⟩ | ⟨g', cp', cur', rfl, _⟩
      · exact .inl rfl
      · have hx : cs = [] := List.eq_nil_of_length_eq_zero (by simpa using hO.1)
        subst hx
        by_cases hq : q = 0
        · subst hq
          have hn : news = [] := List.eq_nil_of_length_eq_zero (by simpa using hl)
          subst hn
          have : (Builtin.append_ #[t, t] ty #[.slice none 0 0, .slice (some a) 0 cap]).run P w = .ok (.slice none 0 0) w := by
            simp [Builtin.append_, run_underlying hT.under, sizeOf, typeInfo, i1, Builtin.lenOf, Builtin.firstCells, loadCells, loadCellsFrom]
          rw [this] at hr
          simp at hr
        · have hr2 := run_append_nil (P := P) w t ty e i z hT.under i1 i2 a q cap news (by rw [i3]; exact hl) hnews (by omega) (by simp only [maxLen] at h63; omega) (by rw [i4]; simp only [Nat.zero_add] at hb; omega)
          rw [hr2] at hr
          right
          simp only [Result.ok.injEq, Value.slice.injEq] at hr
          have := hr.1.1
          simp only [Option.some.injEq, Addr.mk.injEq] at this
          simp [Value.ownBlock, ← this.1]
    · by_cases hroom : k + q ≤ cp
      · have hfit : k * i.size + news.length ≤ cur.size := by rw [hl, hcs, i3, ← Nat.add_mul]; exact Nat.mul_le_mul_right _ hroom
        have hr2 := run_append_room (P := P) w t ty e i hT.under i1 g k cp cur hgg a q cap news (by rw [i3]; exact hl) hnews h1 hroom hfit
        rw [hr2] at hr
        left
        have := (Result.ok.inj hr).1
        rw [← this]; rfl
      · have holds : ∀ j u, cs[j]? = some u → w.cell? ((⟨g, 0, none⟩ : Addr).add j) = some u := hO.cells (g := g) rfl
        have hr2 := run_append_grow (P := P) w t ty e i z hT.under i1 i2 ⟨g, 0, none⟩ k cp cs (by rw [i3]; exact hO.1) holds a q cap news (by rw [i3]; exact hl) hnews (by omega) (by simp only [maxLen] at h63; omega) (by rw [i4]; exact growslice_fits (by omega) hb)
        rw [hr2] at hr
        right
        have := (Result.ok.inj hr).1
        rw [← this]; rfl

theorem T_append {d : Nat} {x y : Operand} {t e : TypeId} {sz byt : Nat} {z : Value} {ty : TypeId} {pos : String} {af : Array Edge} {B : Nat} {v u : Value} {k q : Nat} {cs news : List Value} (hT : STy P t e sz byt z) (hx : ev m x = some v) (hy : ev m y = some u) (hd : Nat.blt d n = true)
    (hO : w.ownsRow B e sz v k cs) (hS : Sl w.heap sz u q news) (h1 : ∀ u ∈ news, u.oneCell' = true) (hB : B ≤ w.heap.size) (hb : (k + q) * byt ≤ 140737488355328) (h63 : k + q ≤ maxLen)
    (h : ∀ v' w', w'.ownsRow B e sz v' (k + q) (cs ++ news) → w.grownBy w' v.ownBlock → (v'.ownBlock = v.ownBlock ∨ v'.ownBlock = some w.heap.size) → T P n ops 0 K l ((d, v') :: m) w') :
    T P n ops 0 K (⟨some d, .call ⟨.builtin .append, #[x, y], #[t, t]⟩, ty, pos, af, none⟩ :: l) m w := by
  have hd' : d < n := by simpa [Nat.blt_eq] using hd
  intro a ha
  refine wpList_plain rfl fun K' hK => ?_
  obtain ⟨v', w', hr, ho, hg, hbk⟩ := run_append_any (P := P) hT ty hO hS h1 h63 hb hB
  have h2 : (execOp a.eval ⟨some d, .call ⟨.builtin .append, #[x, y], #[t, t]⟩, ty, pos, af, none⟩).run P w = .ok (.value v') w' := by
    simp [execOp, resolve, invoke, builtin, ha.eval hx, ha.eval hy, hr]
  unfold Oper.wp
  rw [h2]
  exact hK _ _ (h v' w' ho hg hbk _ (ha.put hd' _))

theorem T_appendI {d : Nat} {x y : Operand} {t e : TypeId} {byt : Nat} {z : Value} {ty : TypeId} {pos : String} {af : Array Edge} {B : Nat} {v u : Value} {xs ys : List Int} (hT : STy P t e 1 byt z) (hx : ev m x = some v) (hy : ev m y = some u) (hd : Nat.blt d n = true)
    (hO : OwnI w B e v xs) (hS : Ints w.heap u ys) (hB : B ≤ w.heap.size) (hb : (xs.length + ys.length) * byt ≤ 140737488355328) (h63 : xs.length + ys.length ≤ 9223372036854775807)
    (h : ∀ v' w', OwnI w' B e v' (xs ++ ys) → w.grownBy w' v.ownBlock → (v'.ownBlock = v.ownBlock ∨ v'.ownBlock = some w.heap.size) → T P n ops 0 K l ((d, v') :: m) w') :
    T P n ops 0 K (⟨some d, .call ⟨.builtin .append, #[x, y], #[t, t]⟩, ty, pos, af, none⟩ :: l) m w :=
  T_append hT hx hy hd hO hS (by intro u hu; simp at hu; obtain ⟨x, _, rfl⟩ := hu; rfl) hB hb (by simp only [maxLen]; omega)
    (fun v' w' h1 h2 h3 => h v' w' (by unfold OwnI; simpa using h1) h2 h3)

/-! ### x[lo:hi] -/

def subV (v : Value) (lo hi sz : Nat) : Value :=
  match v with
  | .slice a _ cap => .slice (if cap = lo then a else a.map (·.add (lo * sz))) (hi - lo) (cap - lo)
  | v => v

theorem Sl.sub {h : Array Obj} {sz : Nat} {v : Value} {k : Nat} {cs : List Value} (hs : Sl h sz v k cs) {lo hi : Nat} (h1 : lo ≤ hi) (h2 : hi ≤ k) : Sl h sz (subV v lo hi sz) (hi - lo) ((cs.take (hi * sz)).drop (lo * sz)) := by
  obtain ⟨hl, ao, cap, rfl, hle, hc⟩ := hs
  have hm : hi * sz ≤ k * sz := Nat.mul_le_mul_right _ h2
  refine ⟨?_, _, cap - lo, rfl, by omega, fun j u hj => ?_⟩
  · rw [List.length_drop, List.length_take, hl, Nat.min_eq_left hm, Nat.sub_mul]
  · have hj' : j < (hi - lo) * sz := by
      have := (List.getElem?_eq_some_iff.1 hj).1
      rw [List.length_drop, List.length_take, hl, Nat.min_eq_left hm, ← Nat.sub_mul] at this
      exact this
    have hlt : lo < hi := by
      rcases Nat.lt_or_ge lo hi with h | h
      · exact h
      · have : hi - lo = 0 := by omega
        rw [this] at hj'; simp at hj'
    have hm2 : lo * sz ≤ hi * sz := Nat.mul_le_mul_right _ h1
    rw [Nat.sub_mul] at hj'
    rw [List.getElem?_drop, List.getElem?_take, if_pos (by omega)] at hj
    obtain ⟨a, rfl, hca⟩ := hc _ _ hj
    refine ⟨a.add (lo * sz), ?_, ?_⟩
    · rw [if_neg (by omega)]; rfl
    · rw [add_add]; exact hca
theorem Ints.sub {h : Array Obj} {v : Value} {xs : List Int} (hs : Ints h v xs) {lo hi : Nat} (h1 : lo ≤ hi) (h2 : hi ≤ xs.length) : Ints h (subV v lo hi 1) ((xs.take hi).drop lo) := by
  have := Sl.sub hs h1 h2
  unfold Ints
  have e : ((xs.take hi).drop lo).length = hi - lo := by simp; omega
  rw [e]
  simpa using this

theorem run_slice {t e : TypeId} {sz byt : Nat} {z : Value} (hT : STy P t e sz byt z) {h : Array Obj} {v : Value} {k : Nat} {cs : List Value} (hs : Sl h sz v k cs) {lo hi : Nat} (h1 : lo ≤ hi) (h2 : hi ≤ k) (w : World) :
    (Instr.sliceAt t v (some (.int .i64 lo)) (some (.int .i64 hi)) none).run P w = .ok (subV v lo hi sz) w := by
  obtain ⟨hl, ao, cap, rfl, hle, hc⟩ := hs
  simp [Instr.sliceAt, run_underlying hT.under, Instr.slice, Instr.sliceBounds, Instr.sliceBound, asIntOf, show hi ≤ cap by omega, h1, STy.size hT, subV]
theorem run_slice_hi {t e : TypeId} {sz byt : Nat} {z : Value} (hT : STy P t e sz byt z) {h : Array Obj} {v : Value} {k : Nat} {cs : List Value} (hs : Sl h sz v k cs) {hi : Nat} (h2 : hi ≤ k) (w : World) :
    (Instr.sliceAt t v none (some (.int .i64 hi)) none).run P w = .ok (subV v 0 hi sz) w := by
  obtain ⟨hl, ao, cap, rfl, hle, hc⟩ := hs
  simp [Instr.sliceAt, run_underlying hT.under, Instr.slice, Instr.sliceBounds, Instr.sliceBound, asIntOf, show hi ≤ cap by omega, STy.size hT, subV]
theorem run_slice_lo {t e : TypeId} {sz byt : Nat} {z : Value} (hT : STy P t e sz byt z) {h : Array Obj} {v : Value} {k : Nat} {cs : List Value} (hs : Sl h sz v k cs) {lo : Nat} (h2 : lo ≤ k) (w : World) :
    (Instr.sliceAt t v (some (.int .i64 lo)) none none).run P w = .ok (subV v lo k sz) w := by
  obtain ⟨hl, ao, cap, rfl, hle, hc⟩ := hs
  simp [Instr.sliceAt, run_underlying hT.under, Instr.slice, Instr.sliceBounds, Instr.sliceBound, asIntOf, h2, STy.size hT, subV]

theorem T_slice {d : Nat} {x xl xh : Operand} {t e : TypeId} {sz byt : Nat} {z : Value} {ty : TypeId} {pos : String} {af : Array Edge} {v : Value} {k : Nat} {cs : List Value} {hp : Array Obj} {lo hi : Int} (hT : STy P t e sz byt z)
    (hx : ev m x = some v) (h1 : ev m xl = some (.int .i64 lo)) (h2 : ev m xh = some (.int .i64 hi)) (hd : Nat.blt d n = true) (hS : Sl hp sz v k cs) (hr : 0 ≤ lo ∧ lo ≤ hi ∧ hi ≤ (k : Int))
    (h : T P n ops md K l ((d, subV v lo.toNat hi.toNat sz) :: m) w) : T P n ops md K (⟨some d, .slice t x (some xl) (some xh) none, ty, pos, af, none⟩ :: l) m w := by
  obtain ⟨lo', rfl⟩ := Int.eq_ofNat_of_zero_le hr.1
  obtain ⟨hi', rfl⟩ := Int.eq_ofNat_of_zero_le (show 0 ≤ hi by omega)
  exact T_val hd (fun a ha w' _ => by
    have := run_slice (P := P) hT hS (lo := lo') (hi := hi') (by omega) (by omega) w'
    simp [execOp, ha.eval hx, ha.eval h1, ha.eval h2, this]) h
theorem T_sliceHi {d : Nat} {x xh : Operand} {t e : TypeId} {sz byt : Nat} {z : Value} {ty : TypeId} {pos : String} {af : Array Edge} {v : Value} {k : Nat} {cs : List Value} {hp : Array Obj} {hi : Int} (hT : STy P t e sz byt z)
    (hx : ev m x = some v) (h2 : ev m xh = some (.int .i64 hi)) (hd : Nat.blt d n = true) (hS : Sl hp sz v k cs) (hr : 0 ≤ hi ∧ hi ≤ (k : Int))
    (h : T P n ops md K l ((d, subV v 0 hi.toNat sz) :: m) w) : T P n ops md K (⟨some d, .slice t x none (some xh) none, ty, pos, af, none⟩ :: l) m w := by
  obtain ⟨hi', rfl⟩ := Int.eq_ofNat_of_zero_le (show 0 ≤ hi by omega)
  exact T_val hd (fun a ha w' _ => by
    have := run_slice_hi (P := P) hT hS (hi := hi') (by omega) w'
    simp [execOp, ha.eval hx, ha.eval h2, this]) h
theorem T_sliceLo {d : Nat} {x xl : Operand} {t e : TypeId} {sz byt : Nat} {z : Value} {ty : TypeId} {pos : String} {af : Array Edge} {v : Value} {k : Nat} {cs : List Value} {hp : Array Obj} {lo : Int} (hT : STy P t e sz byt z)
    (hx : ev m x = some v) (h1 : ev m xl = some (.int .i64 lo)) (hd : Nat.blt d n = true) (hS : Sl hp sz v k cs) (hr : 0 ≤ lo ∧ lo ≤ (k : Int))
    (h : T P n ops md K l ((d, subV v lo.toNat k sz) :: m) w) : T P n ops md K (⟨some d, .slice t x (some xl) none none, ty, pos, af, none⟩ :: l) m w := by
  obtain ⟨lo', rfl⟩ := Int.eq_ofNat_of_zero_le hr.1
  exact T_val hd (fun a ha w' _ => by
    have := run_slice_lo (P := P) hT hS (lo := lo') (by omega) w'
    simp [execOp, ha.eval hx, ha.eval h1, this]) h

/-- a row of the call's own, cut at hi -/
theorem own_cut {w : World} {B : Nat} {e : TypeId} {sz : Nat} {v : Value} {k : Nat} {cs : List Value} (h : w.ownsRow B e sz v k cs) {hi : Nat} (hh : hi ≤ k) : w.ownsRow B e sz (subV v 0 hi sz) hi (cs.take (hi * sz)) := by
  have hm : hi * sz ≤ k * sz := Nat.mul_le_mul_right _ hh
  refine ⟨by rw [List.length_take, h.1]; omega, ?_⟩
  rcases h.2 with ⟨rfl, rfl⟩ | ⟨g, cap, cur, rfl, hb, hg, hk, hc, hs, ht⟩
  · left
    have : hi = 0 := by omega
    subst this
    exact ⟨by simp [subV], rfl⟩
  · right
    refine ⟨g, cap, cur, ?_, hb, hg, by omega, hc, hs, ?_⟩
    · simp [subV, Addr.add]
    · rw [← ht, List.take_take, Nat.min_eq_left hm]
theorem OwnI.cut {w : World} {B : Nat} {e : TypeId} {v : Value} {xs : List Int} (h : OwnI w B e v xs) {hi : Nat} (hh : hi ≤ xs.length) : OwnI w B e (subV v 0 hi 1) (xs.take hi) := by
  have := own_cut h hh
  unfold OwnI
  rw [List.length_take, Nat.min_eq_left hh]
  simpa using this

/-! ### Structs -/

def StructAt (P : Program) (t : TypeId) (ps : List (Nat × Value)) (v : Value) : Prop := ∀ w, (Instr.build t ps.toArray).run P w = .ok v w

def evNamed (m : Env) : List (Nat × Operand) → Option (List (Nat × Value))
  | [] => some []
  | (i, x) :: r => match ev m x, evNamed m r with
    | some v, some vs => some ((i, v) :: vs)
    | _, _ => none
theorem Fits.named {a : Act} (ha : Fits n m a) : ∀ {ps : List (Nat × Operand)} {vs : List (Nat × Value)}, evNamed m ps = some vs → ps.map (fun p => (p.1, a.eval p.2)) = vs
  | [], vs, h => by simp [evNamed] at h; simp [← h]
  | (i, x) :: r, vs, h => by
    unfold evNamed at h
    split at h
    · rename_i v vs' h1 h2
      obtain rfl := Option.some.inj h
      simp [ha.eval h1, ha.named h2]
    · cases h
theorem T_build {d : Nat} {ps : List (Nat × Operand)} {t ty : TypeId} {pos : String} {af : Array Edge} {vs : List (Nat × Value)} {v : Value} (hp : evNamed m ps = some vs) (hd : Nat.blt d n = true) (hb : StructAt P t vs v)
    (h : T P n ops md K l ((d, v) :: m) w) : T P n ops md K (⟨some d, .build t ps.toArray, ty, pos, af, none⟩ :: l) m w :=
  T_val hd (fun a ha w' _ => by
    have e1 : Array.map (fun (x : Nat × Operand) => match x with | (i, x) => (i, a.eval x)) ps.toArray = vs.toArray := by
      rw [List.map_toArray]; exact congrArg List.toArray (ha.named hp)
    simp only [execOp, e1]
    simp [hb w']) h
/-- a field of a struct that is a value -/
def FieldOf (P : Program) (t : TypeId) (f : Nat) (x v : Value) : Prop := ∀ w, (Instr.field t x f).run P w = .ok v w
theorem T_field {d f : Nat} {x : Operand} {t ty : TypeId} {pos : String} {af : Array Edge} {u v : Value} (hx : ev m x = some u) (hd : Nat.blt d n = true) (hf : FieldOf P t f u v)
    (h : T P n ops md K l ((d, v) :: m) w) : T P n ops md K (⟨some d, .field t x f, ty, pos, af, none⟩ :: l) m w :=
  T_val hd (fun a ha w' _ => by simp [execOp, ha.eval hx, hf w']) h
end
end Go.PR
