/-
  Contracts on cuts of a reel, of both sides. Conditions: the arguments lie in memory as the contract says.
-/
import Derived.Test.YtnecmchcemnopaaLibR3
import Derived.Test.YtnecmchcemnopaaLibR2
import Derived.Test.YtnecmchcemnopaaC7P
namespace Go.PR
open Go Go.RowKit
theorem okC_iff {x : Rel} {ps : List Prt} : okC x ps ↔ okR x ∧ ps.length ≤ 60 ∧ (∀ j, j < ps.length → okT x.w x.n (ps.getD j pz)) ∧ ∀ j k, k < j → j < ps.length → ¬ meetT (ps.getD j pz) (ps.getD k pz) := by
  have e : ∀ j (h : j < ps.length), ps.getD j pz = ps[j] := fun j h => by rw [List.getD_eq_getElem?_getD, List.getElem?_eq_getElem h]; rfl
  unfold okC
  constructor
  · rintro ⟨h1, h2, h3, h4⟩
    refine ⟨h1, h2, fun j hj => h3 _ (getM hj), fun j k hk hj => ?_⟩
    have := List.pairwise_iff_getElem.1 h4 k j (by omega) hj hk
    rw [e j hj, e k (by omega)]
    exact this
  · rintro ⟨h1, h2, h3, h4⟩
    refine ⟨h1, h2, all_getD (z := pz) h3, List.pairwise_iff_getElem.2 fun i j hi hj hij => ?_⟩
    have := h4 j i hij hj
    rwa [e j hj, e i hi] at this
theorem part_sub {h : Array Obj} {v : Value} {xs : List Prt} (hs : Recs recT h v xs) {hi : Nat} (h2 : hi ≤ xs.length) : Recs recT h (subV v 0 hi 4) (xs.take hi) := by
  have := Sl.sub hs (Nat.zero_le hi) h2
  unfold Recs
  have e : (xs.take hi).length = hi := by simp; omega
  rw [e]
  have e2 : ((xs.flatMap recT.enc).take (hi * recT.k)).drop (0 * recT.k) = (xs.take hi).flatMap recT.enc := by
    rw [Nat.zero_mul, List.drop_zero]
    have h4 : xs.flatMap recT.enc = (xs.take hi).flatMap recT.enc ++ (xs.drop hi).flatMap recT.enc := by rw [← List.flatMap_append, List.take_append_drop]
    have l1 : ((xs.take hi).flatMap recT.enc).length = hi * recT.k := by rw [flat_length recT.enc recT.k recT.len, e]
    rw [h4, ← l1, List.take_left']; rfl
  rw [e2] at this
  exact this
section
variable {P : Program} {n : Nat} {m : Env} {w : World} {ops : Array Oper} {md : Nat} {K : Env → World → Prop} {l : List Oper}
theorem T_sliceHiT {d : Nat} {x xh : Operand} {t e : TypeId} {byt : Nat} {z : Value} {ty : TypeId} {pos : String} {af : Array Edge} {v : Value} {xs : List Prt} {hp : Array Obj} {hi : Int} (hT : STy P t e 4 byt z)
    (hx : ev m x = some v) (h2 : ev m xh = some (.int .i64 hi)) (hd : Nat.blt d n = true) (hS : Recs recT hp v xs) (hr : 0 ≤ hi ∧ hi ≤ (xs.length : Int))
    (h : T P n ops md K l ((d, subV v 0 hi.toNat 4) :: m) w) : T P n ops md K (⟨some d, .slice t x none (some xh) none, ty, pos, af, none⟩ :: l) m w :=
  T_sliceHi hT hx h2 hd hS hr h
end
end Go.PR
namespace Go.Proofs.Ytnecmchcemnopaa
open Go Go.PR Go.RowKit attribute [local irreducible] T E Ints Sl Bools OwnI OwnB OwnR Recs Box Ret

theorem szPartS_spec (v : Value) (k : Nat) (left : Int) (w : World) (hv : SlLen v k) (hk : k ≤ 9223372036854775807) (hl : 0 ≤ left ∧ left ≤ 1048576) :
    Ret Try.prog 33 #[v, .int .i64 left] w (fun r w' => ∃ q, r = .int .i64 q ∧ (0 ≤ q → q = left - k) ∧ Below w.heap.size w w') := by
  refine Ret_of (args := [_, _]) Try.call33 Try.func33 rfl _ Try.ntmps33 rfl ?_
  repeat (first | refine T_move rfl rfl ?_ | refine T_assign rfl rfl ?_ | refine T_nil0 ?_ | refine E_seq ?_ | refine E_region ?_)
  refine T_len tyU rfl rfl hv ?_
  repeat (first | refine T_move rfl rfl ?_ | refine T_assign rfl rfl ?_ | refine T_nil0 ?_ | refine E_seq ?_ | refine E_region ?_ | refine T_cmp rfl rfl rfl rfl ?_ | refine T_sub rfl rfl rfl (by omega) ?_)
  refine E_cond_if rfl (fun h1 => ?_) (fun h1 => ?_)
  · repeat' (first | refine T_assign rfl rfl ?_ | refine T_nil0 ?_ | refine E_seq ?_ | refine E_region ?_ | refine E_ret1 rfl rfl ?_)
    exact ⟨_, rfl, by omega, Below.refl _ _⟩
  · repeat' (first | refine T_move rfl rfl ?_ | refine T_assign rfl rfl ?_ | refine T_nil0 ?_ | refine E_seq ?_ | refine E_region ?_ | refine E_skip ?_ | refine E_ret1 rfl rfl ?_)
    exact ⟨_, rfl, fun _ => rfl, Below.refl _ _⟩
theorem toPartS_spec (v : Value) (xs : List Prt) (w : World) (hI : Recs recT w.heap v xs) (hl : xs.length ≤ 1048576) :
    Ret Try.prog 35 #[v] w (fun r w' => OwnR recT w' w.heap.size 40 r xs ∧ Below w.heap.size w w') := by
  refine Ret_of (args := [_]) Try.call35 Try.func35 rfl _ Try.ntmps35 rfl ?_
  repeat (first | refine T_move rfl rfl ?_ | refine T_assign rfl rfl ?_ | refine T_nil0 ?_ | refine E_seq ?_ | refine E_region ?_)
  refine T_len tyU rfl rfl hI.rlen ?_
  refine T_makeR (r := recT) tyT rfl rfl rfl rfl rfl (by omega) (fun ov w1 hO _ _ hB => ?_)
  rw [Int.toNat_natCast] at hO
  have hO : OwnR recT w1 w.heap.size 40 ov (List.replicate xs.length pz) := hO
  repeat (first | refine T_assign rfl rfl ?_ | refine T_nil0 ?_ | refine E_seq ?_ | refine E_region ?_)
  refine E_loop (σ := Nat) (fun k => [(0, v), (3, ov), (4, .int .i64 k)]) (fun k w' => k ≤ xs.length ∧ OwnR recT w' w.heap.size 40 ov (xs.take k ++ List.replicate (xs.length - k) pz) ∧ Below w.heap.size w w') (fun k => xs.length - k) 0
    ⟨by omega, by simpa using hO, hB⟩ ⟨rfl, rfl, rfl, trivial⟩ ?_
  clear hO hB
  rintro k w2 ⟨hk, hO, hB⟩ IH
  repeat (first | refine T_move rfl rfl ?_ | refine E_seq ?_ | refine E_region ?_)
  refine T_len tyU rfl rfl hI.rlen ?_
  repeat (first | refine T_nil0 ?_ | refine T_cmp rfl rfl rfl rfl ?_)
  refine E_cond_if rfl (fun hp => ?_) (fun hp => ?_)
  case refine_2 =>
    repeat' (first | refine T_move rfl rfl ?_ | refine T_assign rfl rfl ?_ | refine T_nil0 ?_ | refine E_seq ?_ | refine E_region ?_ | refine E_exit rfl ?_ | refine E_ret1 rfl rfl ?_)
    have e : k = xs.length := by omega
    subst e
    exact ⟨by simpa using hO, hB⟩
  have hkl : k < xs.length := by omega
  have hst := copyR_step (z := pz) hkl
  have hll : (xs.take k ++ List.replicate (xs.length - k) pz).length = xs.length := by simp; omega
  generalize xs.take k ++ List.replicate (xs.length - k) pz = L at *
  have hOR := hO.recs
  repeat (first | refine T_move rfl rfl ?_ | refine E_seq ?_ | refine E_region ?_ | refine E_skip ?_ | refine E_blockR ?_)
  refine T_indexT tyU rfl rfl rfl hI hkl ?_
  refine T_loadTA aU sU rfl rfl hI hB hkl ?_
  refine T_call rfl rfl (toPart_spec (xs.getD k pz) w2) (fun r w3 hr => ?_)
  obtain ⟨rfl, hb⟩ := hr
  have hO := hO.later hb
  have hB := hB.step hB.size hb
  refine T_indexT tyT rfl rfl rfl hOR (by omega) ?_
  refine T_storeRA (r := recT) (a' := xs.getD k pz) sT rfl rfl hO (by omega) (fun w4 hO4 hg4 _ => ?_)
  rw [hst] at hO4
  have hB := hB.own hg4 hO.blk (Nat.le_refl _) hB.size
  repeat (first | refine T_move rfl rfl ?_ | refine T_assign rfl rfl ?_ | refine T_nil0 ?_ | refine E_region ?_ | refine T_add rfl rfl rfl (by omega) ?_ | refine E_inBlock ?_)
  exact IH (k + 1) w4 _ ⟨by omega, hO4, hB⟩ (by omega) ⟨rfl, rfl, rfl, trivial⟩
theorem eqPart_yes (d : Prt) (w : World) :
    Ret Try.prog 57 #[.agg (recT.enc d).toArray, .agg (recT.enc d).toArray] w (fun r w' => r = .bool true ∧ Below w.heap.size w w') := by
  refine Ret_of (args := [_, _]) Try.call57 Try.func57 rfl _ Try.ntmps57 rfl ?_
  repeat (first | refine E_seq ?_ | refine E_region ?_)
  refine T_box rfl rfl (fun b1 w1 hn1 hx1 hB => ?_)
  refine T_box rfl rfl (fun b2 w2 hn2 hx2 hb => ?_)
  have hx1 := hx1.later hb
  have hB := hB.step hB.size hb
  have hC := Below.refl w2.heap.size w2
  repeat (first | refine T_assign rfl rfl ?_ | refine T_nil0 ?_ | refine E_seq ?_ | refine E_region ?_ | refine T_cmp rfl rfl rfl rfl ?_ | refine T_fieldBoxF (fun _ _ => by kernel_rfl) rfl rfl ?_ | refine T_loadBoxB Try.isAgg3 rfl rfl (by assumption) (by assumption) (by rfl) ?_)
  refine E_cond_if rfl (fun h => absurd rfl h) (fun _ => ?_)
  repeat (first | refine T_nil0 ?_ | refine E_seq ?_ | refine E_region ?_ | refine T_cmp rfl rfl rfl rfl ?_ | refine E_skip ?_ | refine T_fieldBoxF (fun _ _ => by kernel_rfl) rfl rfl ?_ | refine T_loadBoxB Try.isAgg3 rfl rfl (by assumption) (by assumption) (by rfl) ?_)
  refine E_cond_if rfl (fun h => absurd rfl h) (fun _ => ?_)
  repeat (first | refine T_nil0 ?_ | refine E_seq ?_ | refine E_region ?_ | refine T_cmp rfl rfl rfl rfl ?_ | refine E_skip ?_ | refine T_fieldBoxF (fun _ _ => by kernel_rfl) rfl rfl ?_ | refine T_loadBoxB Try.isAgg3 rfl rfl (by assumption) (by assumption) (by rfl) ?_)
  refine E_cond_if rfl (fun h => absurd rfl h) (fun _ => ?_)
  repeat (first | refine T_nil0 ?_ | refine E_seq ?_ | refine E_region ?_ | refine T_cmp rfl rfl rfl rfl ?_ | refine E_skip ?_ | refine T_fieldBoxF (fun _ _ => by kernel_rfl) rfl rfl ?_ | refine T_loadBoxB Try.isAgg3 rfl rfl (by assumption) (by assumption) (by rfl) ?_)
  refine E_cond_if rfl (fun h => absurd rfl h) (fun _ => ?_)
  repeat' (first | refine T_assign rfl rfl ?_ | refine T_nil0 ?_ | refine E_seq ?_ | refine E_region ?_ | refine E_skip ?_ | refine E_ret1 rfl rfl ?_)
  exact ⟨rfl, hB⟩
theorem eqPartS_yes (v u : Value) (xs : List Prt) (w : World) (hI : Recs recT w.heap v xs) (hJ : Recs recT w.heap u xs) (hl : xs.length ≤ 1048576) :
    Ret Try.prog 37 #[v, u] w (fun r w' => r = .bool true ∧ Below w.heap.size w w') := by
  refine Ret_of (args := [_, _]) Try.call37 Try.func37 rfl _ Try.ntmps37 rfl ?_
  repeat (first | refine T_move rfl rfl ?_ | refine T_assign rfl rfl ?_ | refine T_nil0 ?_ | refine E_seq ?_ | refine E_region ?_ | refine T_cmp rfl rfl rfl rfl ?_ | refine T_len tyT rfl rfl (Recs.rlen (r := recT) (by assumption)) ?_)
  refine E_cond_if rfl (fun h => absurd rfl h) (fun _ => ?_)
  have hC := Below.refl w.heap.size w
  repeat (first | refine T_assign rfl rfl ?_ | refine T_nil0 ?_ | refine E_seq ?_ | refine E_region ?_ | refine E_skip ?_)
  refine E_loop (σ := Nat) (fun k => [(0, v), (1, u), (5, .int .i64 k)]) (fun k w' => k ≤ xs.length ∧ Below w.heap.size w w') (fun k => xs.length - k) 0 ⟨by omega, hC⟩ ⟨rfl, rfl, rfl, trivial⟩ ?_
  clear hC
  rintro k w2 ⟨hk, hC⟩ IH
  repeat (first | refine T_move rfl rfl ?_ | refine T_nil0 ?_ | refine E_seq ?_ | refine E_region ?_ | refine T_cmp rfl rfl rfl rfl ?_ | refine T_len tyT rfl rfl (Recs.rlen (r := recT) (by assumption)) ?_)
  refine E_cond_if rfl (fun hp => ?_) (fun hp => ?_)
  case refine_2 =>
    repeat' (first | refine T_assign rfl rfl ?_ | refine T_nil0 ?_ | refine E_seq ?_ | refine E_region ?_ | refine E_exit rfl ?_ | refine E_ret1 rfl rfl ?_)
    exact ⟨rfl, hC⟩
  have hkl : k < xs.length := by omega
  repeat (first | refine E_seq ?_ | refine E_skip ?_ | refine E_blockS ?_)
  refine E_region_quiet follows (by kernel_rfl) ?_
  repeat (first | refine T_move rfl rfl ?_ | refine T_indexT tyT rfl rfl rfl (by assumption) (by omega) ?_ | refine T_loadTA aT sT rfl rfl (by assumption) (by assumption) (by omega) ?_)
  refine T_callQ rfl rfl (fun w9 hb9 => eqPart_yes (xs.getD k pz) w9) ?_
  repeat (first | refine T_notB rfl rfl ?_)
  refine T_nil2 (fun w9 hb9 => ?_)
  have hC := hC.step hC.size hb9
  repeat (first | refine T_move rfl rfl ?_ | refine T_assign rfl rfl ?_ | refine T_nil0 ?_ | refine E_region ?_ | refine T_add rfl rfl rfl (by omega) ?_ | refine E_cond_false rfl ?_ | refine E_skip ?_ | refine E_inBlock ?_)
  exact IH (k + 1) w9 _ ⟨by omega, hC⟩ (by omega) ⟨rfl, rfl, rfl, trivial⟩

set_option maxHeartbeats 1000000 in
theorem ValidCuts_spec (x : Rel) (v : Value) (ps : List Prt) (u : Value) (w : World) (hI : Recs recD w.heap v x.ds) (hJ : Recs recT w.heap u ps) :
    Ret Try.prog 14 #[relV x v, u] w (fun r w' => r = .bool (decide (okC x ps)) ∧ Below w.heap.size w w') := by
  refine Ret_of (args := [_, _]) Try.call14 Try.func14 rfl _ Try.ntmps14 rfl ?_
  repeat (first | refine E_seq ?_ | refine E_region ?_)
  refine T_box (cs := relC x v) rfl rfl (fun b1 w1 hn1 hx1 hB => ?_)
  have hI := hI.later hB
  have hJ := hJ.later hB
  have hC := Below.refl w1.heap.size w1
  have bad : ∀ w9, Below w1.heap.size w1 w9 → ¬ okC x ps → Value.bool false = .bool (decide (okC x ps)) ∧ Below w.heap.size w w9 := fun w9 h9 h => ⟨vb_f h, hB.step hB.size h9⟩
  repeat (first | refine T_assign rfl rfl ?_ | refine T_nil0 ?_ | refine E_seq ?_ | refine E_region ?_ | refine T_loadBoxAB aL sL rfl rfl (by assumption) (by assumption) (by rfl) ?_)
  refine T_call rfl rfl (ValidReel_spec x v w1 hI) (fun r w2 hr => ?_)
  obtain ⟨rfl, hb⟩ := hr
  have hC := hC.step hC.size hb
  repeat (first | refine T_move rfl rfl ?_ | refine T_not rfl rfl ?_)
  refine T_guard rfl rfl (fun h1 => ?_) (fun h1 => ?_)
  · repeat' (first | refine T_assign rfl rfl ?_ | refine T_nil0 ?_ | refine E_seq ?_ | refine E_region ?_ | refine T_off rfl rfl rfl ?_ | refine T_pick_true rfl rfl rfl ?_ | refine E_cond_true rfl ?_ | refine E_ret1 rfl rfl ?_)
    exact bad _ hC (fun h => h1 h.1)
  have hok := Decidable.not_not.1 h1
  repeat (first | refine T_move rfl rfl ?_ | refine T_nil0 ?_ | refine T_cmp rfl rfl rfl rfl ?_ | refine T_on rfl rfl ?_ | refine T_pick_false rfl rfl rfl ?_ | refine T_len tyT rfl rfl (Recs.rlen (r := recT) (by assumption)) ?_)
  refine E_cond_if rfl (fun h2 => ?_) (fun h2 => ?_)
  · repeat' (first | refine T_assign rfl rfl ?_ | refine T_nil0 ?_ | refine E_seq ?_ | refine E_region ?_ | refine E_ret1 rfl rfl ?_)
    exact bad _ hC (fun h => by have := h.2.1; omega)
  repeat (first | refine T_move rfl rfl ?_ | refine T_nil0 ?_ | refine E_seq ?_ | refine E_region ?_ | refine E_skip ?_ | refine T_len tyT rfl rfl (Recs.rlen (r := recT) (by assumption)) ?_)
  refine E_loop (σ := Nat) (fun i => [(1, u), (2, bPtr b1 0), (17, u), (18, .int .i64 ps.length), (19, .int .i64 i)])
    (fun i w' => i ≤ ps.length ∧ (∀ j, j < i → okT x.w x.n (ps.getD j pz)) ∧ (∀ j k, k < j → j < i → ¬ meetT (ps.getD j pz) (ps.getD k pz)) ∧ Below w1.heap.size w1 w') (fun i => ps.length - i) 0
    ⟨by omega, by omega, by omega, hC⟩ ⟨rfl, rfl, rfl, rfl, rfl, trivial⟩ ?_
  clear hC
  rintro i w3 ⟨hi, hall, hmt, hC⟩ IH
  repeat (first | refine T_nil0 ?_ | refine E_seq ?_ | refine E_region ?_ | refine T_cmp rfl rfl rfl rfl ?_)
  refine E_cond_if rfl (fun hp => ?_) (fun hp => ?_)
  case refine_2 =>
    have e : i = ps.length := by omega
    subst e
    repeat' (first | refine T_assign rfl rfl ?_ | refine T_nil0 ?_ | refine E_seq ?_ | refine E_region ?_ | refine E_exit rfl ?_ | refine E_ret1 rfl rfl ?_)
    exact ⟨vb_t (okC_iff.2 ⟨hok, by omega, hall, hmt⟩), hB.step hB.size hC⟩
  have hil : i < ps.length := by omega
  repeat (first | refine T_move rfl rfl ?_ | refine E_seq ?_ | refine E_region ?_ | refine E_skip ?_ | refine E_blockS ?_ | refine T_indexT tyT rfl rfl rfl (by assumption) (by omega) ?_ | refine T_loadTA aT sT rfl rfl (by assumption) (by assumption) (by omega) ?_)
  refine T_alloc zT rfl (fun b6 w4 hn6 hx6 hb => ?_)
  repeat (first | refine T_assign rfl rfl ?_)
  refine T_storeBoxA (us := recT.enc (ps.getD i pz)) sT rfl rfl rfl (recT.one _) hx6 rfl (fun w5 hx6 hg _ => ?_)
  have hb := hb.grown hg hb.size (fun c hc => by simp at hc; omega)
  have hC := hC.step hC.size hb
  have h55 := Below.refl w5.heap.size w5
  repeat (first | refine T_nil0 ?_ | refine E_seq ?_ | refine E_region ?_ | refine T_fieldBoxF (fun _ _ => by kernel_rfl) rfl rfl ?_ | refine T_loadBoxB Try.isAgg3 rfl rfl (by assumption) (by assumption) (by rfl) ?_ | refine T_loadBoxAB aT sT rfl rfl (by assumption) (by assumption) (by rfl) ?_)
  refine T_call rfl rfl (inside_spec (ps.getD i pz) x.w x.n w5) (fun r w6 hr => ?_)
  obtain ⟨rfl, hb⟩ := hr
  have hC := hC.step hC.size hb
  have h55 := h55.step h55.size hb
  repeat (first | refine T_nil0 ?_ | refine T_not rfl rfl ?_)
  refine E_cond_if rfl (fun h3 => ?_) (fun h3 => ?_)
  · repeat' (first | refine T_assign rfl rfl ?_ | refine T_nil0 ?_ | refine E_seq ?_ | refine E_region ?_ | refine E_ret1 rfl rfl ?_)
    exact bad _ hC (fun h => h3 ((okC_iff.1 h).2.2.1 i hil))
  have hT := Decidable.not_not.1 h3
  have hsub := part_sub hJ (hi := i) (by omega)
  have htl : (ps.take i).length = i := by simp; omega
  have hgt : ∀ k, k < i → (ps.take i).getD k pz = ps.getD k pz := fun k hk => by rw [List.getD_eq_getElem?_getD, List.getElem?_take, if_pos hk, ← List.getD_eq_getElem?_getD]
  repeat (first | refine T_move rfl rfl ?_ | refine E_seq ?_ | refine E_region ?_ | refine E_skip ?_)
  refine T_sliceHiT tyT rfl rfl rfl hJ (by omega) ?_
  rw [Int.toNat_natCast]
  repeat (first | refine T_move rfl rfl ?_ | refine T_nil0 ?_ | refine T_len tyT rfl rfl (Recs.rlen (r := recT) (by assumption)) ?_)
  rw [htl]
  refine E_loop (σ := Nat) (fun k => [(1, u), (2, bPtr b1 0), (17, u), (18, .int .i64 ps.length), (19, .int .i64 i), (6, bPtr b6 0), (33, subV u 0 i 4), (34, .int .i64 i), (35, .int .i64 k)])
    (fun k w' => k ≤ i ∧ (∀ j, j < k → ¬ meetT (ps.getD i pz) (ps.getD j pz)) ∧ Below w1.heap.size w1 w' ∧ Below w5.heap.size w5 w') (fun k => i - k) 0
    ⟨by omega, by omega, hC, h55⟩ ⟨rfl, rfl, rfl, rfl, rfl, rfl, rfl, rfl, rfl, trivial⟩ ?_
  clear hC h55
  rintro k w7 ⟨hk, hno, hC, h57⟩ IH2
  repeat (first | refine T_nil0 ?_ | refine E_seq ?_ | refine E_region ?_ | refine T_cmp rfl rfl rfl rfl ?_)
  refine E_cond_if rfl (fun hp2 => ?_) (fun hp2 => ?_)
  case refine_2 =>
    have e : k = i := by omega
    subst e
    repeat (first | refine T_move rfl rfl ?_ | refine T_nil0 ?_ | refine E_region ?_ | refine T_add rfl rfl rfl (by omega) ?_ | refine E_inBlock ?_ | refine E_exit rfl ?_)
    refine IH (k + 1) w7 _ ⟨by omega, fun j hj => ?_, fun j q hq hj => ?_, hC⟩ (by omega) ⟨rfl, rfl, rfl, rfl, rfl, trivial⟩
    · by_cases e : j = k
      · subst e; exact hT
      · exact hall j (by omega)
    · by_cases e : j = k
      · subst e; exact hno q hq
      · exact hmt j q hq (by omega)
  have hkl : k < (ps.take i).length := by omega
  repeat (first | refine E_seq ?_ | refine E_region ?_ | refine E_skip ?_ | refine E_blockS ?_ | refine T_indexT tyT rfl rfl rfl (by assumption) (by omega) ?_ | refine T_loadTA aT sT rfl rfl (by assumption) (by assumption) (by omega) ?_)
  rw [hgt k (by omega)]
  refine T_new (us := recT.enc (ps.getD k pz)) zT sT rfl (fun _ => rfl) rfl rfl (recT.one _) (fun b8 w8 hn8 hx8 hb => ?_)
  have hC := hC.step hC.size hb
  have h58 := h57.step h57.size hb
  have h88 := Below.refl w8.heap.size w8
  repeat (first | refine T_nil0 ?_ | refine E_seq ?_ | refine E_region ?_ | refine T_loadBoxAB aT sT rfl rfl (by assumption) (by assumption) (by rfl) ?_)
  refine T_call rfl rfl (meet_spec (ps.getD i pz) (ps.getD k pz) w8) (fun r w9 hr => ?_)
  obtain ⟨rfl, hb⟩ := hr
  have hC := hC.step hC.size hb
  have h58 := h58.step h58.size hb
  repeat (first | refine T_nil0 ?_)
  refine E_cond_if rfl (fun h4 => ?_) (fun h4 => ?_)
  · repeat' (first | refine T_assign rfl rfl ?_ | refine T_nil0 ?_ | refine E_seq ?_ | refine E_region ?_ | refine E_ret1 rfl rfl ?_)
    exact bad _ hC (fun h => (okC_iff.1 h).2.2.2 i k (by omega) hil h4)
  repeat (first | refine T_move rfl rfl ?_ | refine T_nil0 ?_ | refine E_region ?_ | refine T_add rfl rfl rfl (by omega) ?_ | refine E_skip ?_ | refine E_inBlock ?_)
  refine IH2 (k + 1) w9 _ ⟨by omega, fun j hj => ?_, hC, h58⟩ (by omega) ⟨rfl, rfl, rfl, rfl, rfl, rfl, rfl, rfl, rfl, trivial⟩
  by_cases e : j = k
  · subst e; exact h4
  · exact hno j (by omega)

set_option maxHeartbeats 1000000 in
theorem svalidCuts_spec (x : Rel) (v : Value) (ps : List Prt) (u : Value) (w : World) (hI : Recs recD w.heap v x.ds) (hJ : Recs recT w.heap u ps) (hl : x.ds.length ≤ 1048576) (hl2 : ps.length ≤ 1048576) :
    Ret Try.prog 43 #[relV x v, u] w (fun r w' => r = .bool (decide (okC x ps)) ∧ Below w.heap.size w w') := by
  refine Ret_of (args := [_, _]) Try.call43 Try.func43 rfl _ Try.ntmps43 rfl ?_
  repeat (first | refine E_seq ?_ | refine E_region ?_)
  refine T_box (cs := relC x v) rfl rfl (fun b1 w1 hn1 hx1 hB => ?_)
  have hI := hI.later hB
  have hJ := hJ.later hB
  have hC := Below.refl w1.heap.size w1
  have bad : ∀ w9, Below w1.heap.size w1 w9 → ¬ okC x ps → Value.bool false = .bool (decide (okC x ps)) ∧ Below w.heap.size w w9 := fun w9 h9 h => ⟨vb_f h, hB.step hB.size h9⟩
  repeat (first | refine T_assign rfl rfl ?_ | refine T_nil0 ?_ | refine E_seq ?_ | refine E_region ?_)
  refine E_loop (σ := Nat) (fun i => [(1, u), (2, bPtr b1 0), (5, .int .i64 i)])
    (fun i w' => i ≤ ps.length ∧ (∀ j, j < i → okTW x.w x.n (ps.getD j pz)) ∧ (∀ j k, k < j → j < i → ¬ meetT (ps.getD j pz) (ps.getD k pz)) ∧ Below w1.heap.size w1 w') (fun i => ps.length - i) 0
    ⟨by omega, by omega, by omega, hC⟩ ⟨rfl, rfl, rfl, trivial⟩ ?_
  clear hC
  rintro i w3 ⟨hi, hall, hmt, hC⟩ IH
  repeat (first | refine T_move rfl rfl ?_ | refine T_nil0 ?_ | refine E_seq ?_ | refine E_region ?_ | refine T_cmp rfl rfl rfl rfl ?_ | refine T_len tyT rfl rfl (Recs.rlen (r := recT) (by assumption)) ?_)
  refine E_cond_if rfl (fun hp => ?_) (fun hp => ?_)
  case refine_2 =>
    have e : i = ps.length := by omega
    subst e
    repeat (first | refine E_seq ?_ | refine E_region ?_ | refine E_exit rfl ?_ | refine T_loadBoxAB aL sL rfl rfl (by assumption) (by assumption) (by rfl) ?_)
    refine T_call rfl rfl (svalidReel_spec x v w3 (hI.later hC) hl) (fun r w4 hr => ?_)
    obtain ⟨rfl, hb⟩ := hr
    have hC := hC.step hC.size hb
    repeat (first | refine T_move rfl rfl ?_)
    refine T_guard rfl rfl (fun h1 => ?_) (fun h1 => ?_)
    case refine_2 =>
      repeat' (first | refine T_assign rfl rfl ?_ | refine T_nil0 ?_ | refine T_off rfl rfl rfl ?_ | refine T_pick_false rfl rfl rfl ?_ | refine E_ret1 rfl rfl ?_)
      exact bad _ hC (fun h => h1 h.1)
    repeat' (first | refine T_move rfl rfl ?_ | refine T_assign rfl rfl ?_ | refine T_nil0 ?_ | refine T_cmp rfl rfl rfl rfl ?_ | refine T_on rfl rfl ?_ | refine T_pick_true rfl rfl rfl ?_ | refine T_len tyT rfl rfl (Recs.rlen (r := recT) (by assumption)) ?_ | refine E_ret1 rfl rfl ?_)
    exact ⟨vb_iff ⟨fun h => okC_iff.2 ⟨h1, by omega, fun j hj => (okTW_iff h1.1 h1.2.1).1 (hall j hj), hmt⟩, fun h => by have := h.2.1; omega⟩, hB.step hB.size hC⟩
  have hil : i < ps.length := by omega
  repeat (first | refine E_seq ?_ | refine E_skip ?_ | refine E_blockS ?_)
  refine E_region_quiet follows (by kernel_rfl) ?_
  repeat (first | refine T_move rfl rfl ?_ | refine T_loadBoxAB aL sL rfl rfl (by assumption) (by assumption) (by rfl) ?_ | refine T_indexT tyT rfl rfl rfl (by assumption) (by omega) ?_ | refine T_loadTA aT sT rfl rfl (by assumption) (by assumption) (by omega) ?_)
  refine T_callQ rfl rfl (fun w9 hb9 => svalidPartW_spec x v (ps.getD i pz) w9) ?_
  repeat (first | refine T_not rfl rfl ?_)
  refine T_nil2 (fun w4 hb9 => ?_)
  have hC := hC.step hC.size hb9
  refine E_cond_if rfl (fun h3 => ?_) (fun h3 => ?_)
  · repeat' (first | refine T_assign rfl rfl ?_ | refine T_nil0 ?_ | refine E_seq ?_ | refine E_region ?_ | refine E_ret1 rfl rfl ?_)
    exact bad _ hC (fun h => h3 ((okTW_iff h.1.1 h.1.2.1).2 ((okC_iff.1 h).2.2.1 i hil)))
  have hT := Decidable.not_not.1 h3
  repeat (first | refine T_assign rfl rfl ?_ | refine T_nil0 ?_ | refine E_seq ?_ | refine E_region ?_ | refine E_skip ?_)
  refine E_loop (σ := Nat) (fun k => [(1, u), (2, bPtr b1 0), (5, .int .i64 i), (6, .int .i64 k)])
    (fun k w' => k ≤ i ∧ (∀ j, j < k → ¬ meetT (ps.getD i pz) (ps.getD j pz)) ∧ Below w1.heap.size w1 w') (fun k => i - k) 0
    ⟨by omega, by omega, hC⟩ ⟨rfl, rfl, rfl, rfl, trivial⟩ ?_
  clear hC
  rintro k w7 ⟨hk, hno, hC⟩ IH2
  repeat (first | refine T_move rfl rfl ?_ | refine T_nil0 ?_ | refine E_seq ?_ | refine E_region ?_ | refine T_cmp rfl rfl rfl rfl ?_)
  refine E_cond_if rfl (fun hp2 => ?_) (fun hp2 => ?_)
  case refine_2 =>
    have e : k = i := by omega
    subst e
    repeat (first | refine T_move rfl rfl ?_ | refine T_assign rfl rfl ?_ | refine T_nil0 ?_ | refine E_region ?_ | refine T_add rfl rfl rfl (by omega) ?_ | refine E_inBlock ?_ | refine E_exit rfl ?_)
    refine IH (k + 1) w7 _ ⟨by omega, fun j hj => ?_, fun j q hq hj => ?_, hC⟩ (by omega) ⟨rfl, rfl, rfl, trivial⟩
    · by_cases e : j = k
      · subst e; exact hT
      · exact hall j (by omega)
    · by_cases e : j = k
      · subst e; exact hno q hq
      · exact hmt j q hq (by omega)
  repeat (first | refine E_seq ?_ | refine E_skip ?_ | refine E_blockS ?_)
  refine E_region_quiet follows (by kernel_rfl) ?_
  repeat (first | refine T_move rfl rfl ?_ | refine T_indexT tyT rfl rfl rfl (by assumption) (by omega) ?_ | refine T_loadTA aT sT rfl rfl (by assumption) (by assumption) (by omega) ?_)
  refine T_callQ rfl rfl (fun w9 hb9 => partsMeet_spec (ps.getD i pz) (ps.getD k pz) w9) ?_
  skip
  refine T_nil2 (fun w9 hb9 => ?_)
  have hC := hC.step hC.size hb9
  refine E_cond_if rfl (fun h4 => ?_) (fun h4 => ?_)
  · repeat' (first | refine T_assign rfl rfl ?_ | refine T_nil0 ?_ | refine E_seq ?_ | refine E_region ?_ | refine E_ret1 rfl rfl ?_)
    exact bad _ hC (fun h => (okC_iff.1 h).2.2.2 i k (by omega) hil h4)
  repeat (first | refine T_move rfl rfl ?_ | refine T_assign rfl rfl ?_ | refine T_nil0 ?_ | refine E_region ?_ | refine T_add rfl rfl rfl (by omega) ?_ | refine E_skip ?_ | refine E_inBlock ?_)
  refine IH2 (k + 1) w9 _ ⟨by omega, fun j hj => ?_, hC⟩ (by omega) ⟨rfl, rfl, rfl, rfl, trivial⟩
  by_cases e : j = k
  · subst e; exact h4
  · exact hno j (by omega)

theorem sValidCuts_spec (x : Rel) (v : Value) (ps : List Prt) (u : Value) (w : World) (hI : Recs recD w.heap v x.ds) (hJ : Recs recT w.heap u ps) (hl : x.ds.length ≤ 1048576) (hl2 : ps.length ≤ 1048576) :
    Ret Try.prog 15 #[relV x v, u] w (fun r w' => r = .bool (decide (okC x ps)) ∧ Below w.heap.size w w') := by
  refine Ret_of (args := [_, _]) Try.call15 Try.func15 rfl _ Try.ntmps15 rfl ?_
  repeat (first | refine E_seq ?_ | refine E_region ?_)
  refine T_box (cs := relC x v) rfl rfl (fun b1 w1 hn1 hx1 hB => ?_)
  have hC := Below.refl w1.heap.size w1
  repeat (first | refine T_move rfl rfl ?_ | refine T_assign rfl rfl ?_ | refine T_nil0 ?_ | refine E_seq ?_ | refine E_region ?_ | refine T_loadBoxAB aL sL rfl rfl (by assumption) (by assumption) (by rfl) ?_)
  refine T_call rfl rfl (svalidCuts_spec x v ps u w1 (hI.later hB) (hJ.later hB) hl hl2) (fun r w2 hr => ?_)
  obtain ⟨rfl, hb⟩ := hr
  repeat' (first | refine T_assign rfl rfl ?_ | refine T_nil0 ?_ | refine E_ret1 rfl rfl ?_)
  exact ⟨rfl, hB.step hB.size hb⟩
end Go.Proofs.Ytnecmchcemnopaa
