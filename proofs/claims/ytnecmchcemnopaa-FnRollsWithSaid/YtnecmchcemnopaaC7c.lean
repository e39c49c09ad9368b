/-
  Contracts: the rolls with a defect, on both sides. Conditions: the arguments lie in memory as the contract says.
-/
import Derived.Test.YtnecmchcemnopaaC7
namespace Go.PR
theorem rollsN_mem_nonneg (ps : List Prt) (d : Dfc) (k : Nat) : ∀ y ∈ rollsN ps d k, 0 ≤ y ∧ y < k := fun y hy => by
  have := (mem_rollsN (k := k)).1 hy
  exact ⟨this.1, this.2.1⟩
end Go.PR
namespace Go.Proofs.Ytnecmchcemnopaa
open Go Go.PR Go.RowKit attribute [local irreducible] T E Ints Sl Bools OwnI OwnB OwnR Recs Box Ret

set_option maxHeartbeats 1000000 in
theorem RollsWith_spec (x : Rel) (v : Value) (ps : List Prt) (u : Value) (a : Int) (w : World) (hI : Recs recD w.heap v x.ds) (hJ : Recs recT w.heap u ps) :
    Ret Try.prog 17 #[relV x v, u, .int .i64 a] w (fun r w' => OwnI w' w.heap.size 3 r (rollsF x ps a) ∧ Below w.heap.size w w') := by
  refine Ret_of (args := [_, _, _]) Try.call17 Try.func17 rfl _ Try.ntmps17 rfl ?_
  repeat (first | refine E_seq ?_ | refine E_region ?_)
  refine T_box (cs := relC x v) rfl rfl (fun b3 w1 hn3 hx3 hB => ?_)
  have hI := hI.later hB
  have hJ := hJ.later hB
  have hC := Below.refl w1.heap.size w1
  have no : ∀ w9, Below w1.heap.size w1 w9 → ¬ (okC x ps ∧ 0 ≤ a ∧ a < x.ds.length) → OwnI w9 w.heap.size 3 (.slice none 0 0) (rollsF x ps a) ∧ Below w.heap.size w w9 := fun w9 h9 h => ⟨by unfold rollsF; rw [if_neg h]; exact OwnI.nil _ _ _, hB.step hB.size h9⟩
  repeat (first | refine T_move rfl rfl ?_ | refine T_assign rfl rfl ?_ | refine T_nil0 ?_ | refine E_seq ?_ | refine E_region ?_ | refine T_loadBoxAB aL sL rfl rfl (by assumption) (by assumption) (by rfl) ?_)
  refine T_call rfl rfl (ValidCuts_spec x v ps u w1 hI hJ) (fun r w2 hr => ?_)
  obtain ⟨rfl, hb⟩ := hr
  have hC := hC.step hC.size hb
  repeat (first | refine T_move rfl rfl ?_ | refine T_not rfl rfl ?_)
  refine T_guard rfl rfl (fun h1 => ?_) (fun h1 => ?_)
  · repeat' (first | refine T_move rfl rfl ?_ | refine T_assign rfl rfl ?_ | refine T_nil0 ?_ | refine E_seq ?_ | refine E_region ?_ | refine T_off rfl rfl rfl ?_ | refine T_pick_true rfl rfl rfl ?_ | refine E_cond_true rfl ?_ | refine E_ret1 rfl rfl ?_)
    exact no _ hC (fun h => h1 h.1)
  have hok := Decidable.not_not.1 h1
  have hl := hok.2.1
  repeat (first | refine T_move rfl rfl ?_ | refine T_cmp rfl rfl rfl rfl ?_ | refine T_on rfl rfl ?_ | refine T_pick_false rfl rfl rfl ?_)
  refine T_guard rfl rfl (fun h2 => ?_) (fun h2 => ?_)
  · repeat' (first | refine T_assign rfl rfl ?_ | refine T_nil0 ?_ | refine E_seq ?_ | refine E_region ?_ | refine T_off rfl rfl rfl ?_ | refine T_pick_true rfl rfl rfl ?_ | refine E_cond_true rfl ?_ | refine E_ret1 rfl rfl ?_)
    exact no _ hC (fun h => by omega)
  repeat (first | refine T_move rfl rfl ?_ | refine T_nil0 ?_ | refine T_cmp rfl rfl rfl rfl ?_ | refine T_on rfl rfl ?_ | refine T_pick_false rfl rfl rfl ?_ | refine T_fieldBoxF (fun _ _ => by kernel_rfl) rfl rfl ?_ | refine T_loadBoxB Try.isAgg3 rfl rfl (by assumption) (by assumption) (by rfl) ?_ | refine T_len tyD rfl rfl (Recs.rlen (r := recD) (by assumption)) ?_)
  refine E_cond_if rfl (fun h3 => ?_) (fun h3 => ?_)
  · repeat' (first | refine T_assign rfl rfl ?_ | refine T_nil0 ?_ | refine E_seq ?_ | refine E_region ?_ | refine E_ret1 rfl rfl ?_)
    exact no _ hC (fun h => by omega)
  have hF : rollsF x ps a = rollsN ps (x.ds.getD a.toNat dz) ps.length := by unfold rollsF; rw [if_pos ⟨hok, by omega, by omega⟩]
  have hO : OwnI w2 w2.heap.size 3 (.slice none 0 0) [] := OwnI.nil _ _ _
  have hE := hC
  repeat (first | refine T_move rfl rfl ?_ | refine T_assign rfl rfl ?_ | refine T_nil0 ?_ | refine E_seq ?_ | refine E_region ?_ | refine E_skip ?_ | refine T_len tyT rfl rfl (Recs.rlen (r := recT) (by assumption)) ?_)
  refine E_loop (σ := Nat × Value) (fun ⟨i, ov⟩ => [(1, u), (2, .int .i64 a), (3, bPtr b3 0), (7, ov), (25, u), (26, .int .i64 ps.length), (27, .int .i64 (i : Int))])
    (fun ⟨i, ov⟩ w' => i ≤ ps.length ∧ OwnI w' w2.heap.size 3 ov (rollsN ps (x.ds.getD a.toNat dz) i) ∧ Below w2.heap.size w2 w') (fun ⟨i, _⟩ => ps.length - i) (0, .slice none 0 0)
    ⟨by omega, hO, Below.refl _ _⟩ ⟨rfl, rfl, rfl, rfl, rfl, rfl, rfl, trivial⟩ ?_
  clear hC hO
  rintro ⟨i, ov⟩ w3 ⟨hi, hO, hC2⟩ IH
  have hC := hE.step hE.size hC2
  repeat (first | refine T_nil0 ?_ | refine E_seq ?_ | refine E_region ?_ | refine T_cmp rfl rfl rfl rfl ?_)
  refine E_cond_if rfl (fun hp => ?_) (fun hp => ?_)
  case refine_2 =>
    have e : i = ps.length := by omega
    subst e
    repeat' (first | refine T_move rfl rfl ?_ | refine T_assign rfl rfl ?_ | refine T_nil0 ?_ | refine E_seq ?_ | refine E_region ?_ | refine E_exit rfl ?_ | refine E_ret1 rfl rfl ?_)
    rw [hF]
    exact ⟨hO.base (by have := hB.size; have := hE.size; omega), hB.step hB.size hC⟩
  have hil : i < ps.length := by omega
  have hrl := rollsN_length ps (x.ds.getD a.toNat dz) i
  have hz3 := hC2.size
  repeat (first | refine T_move rfl rfl ?_ | refine E_seq ?_ | refine E_region ?_ | refine E_skip ?_ | refine E_blockS ?_ | refine T_indexT tyT rfl rfl rfl (by assumption) (by omega) ?_ | refine T_loadTA aT sT rfl rfl (by assumption) (by assumption) (by omega) ?_)
  have hbo := hO.blk
  refine T_alloc zT rfl (fun b9 w4 hn9 hx9 hb => ?_)
  have hO := hO.later hb
  repeat (first | refine T_assign rfl rfl ?_)
  refine T_storeBoxA (us := recT.enc (ps.getD i pz)) sT rfl rfl rfl (recT.one _) hx9 rfl (fun w5 hx9 hg _ => ?_)
  have hO := hO.kept hg (.inr (fun e => by have := hbo _ e; omega))
  have hb5 := hb.grown hg hb.size (fun c hc => by simp at hc; omega)
  have hC := hC.step hC.size hb5
  have hC2 := hC2.step hC2.size hb5
  have hx3' := hx3.later hC
  have hI5 := hI.later hC
  have h55 := Below.refl w5.heap.size w5
  have hz5 := hC2.size
  clear hb hb5
  repeat (first | refine T_nil0 ?_ | refine E_seq ?_)
  refine E_region_quiet follows (by kernel_rfl) ?_
  repeat (first | refine T_move rfl rfl ?_ | refine T_fieldBoxF (fun _ _ => by kernel_rfl) rfl rfl ?_ | refine T_loadBoxB Try.isAgg3 rfl rfl (by assumption) (by assumption) (by rfl) ?_ | refine T_loadBoxAB aT sT rfl rfl (by assumption) (by assumption) (by rfl) ?_ | refine T_indexDI tyD rfl rfl rfl (by assumption) (by omega) ?_ | refine T_loadDA aD sD rfl rfl (by assumption) (by assumption) (by omega) ?_)
  refine T_callQ rfl rfl (fun w9 _ => partOf_spec (x.ds.getD a.toNat dz) w9) ?_
  skip
  refine T_callQ rfl rfl (fun w9 _ => meet_spec (ps.getD i pz) (partD (x.ds.getD a.toNat dz)) w9) ?_
  skip
  refine T_nil2 (fun w6 hb => ?_)
  have hO := hO.later hb
  have hC2 := hC2.step hC2.size hb
  have hz6 := hb.size
  clear hb
  have hm : meetT (ps.getD i pz) (partD (x.ds.getD a.toNat dz)) ↔ meetD (x.ds.getD a.toNat dz) (ps.getD i pz) := meetT_comm.trans partD_meet
  refine E_cond_if rfl (fun h4 => ?_) (fun h4 => ?_)
  case refine_2 =>
    have e : rollsN ps (x.ds.getD a.toNat dz) (i + 1) = rollsN ps (x.ds.getD a.toNat dz) i := by
      show (if meetD _ _ then _ else _) = _
      rw [if_neg (fun h => h4 (hm.2 h))]
    repeat (first | refine T_move rfl rfl ?_ | refine T_nil0 ?_ | refine E_region ?_ | refine T_add rfl rfl rfl (by omega) ?_ | refine E_skip ?_ | refine E_inBlock ?_)
    exact IH (i + 1, ov) w6 _ ⟨by omega, by rw [e]; exact hO, hC2⟩ (by show ps.length - (i + 1) < ps.length - i; omega) ⟨rfl, rfl, rfl, rfl, rfl, rfl, rfl, trivial⟩
  have e : rollsN ps (x.ds.getD a.toNat dz) (i + 1) = rollsN ps (x.ds.getD a.toNat dz) i ++ [(i : Int)] := by
    show (if meetD _ _ then _ else _) = _
    rw [if_pos (hm.1 h4)]
  repeat (first | refine T_move rfl rfl ?_ | refine E_region ?_)
  refine T_litI tyI rfl rfl rfl rfl (fun lv w7 hL _ _ hb => ?_)
  have hO := hO.later hb
  have hC2 := hC2.step hC2.size hb
  have hz7 := hb.size
  have hbo7 := hO.blk
  skip
  refine T_appendI tyI rfl rfl rfl hO hL.ints (by omega) (by simp only [List.length_singleton]; omega) (by simp only [List.length_singleton]; omega) (fun ov' w8 hO hg _ => ?_)
  have hC2 := hC2.own hg hbo7 (Nat.le_refl _) hC2.size
  rw [← e] at hO
  repeat (first | refine T_move rfl rfl ?_ | refine T_assign rfl rfl ?_ | refine T_nil0 ?_ | refine E_region ?_ | refine T_add rfl rfl rfl (by omega) ?_ | refine E_inBlock ?_)
  exact IH (i + 1, ov') w8 _ ⟨by omega, hO, hC2⟩ (by show ps.length - (i + 1) < ps.length - i; omega) ⟨rfl, rfl, rfl, rfl, rfl, rfl, rfl, trivial⟩

theorem srollsWith_spec (ps : List Prt) (u : Value) (d : Dfc) (w : World) (hJ : Recs recT w.heap u ps) (hl : ps.length ≤ 1000) :
    Ret Try.prog 47 #[u, .agg (recD.enc d).toArray] w (fun r w' => OwnI w' w.heap.size 3 r (rollsN ps d ps.length) ∧ Below w.heap.size w w') := by
  refine Ret_of (args := [_, _]) Try.call47 Try.func47 rfl _ Try.ntmps47 rfl ?_
  repeat (first | refine E_seq ?_ | refine E_region ?_)
  refine T_box rfl rfl (fun b3 w1 hn3 hx3 hB => ?_)
  have hJ := hJ.later hB
  repeat (first | refine T_assign rfl rfl ?_ | refine T_nil0 ?_ | refine E_seq ?_ | refine E_region ?_)
  refine T_litI tyI rfl rfl rfl rfl (fun ov w2 hO _ _ hb => ?_)
  have hE := hb
  clear hb
  repeat (first | refine T_assign rfl rfl ?_ | refine T_nil0 ?_ | refine E_seq ?_ | refine E_region ?_)
  refine E_loop (σ := Nat × Value) (fun ⟨i, ov⟩ => [(0, u), (3, bPtr b3 0), (5, ov), (6, .int .i64 (i : Int))])
    (fun ⟨i, ov⟩ w' => i ≤ ps.length ∧ OwnI w' w1.heap.size 3 ov (rollsN ps d i) ∧ Below w1.heap.size w1 w') (fun ⟨i, _⟩ => ps.length - i) (0, ov)
    ⟨by omega, hO, hE⟩ ⟨rfl, rfl, rfl, rfl, trivial⟩ ?_
  clear hE hO
  rintro ⟨i, ov⟩ w3 ⟨hi, hO, hC⟩ IH
  have hz3 := hC.size
  repeat (first | refine T_move rfl rfl ?_ | refine T_nil0 ?_ | refine E_seq ?_ | refine E_region ?_ | refine T_cmp rfl rfl rfl rfl ?_ | refine T_len tyT rfl rfl (Recs.rlen (r := recT) (by assumption)) ?_)
  refine E_cond_if rfl (fun hp => ?_) (fun hp => ?_)
  case refine_2 =>
    have e : i = ps.length := by omega
    subst e
    repeat' (first | refine T_move rfl rfl ?_ | refine T_assign rfl rfl ?_ | refine T_nil0 ?_ | refine E_seq ?_ | refine E_region ?_ | refine E_exit rfl ?_ | refine E_ret1 rfl rfl ?_)
    exact ⟨hO.base hB.size, hB.step hB.size hC⟩
  have hil : i < ps.length := by omega
  have hrl := rollsN_length ps d i
  repeat (first | refine E_seq ?_ | refine E_skip ?_ | refine E_blockS ?_)
  refine E_region_quiet follows (by kernel_rfl) ?_
  repeat (first | refine T_move rfl rfl ?_ | refine T_loadBoxAB aD sD rfl rfl (by assumption) (by assumption) (by rfl) ?_ | refine T_indexT tyT rfl rfl rfl (by assumption) (by omega) ?_ | refine T_loadTA aT sT rfl rfl (by assumption) (by assumption) (by omega) ?_)
  refine T_callQ rfl rfl (fun w9 _ => meets_spec d (ps.getD i pz) w9) ?_
  skip
  refine T_nil2 (fun w6 hb => ?_)
  have hO := hO.later hb
  have hC := hC.step hC.size hb
  have hz6 := hb.size
  clear hb
  refine E_cond_if rfl (fun h4 => ?_) (fun h4 => ?_)
  case refine_2 =>
    have e : rollsN ps d (i + 1) = rollsN ps d i := by
      show (if meetD _ _ then _ else _) = _
      rw [if_neg h4]
    repeat (first | refine T_move rfl rfl ?_ | refine T_assign rfl rfl ?_ | refine T_nil0 ?_ | refine E_region ?_ | refine T_add rfl rfl rfl (by omega) ?_ | refine E_skip ?_ | refine E_inBlock ?_)
    exact IH (i + 1, ov) w6 _ ⟨by omega, by rw [e]; exact hO, hC⟩ (by show ps.length - (i + 1) < ps.length - i; omega) ⟨rfl, rfl, rfl, rfl, trivial⟩
  have e : rollsN ps d (i + 1) = rollsN ps d i ++ [(i : Int)] := by
    show (if meetD _ _ then _ else _) = _
    rw [if_pos h4]
  repeat (first | refine T_move rfl rfl ?_ | refine E_region ?_)
  refine T_litI tyI rfl rfl rfl rfl (fun lv w7 hL _ _ hb => ?_)
  have hO := hO.later hb
  have hC := hC.step hC.size hb
  have hz7 := hb.size
  have hbo7 := hO.blk
  skip
  refine T_appendI tyI rfl rfl rfl hO hL.ints (by omega) (by simp only [List.length_singleton]; omega) (by simp only [List.length_singleton]; omega) (fun ov' w8 hO hg _ => ?_)
  have hC := hC.own hg hbo7 (Nat.le_refl _) hC.size
  rw [← e] at hO
  repeat (first | refine T_move rfl rfl ?_ | refine T_assign rfl rfl ?_ | refine T_nil0 ?_ | refine E_region ?_ | refine T_add rfl rfl rfl (by omega) ?_ | refine E_inBlock ?_)
  exact IH (i + 1, ov') w8 _ ⟨by omega, hO, hC⟩ (by show ps.length - (i + 1) < ps.length - i; omega) ⟨rfl, rfl, rfl, rfl, trivial⟩

theorem sRollsWith_spec (x : Rel) (v : Value) (ps : List Prt) (u : Value) (a : Int) (w : World) (hI : Recs recD w.heap v x.ds) (hJ : Recs recT w.heap u ps) (hl : x.ds.length ≤ 1048576) (hl2 : ps.length ≤ 1048576) :
    Ret Try.prog 19 #[relV x v, u, .int .i64 a] w (fun r w' => OwnI w' w.heap.size 3 r (rollsF x ps a) ∧ Below w.heap.size w w') := by
  refine Ret_of (args := [_, _, _]) Try.call19 Try.func19 rfl _ Try.ntmps19 rfl ?_
  repeat (first | refine E_seq ?_ | refine E_region ?_)
  refine T_box (cs := relC x v) rfl rfl (fun b3 w1 hn3 hx3 hB => ?_)
  have hI := hI.later hB
  have hJ := hJ.later hB
  have hC := Below.refl w1.heap.size w1
  have no : ∀ w9, Below w1.heap.size w1 w9 → ¬ (okC x ps ∧ 0 ≤ a ∧ a < x.ds.length) → OwnI w9 w.heap.size 3 (.slice none 0 0) (rollsF x ps a) ∧ Below w.heap.size w w9 := fun w9 h9 h => ⟨by unfold rollsF; rw [if_neg h]; exact OwnI.nil _ _ _, hB.step hB.size h9⟩
  repeat (first | refine T_move rfl rfl ?_ | refine T_assign rfl rfl ?_ | refine T_nil0 ?_ | refine E_seq ?_ | refine E_region ?_ | refine T_loadBoxAB aL sL rfl rfl (by assumption) (by assumption) (by rfl) ?_)
  refine T_call rfl rfl (svalidCuts_spec x v ps u w1 hI hJ hl hl2) (fun r w2 hr => ?_)
  obtain ⟨rfl, hb⟩ := hr
  have hC := hC.step hC.size hb
  repeat (first | refine T_move rfl rfl ?_ | refine T_not rfl rfl ?_)
  refine T_guard rfl rfl (fun h1 => ?_) (fun h1 => ?_)
  · repeat' (first | refine T_assign rfl rfl ?_ | refine T_nil0 ?_ | refine E_seq ?_ | refine E_region ?_ | refine T_off rfl rfl rfl ?_ | refine T_pick_true rfl rfl rfl ?_ | refine E_cond_true rfl ?_ | refine E_ret1 rfl rfl ?_)
    exact no _ hC (fun h => h1 h.1)
  have hok := Decidable.not_not.1 h1
  have hll := hok.2.1
  repeat (first | refine T_move rfl rfl ?_ | refine T_on rfl rfl ?_ | refine T_sub rfl rfl rfl (by omega) ?_ | refine T_fieldBoxF (fun _ _ => by kernel_rfl) rfl rfl ?_ | refine T_loadBoxB Try.isAgg3 rfl rfl (by assumption) (by assumption) (by rfl) ?_ | refine T_len tyD rfl rfl (Recs.rlen (r := recD) (by assumption)) ?_)
  refine T_call rfl rfl (inRange_spec _ _ _ w2) (fun r w3 hr => ?_)
  obtain ⟨rfl, rfl⟩ := hr
  repeat (first | refine T_nil0 ?_ | refine T_on rfl rfl ?_ | refine T_pick_false rfl rfl rfl ?_ | refine T_not rfl rfl ?_)
  refine E_cond_if rfl (fun h3 => ?_) (fun h3 => ?_)
  · repeat' (first | refine T_assign rfl rfl ?_ | refine T_nil0 ?_ | refine E_seq ?_ | refine E_region ?_ | refine E_ret1 rfl rfl ?_)
    exact no _ hC (fun h => h3 (by omega))
  have h3 := Decidable.not_not.1 h3
  have hF : rollsF x ps a = rollsN ps (x.ds.getD a.toNat dz) ps.length := by unfold rollsF; rw [if_pos ⟨hok, by omega, by omega⟩]
  repeat (first | refine T_move rfl rfl ?_ | refine E_seq ?_ | refine E_region ?_ | refine E_skip ?_ | refine T_fieldBoxF (fun _ _ => by kernel_rfl) rfl rfl ?_ | refine T_loadBoxB Try.isAgg3 rfl rfl (by assumption) (by assumption) (by rfl) ?_ | refine T_indexDI tyD rfl rfl rfl (by assumption) (by omega) ?_ | refine T_loadDA aD sD rfl rfl (by assumption) (by assumption) (by omega) ?_)
  refine T_call rfl rfl (srollsWith_spec ps u (x.ds.getD a.toNat dz) w2 (hJ.later hC) (by omega)) (fun r w4 hr => ?_)
  obtain ⟨hO, hb⟩ := hr
  repeat' (first | refine T_assign rfl rfl ?_ | refine T_nil0 ?_ | refine E_ret1 rfl rfl ?_)
  rw [hF]
  exact ⟨hO.base (by have := hB.size; have := hC.size; omega), (hB.step hB.size hC).step (by have := hB.size; have := hC.size; omega) hb⟩
end Go.Proofs.Ytnecmchcemnopaa
