/-
  Contracts: bad places and the bad area, of both sides. Conditions: the arguments lie in memory as the contract says.
-/
import Derived.Test.YtehmphhdmpnlfaaLibR2
namespace Go.Proofs.Ytehmphhdmpnlfaa
open Go Go.PR Go.RowKit attribute [local irreducible] T E Ints Sl Bools OwnI OwnB OwnR Recs Box Ret

theorem tyBo : STy Try.prog 66 4 1 1 (.bool false) := ⟨Try.underlying66, ⟨Try.t4, by kernel_rfl, rfl, rfl, rfl⟩, rfl, by decide⟩

set_option maxHeartbeats 1000000 in
theorem badPlaces_spec (x : Rel) (v : Value) (l r most : Int) (w : World) (hI : Recs recD w.heap v x.ds) (hok : okR x) :
    Ret Try.prog 47 #[relV x v, .int .i64 l, .int .i64 r, .int .i64 most] w (fun q w' => OwnB w' w.heap.size 4 q (badL x.ds l r most x.n) ∧ Below w.heap.size w w') := by
  have hl := hok.2.2.1
  have hn := hok.2.1
  refine Ret_of (args := [_, _, _, _]) Try.call47 Try.func47 rfl _ Try.ntmps47 rfl ?_
  repeat (first | refine E_seq ?_ | refine E_region ?_)
  refine T_box (cs := relC x v) rfl rfl (fun b1 w1 hn1 hx1 hB => ?_)
  have hz1 := hB.size
  have hI := hI.later hB
  have hC := Below.refl w1.heap.size w1
  repeat (first | refine T_assign rfl rfl ?_ | refine T_nil0 ?_ | refine E_seq ?_ | refine E_region ?_ | refine T_fieldBoxF (fun _ _ => by kernel_rfl) rfl rfl ?_ | refine T_loadBoxB Try.isAgg3 rfl rfl (by assumption) (by assumption) (by rfl) ?_)
  refine T_makeB tyBo rfl rfl rfl (by omega) (fun ov w2 hO hob hlt hb => ?_)
  have hC := hC.step hC.size hb
  rw [← badL_none l r most x.n] at hO
  repeat (first | refine T_move rfl rfl ?_ | refine T_assign rfl rfl ?_ | refine T_nil0 ?_ | refine E_seq ?_ | refine E_region ?_ | refine T_fieldBoxF (fun _ _ => by kernel_rfl) rfl rfl ?_ | refine T_loadBoxB Try.isAgg3 rfl rfl (by assumption) (by assumption) (by rfl) ?_ | refine T_len tyD rfl rfl (Recs.rlen (r := recD) (by assumption)) ?_)
  refine E_loop (σ := Nat) (fun i => [(1, .int .i64 l), (2, .int .i64 r), (3, .int .i64 most), (4, bPtr b1 0), (9, ov), (17, v), (18, .int .i64 x.ds.length), (19, .int .i64 i)])
    (fun i w' => i ≤ x.ds.length ∧ OwnB w' w1.heap.size 4 ov (badL (x.ds.take i) l r most x.n) ∧ Below w1.heap.size w1 w' ∧ w2.heap.size ≤ w'.heap.size) (fun i => x.ds.length - i) 0
    ⟨by omega, hO, hC, Nat.le_refl _⟩ ⟨rfl, rfl, rfl, rfl, rfl, rfl, rfl, rfl, trivial⟩ ?_
  clear hC hO
  rintro i w3 ⟨hi, hO, hC, hz3⟩ IH
  repeat (first | refine T_nil0 ?_ | refine E_seq ?_ | refine E_region ?_ | refine T_cmp rfl rfl rfl rfl ?_)
  refine E_cond_if rfl (fun hp => ?_) (fun hp => ?_)
  case refine_2 =>
    have e : i = x.ds.length := by omega
    subst e
    rw [List.take_length] at hO
    repeat' (first | refine T_move rfl rfl ?_ | refine T_assign rfl rfl ?_ | refine T_nil0 ?_ | refine E_seq ?_ | refine E_region ?_ | refine E_exit rfl ?_ | refine E_ret1 rfl rfl ?_)
    exact ⟨hO.base hz1, hB.step hB.size hC⟩
  have hil : i < x.ds.length := by omega
  have hnx := badL_next (l := l) (r := r) (most := most) (n := x.n) hil
  have hokd := hok.2.2.2 _ (getM (z := dz) hil)
  unfold okD at hokd
  repeat (first | refine E_seq ?_ | refine E_region ?_ | refine E_skip ?_ | refine E_blockS ?_ | refine T_indexD tyD rfl rfl rfl (by assumption) (by omega) ?_ | refine T_loadDA aD sD rfl rfl (by assumption) (by assumption) (by omega) ?_)
  refine T_new (us := recD.enc (x.ds.getD i dz)) zD sD rfl (fun _ => rfl) rfl rfl (recD.one _) (fun b7 w4 hn7 hx7 hb => ?_)
  have hC := hC.step hC.size hb
  have hO := hO.later hb
  have hz4 := hb.size
  have hC4 := Below.refl w4.heap.size w4
  generalize x.ds.getD i dz = d at *
  have skip : ¬ tooBad l r most d → OwnB w4 w1.heap.size 4 ov (badL (x.ds.take (i + 1)) l r most x.n) := fun h => by rw [hnx, if_neg h]; exact hO
  repeat (first | refine T_move rfl rfl ?_ | refine T_nil0 ?_ | refine E_seq ?_ | refine E_region ?_ | refine T_cmp rfl rfl rfl rfl ?_ | refine T_fieldBoxF (fun _ _ => by kernel_rfl) rfl rfl ?_ | refine T_loadBoxB Try.isAgg3 rfl rfl (by assumption) (by assumption) (by rfl) ?_)
  refine T_guard rfl rfl (fun h1 => ?_) (fun h1 => ?_)
  · repeat (first | refine T_move rfl rfl ?_ | refine T_nil0 ?_ | refine E_region ?_ | refine T_off rfl rfl rfl ?_ | refine T_add rfl rfl rfl (by omega) ?_ | refine T_pick_true rfl rfl rfl ?_ | refine E_cond_true rfl ?_ | refine E_exit rfl ?_)
    exact IH (i + 1) w4 _ ⟨by omega, skip (fun h => by unfold tooBad at h; omega), hC, by omega⟩ (by omega) ⟨rfl, rfl, rfl, rfl, rfl, rfl, rfl, rfl, trivial⟩
  repeat (first | refine T_move rfl rfl ?_ | refine T_cmp rfl rfl rfl rfl ?_ | refine T_on rfl rfl ?_ | refine T_pick_false rfl rfl rfl ?_ | refine T_fieldBoxF (fun _ _ => by kernel_rfl) rfl rfl ?_ | refine T_loadBoxB Try.isAgg3 rfl rfl (by assumption) (by assumption) (by rfl) ?_)
  refine T_guard rfl rfl (fun h2 => ?_) (fun h2 => ?_)
  · repeat (first | refine T_move rfl rfl ?_ | refine T_nil0 ?_ | refine E_region ?_ | refine T_off rfl rfl rfl ?_ | refine T_add rfl rfl rfl (by omega) ?_ | refine T_pick_true rfl rfl rfl ?_ | refine E_cond_true rfl ?_ | refine E_exit rfl ?_)
    exact IH (i + 1) w4 _ ⟨by omega, skip (fun h => by unfold tooBad at h; omega), hC, by omega⟩ (by omega) ⟨rfl, rfl, rfl, rfl, rfl, rfl, rfl, rfl, trivial⟩
  repeat (first | refine T_move rfl rfl ?_ | refine T_nil0 ?_ | refine T_cmp rfl rfl rfl rfl ?_ | refine T_on rfl rfl ?_ | refine T_pick_false rfl rfl rfl ?_ | refine T_fieldBoxF (fun _ _ => by kernel_rfl) rfl rfl ?_ | refine T_loadBoxB Try.isAgg3 rfl rfl (by assumption) (by assumption) (by rfl) ?_)
  refine E_cond_if rfl (fun h3 => ?_) (fun h3 => ?_)
  · repeat (first | refine T_move rfl rfl ?_ | refine T_nil0 ?_ | refine E_region ?_ | refine T_add rfl rfl rfl (by omega) ?_ | refine E_exit rfl ?_)
    exact IH (i + 1) w4 _ ⟨by omega, skip (fun h => by unfold tooBad at h; omega), hC, by omega⟩ (by omega) ⟨rfl, rfl, rfl, rfl, rfl, rfl, rfl, rfl, trivial⟩
  rw [if_pos (show tooBad l r most d by unfold tooBad; omega)] at hnx
  have hft := badH_first (x.ds.take i) l r most x.n d
  repeat (first | refine T_assign rfl rfl ?_ | refine T_nil0 ?_ | refine E_seq ?_ | refine E_region ?_ | refine E_skip ?_ | refine T_fieldBoxF (fun _ _ => by kernel_rfl) rfl rfl ?_ | refine T_loadBoxB Try.isAgg3 rfl rfl (by assumption) (by assumption) (by rfl) ?_)
  refine E_loop (σ := Int) (fun k => [(1, .int .i64 l), (2, .int .i64 r), (3, .int .i64 most), (4, bPtr b1 0), (9, ov), (17, v), (18, .int .i64 x.ds.length), (19, .int .i64 i), (11, bPtr b7 0), (12, .int .i64 k)])
    (fun k w' => (d.f ≤ k ∧ k ≤ d.t) ∧ OwnB w' w1.heap.size 4 ov (badH (x.ds.take i) l r most x.n d k) ∧ Box w'.heap b7 (recD.enc d) ∧ Below w1.heap.size w1 w' ∧ w2.heap.size ≤ w'.heap.size) (fun k => (d.t - k).toNat) d.f
    ⟨by omega, by rw [hft]; exact hO, hx7, hC, by omega⟩ ⟨rfl, rfl, rfl, rfl, rfl, rfl, rfl, rfl, rfl, rfl, trivial⟩ ?_
  clear hO hx7 hC hC4 skip
  rintro k w5 ⟨hk, hO, hx7, hC, hz5⟩ IH2
  have hC5 := Below.refl w5.heap.size w5
  repeat (first | refine T_move rfl rfl ?_ | refine T_nil0 ?_ | refine E_seq ?_ | refine E_region ?_ | refine T_cmp rfl rfl rfl rfl ?_ | refine T_fieldBoxF (fun _ _ => by kernel_rfl) rfl rfl ?_ | refine T_loadBoxB Try.isAgg3 rfl rfl (by assumption) (by assumption) (by rfl) ?_)
  refine E_cond_if rfl (fun hp2 => ?_) (fun hp2 => ?_)
  case refine_2 =>
    have e : k = d.t := by omega
    subst e
    rw [← hnx] at hO
    repeat (first | refine T_move rfl rfl ?_ | refine T_nil0 ?_ | refine E_region ?_ | refine T_add rfl rfl rfl (by omega) ?_ | refine E_inBlock ?_ | refine E_exit rfl ?_)
    exact IH (i + 1) w5 _ ⟨by omega, hO, hC, hz5⟩ (by omega) ⟨rfl, rfl, rfl, rfl, rfl, rfl, rfl, rfl, trivial⟩
  have hll := badH_length (x.ds.take i) l r most x.n d k
  have hst := badH_step (ds := x.ds.take i) (l := l) (r := r) (most := most) (n := x.n) (d := d) (k := k) (by omega) hk.1 (by omega)
  repeat (first | refine T_move rfl rfl ?_ | refine E_seq ?_ | refine E_region ?_ | refine E_skip ?_ | refine E_blockR ?_)
  refine T_indexB tyBo rfl rfl rfl hO.bools (by omega) ?_
  refine T_storeB Try.sizeOf4 rfl rfl hO (by omega) (fun w6 hO6 hg6 hs6 => ?_)
  rw [hst] at hO6
  have hx7 := hx7.kept hg6 (fun e => by rw [hob] at e; simp at e; omega)
  have hC := hC.grown hg6 hC.size (fun c hc => by rw [hob] at hc; simp at hc; omega)
  repeat (first | refine T_move rfl rfl ?_ | refine T_assign rfl rfl ?_ | refine T_nil0 ?_ | refine E_region ?_ | refine T_add rfl rfl rfl (by omega) ?_ | refine E_inBlock ?_)
  exact IH2 (k + 1) w6 _ ⟨by omega, hO6, hx7, hC, by omega⟩ (by show (d.t - (k + 1)).toNat < (d.t - k).toNat; omega) ⟨rfl, rfl, rfl, rfl, rfl, rfl, rfl, rfl, rfl, rfl, trivial⟩


set_option maxHeartbeats 1000000 in
theorem BadArea_spec (x : Rel) (v : Value) (most : Int) (w : World) (hI : Recs recD w.heap v x.ds) :
    Ret Try.prog 26 #[relV x v, .int .i64 most] w (fun q w' => q = .int .i64 (areaF x most) ∧ Below w.heap.size w w') := by
  refine Ret_of (args := [_, _]) Try.call26 Try.func26 rfl _ Try.ntmps26 rfl ?_
  repeat (first | refine E_seq ?_ | refine E_region ?_)
  refine T_box (cs := relC x v) rfl rfl (fun b1 w1 hn1 hx1 hB => ?_)
  have hI := hI.later hB
  have hC := Below.refl w1.heap.size w1
  repeat (first | refine T_assign rfl rfl ?_ | refine T_nil0 ?_ | refine E_seq ?_ | refine E_region ?_ | refine T_loadBoxAB aL sL rfl rfl (by assumption) (by assumption) (by rfl) ?_)
  refine T_call rfl rfl (ValidReel_spec x v w1 hI) (fun r w2 hr => ?_)
  obtain ⟨rfl, hb⟩ := hr
  have hC := hC.step hC.size hb
  repeat (first | refine T_nil0 ?_ | refine T_not rfl rfl ?_)
  refine E_cond_if rfl (fun h1 => ?_) (fun h1 => ?_)
  · repeat' (first | refine T_assign rfl rfl ?_ | refine T_nil0 ?_ | refine E_seq ?_ | refine E_region ?_ | refine E_ret1 rfl rfl ?_)
    exact ⟨by unfold areaF; rw [if_neg h1], hB.step hB.size hC⟩
  have hok := Decidable.not_not.1 h1
  have hF : areaF x most = areaN x most x.w.toNat := by unfold areaF; rw [if_pos hok]
  have hw := hok.1
  have hn := hok.2.1
  rw [hF]
  repeat (first | refine T_move rfl rfl ?_ | refine T_assign rfl rfl ?_ | refine T_nil0 ?_ | refine E_seq ?_ | refine E_region ?_ | refine E_skip ?_ | refine T_fieldBoxF (fun _ _ => by kernel_rfl) rfl rfl ?_ | refine T_loadBoxB Try.isAgg3 rfl rfl (by assumption) (by assumption) (by rfl) ?_)
  refine E_loop (σ := Nat) (fun k => [(1, .int .i64 most), (2, bPtr b1 0), (5, .int .i64 (areaN x most k)), (13, .int .i64 x.w), (14, .int .i64 k)])
    (fun k w' => k ≤ x.w.toNat ∧ Below w1.heap.size w1 w') (fun k => x.w.toNat - k) 0
    ⟨by omega, hC⟩ ⟨rfl, rfl, rfl, rfl, rfl, trivial⟩ ?_
  clear hC
  rintro k w3 ⟨hk, hC⟩ IH
  repeat (first | refine T_nil0 ?_ | refine E_seq ?_ | refine E_region ?_ | refine T_cmp rfl rfl rfl rfl ?_)
  refine E_cond_if rfl (fun hp => ?_) (fun hp => ?_)
  case refine_2 =>
    have e : k = x.w.toNat := by omega
    subst e
    repeat' (first | refine T_move rfl rfl ?_ | refine T_assign rfl rfl ?_ | refine T_nil0 ?_ | refine E_seq ?_ | refine E_region ?_ | refine E_exit rfl ?_ | refine E_ret1 rfl rfl ?_)
    exact ⟨rfl, hB.step hB.size hC⟩
  have hbd := areaN_bound hok most k (by omega)
  have hst := areaN_step x most k
  repeat (first | refine T_move rfl rfl ?_ | refine T_assign rfl rfl ?_ | refine T_nil0 ?_ | refine E_seq ?_ | refine E_region ?_ | refine T_add rfl rfl rfl (by omega) ?_ | refine E_skip ?_ | refine E_blockS ?_ | refine T_loadBoxAB aL sL rfl rfl (by assumption) (by assumption) (by rfl) ?_)
  refine T_call rfl rfl (badPlaces_spec x v k (k + 1) most w3 (hI.later hC) hok) (fun ov w4 hr => ?_)
  obtain ⟨hO, hb⟩ := hr
  have hC := hC.step hC.size hb
  have hBo := hO.bools
  have hll := badL_length x.ds k (k + 1) most x.n
  have hlane : laneN x most k = cntN (badL x.ds k (k + 1) most x.n) x.n.toNat := rfl
  generalize badL x.ds k (k + 1) most x.n = L at *
  clear hO
  repeat (first | refine T_move rfl rfl ?_ | refine T_nil0 ?_ | refine T_len tyBo rfl rfl (Bools.len (by assumption)) ?_)
  refine E_loop (σ := Nat) (fun j => [(1, .int .i64 most), (2, bPtr b1 0), (5, .int .i64 (areaN x most k + cntN L j)), (6, .int .i64 k), (13, .int .i64 x.w), (14, .int .i64 k), (22, ov), (23, .int .i64 L.length), (24, .int .i64 j)])
    (fun j w' => j ≤ L.length ∧ Below w1.heap.size w1 w' ∧ Below w4.heap.size w4 w') (fun j => L.length - j) 0
    ⟨by omega, hC, Below.refl _ _⟩ ⟨rfl, rfl, slotI rfl (by simp [cntN]), rfl, rfl, rfl, rfl, rfl, rfl, trivial⟩ ?_
  clear hC
  rintro j w5 ⟨hj, hC, h45⟩ IH2
  have hBo5 := hBo.later h45
  repeat (first | refine T_nil0 ?_ | refine E_seq ?_ | refine E_region ?_ | refine T_cmp rfl rfl rfl rfl ?_)
  refine E_cond_if rfl (fun hp2 => ?_) (fun hp2 => ?_)
  case refine_2 =>
    have e : j = x.n.toNat := by omega
    repeat (first | refine T_move rfl rfl ?_ | refine T_nil0 ?_ | refine E_region ?_ | refine T_add rfl rfl rfl (by omega) ?_ | refine E_inBlock ?_ | refine E_exit rfl ?_)
    exact IH (k + 1) w5 _ ⟨by omega, hC⟩ (by omega) ⟨rfl, rfl, slotI rfl (by rw [hst, hlane, e]), rfl, rfl, trivial⟩
  have hjl : j < L.length := by omega
  have hcb := cntN_bound L j
  have hcs : cntN L (j + 1) = if L.getD j false = true then cntN L j + 1 else cntN L j := rfl
  repeat (first | refine T_move rfl rfl ?_ | refine T_assign rfl rfl ?_ | refine T_nil0 ?_ | refine E_seq ?_ | refine E_region ?_ | refine E_skip ?_ | refine E_blockS ?_ | refine T_indexBN tyBo rfl rfl rfl (by assumption) (by omega) ?_ | refine T_loadB Try.isAgg4 rfl rfl (by assumption) (by omega) ?_)
  refine E_cond_bool rfl (fun h4 => ?_) (fun h4 => ?_)
  · rw [if_pos h4] at hcs
    repeat (first | refine T_move rfl rfl ?_ | refine T_assign rfl rfl ?_ | refine T_nil0 ?_ | refine E_region ?_ | refine T_add rfl rfl rfl (by omega) ?_ | refine E_inBlock ?_)
    exact IH2 (j + 1) w5 _ ⟨by omega, hC, h45⟩ (by omega) ⟨rfl, rfl, slotI rfl (by omega), rfl, rfl, rfl, rfl, rfl, rfl, trivial⟩
  · rw [if_neg (by rw [h4]; decide)] at hcs
    repeat (first | refine T_move rfl rfl ?_ | refine T_nil0 ?_ | refine E_region ?_ | refine T_add rfl rfl rfl (by omega) ?_ | refine E_skip ?_ | refine E_inBlock ?_)
    exact IH2 (j + 1) w5 _ ⟨by omega, hC, h45⟩ (by omega) ⟨rfl, rfl, slotI rfl (by omega), rfl, rfl, rfl, rfl, rfl, rfl, trivial⟩


end Go.Proofs.Ytehmphhdmpnlfaa
