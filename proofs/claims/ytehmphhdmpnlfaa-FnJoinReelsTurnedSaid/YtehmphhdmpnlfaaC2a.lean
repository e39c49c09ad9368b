/-
  Contracts: CutReel and TurnReel of both sides. Conditions: the arguments lie in memory as the contract says.
-/
import Derived.Test.YtehmphhdmpnlfaaLibR2
namespace Go.Proofs.Ytehmphhdmpnlfaa
open Go Go.PR Go.RowKit attribute [local irreducible] T E Ints Sl Bools OwnI OwnB OwnR Recs Box Ret

set_option maxHeartbeats 1000000 in
theorem CutReel_spec (x : Rel) (v : Value) (p : Prt) (w : World) (hI : Recs recD w.heap v x.ds) :
    Ret Try.prog 18 #[relV x v, .agg (recT.enc p).toArray] w (fun r w' => ∃ u, r = relV (cutF x p) u ∧ OwnR recD w' w.heap.size 57 u (cutF x p).ds ∧ Below w.heap.size w w') := by
  refine Ret_of (args := [_, _]) Try.call18 Try.func18 rfl _ Try.ntmps18 rfl ?_
  repeat (first | refine E_seq ?_ | refine E_region ?_)
  refine T_box (cs := relC x v) rfl rfl (fun b1 w1 hn1 hx1 hB => ?_); refine T_box (cs := recT.enc p) rfl rfl (fun b2 w2 hn2 hx2 hb => ?_); have hx1 := hx1.later hb; have hB := hB.step hB.size hb
  have hz2 := hB.size
  refine T_alloc zL rfl (fun b4 w3 hn4 hx4 hb => ?_)
  have hx1 := hx1.later hb
  have hx2 := hx2.later hb
  have hB := hB.step hB.size hb
  have hI := hI.later hB
  have hl4 := hx4.lt
  have hC := Below.refl w3.heap.size w3
  repeat (first | refine T_nil0 ?_ | refine E_seq ?_ | refine E_region ?_ | refine T_loadBoxAB aL sL rfl rfl (by assumption) (by assumption) (by rfl) ?_ | refine T_loadBoxAB aT sT rfl rfl (by assumption) (by assumption) (by rfl) ?_)
  refine T_call rfl rfl (ValidPart_spec x v p w3 hI) (fun r w4 hr => ?_)
  obtain ⟨rfl, hb⟩ := hr
  have hC := hC.step hC.size hb
  repeat (first | refine T_nil0 ?_ | refine T_not rfl rfl ?_)
  refine E_cond_if rfl (fun h1 => ?_) (fun h1 => ?_)
  · have hF : cutF x p = rz := by unfold cutF; rw [if_neg h1]
    rw [hF]
    repeat (first | refine E_seq ?_ | refine E_region ?_)
    refine T_build (ps := []) rfl rfl bL0 ?_
    refine T_storeBoxA (us := relC rz (.slice none 0 0)) sL rfl rfl rfl (relC_one (k := 0) ⟨_, _, rfl⟩) (hx4.later hC) rfl (fun w9 hx9 hg9 _ => ?_)
    repeat (first | refine T_nil0 ?_)
    exact E_retC rfl rfl aL sL hx9 rfl ⟨_, rfl, OwnR.nil _ _ _ _, (hB.step hB.size hC).grown hg9 (by have := hC.size; omega) (fun c hc => by simp at hc; omega)⟩
  have hok := Decidable.not_not.1 h1
  have hF : cutF x p = cutN x p := by unfold cutF; rw [if_pos hok]
  rw [hF]
  obtain ⟨hok, hpt⟩ := hok
  have hl := hok.2.2.1
  have hR1 := hok.1
  have hR2 := hok.2.1
  have hpt' := hpt
  unfold okT at hpt'
  repeat (first | refine E_seq ?_ | refine E_region ?_ | refine T_sub rfl rfl rfl (by omega) ?_ | refine E_skip ?_ | refine T_fieldBoxF (fun _ _ => by kernel_rfl) rfl rfl ?_ | refine T_loadBoxB Try.isAgg3 rfl rfl (by assumption) (by assumption) (by rfl) ?_)
  refine T_build rfl rfl (bL2 _ _) ?_
  have hz4 := hC.size
  refine T_new (us := relC ⟨p.r - p.l, p.t - p.f, []⟩ (.slice none 0 0)) zL sL rfl (fun _ => rfl) rfl rfl (relC_one (k := 0) ⟨_, _, rfl⟩) (fun b5 w5 hn5 hx5 hb => ?_)
  have hC := hC.step hC.size hb
  have hl5 := hx5.lt
  repeat (first | refine T_move rfl rfl ?_ | refine T_nil0 ?_ | refine E_seq ?_ | refine E_region ?_ | refine T_fieldBoxF (fun _ _ => by kernel_rfl) rfl rfl ?_ | refine T_loadBoxB Try.isAgg3 rfl rfl (by assumption) (by assumption) (by rfl) ?_ | refine T_len tyD rfl rfl (Recs.rlen (r := recD) (by assumption)) ?_)
  refine E_loop (σ := Nat × Value) (fun ⟨i, ov⟩ => [(2, bPtr b1 0), (3, bPtr b2 0), (4, bPtr b4 0), (5, bPtr b5 0), (25, v), (26, .int .i64 x.ds.length), (27, .int .i64 i)])
    (fun ⟨i, ov⟩ w' => i ≤ x.ds.length ∧ Box w'.heap b5 (relC ⟨p.r - p.l, p.t - p.f, []⟩ ov) ∧ OwnR recD w' w5.heap.size 57 ov (cutL (x.ds.take i) p) ∧ Below w3.heap.size w3 w' ∧ w5.heap.size ≤ w'.heap.size) (fun ⟨i, _⟩ => x.ds.length - i) (0, .slice none 0 0)
    ⟨by omega, hx5, OwnR.nil _ _ _ _, hC, Nat.le_refl _⟩ ⟨rfl, rfl, rfl, rfl, rfl, rfl, rfl, trivial⟩ ?_
  clear hC hx5
  rintro ⟨i, ov⟩ w6 ⟨hi, hxo, hO, hC, hz6⟩ IH
  repeat (first | refine T_nil0 ?_ | refine E_seq ?_ | refine E_region ?_ | refine T_cmp rfl rfl rfl rfl ?_)
  refine E_cond_if rfl (fun hp => ?_) (fun hp => ?_)
  case refine_2 =>
    have e : i = x.ds.length := by omega
    subst e
    rw [List.take_length] at hO
    repeat (first | refine E_seq ?_ | refine E_region ?_ | refine E_exit rfl ?_)
    refine T_loadBoxA (cs := relC ⟨p.r - p.l, p.t - p.f, []⟩ ov) aL sL rfl rfl hxo rfl ?_
    refine T_storeBoxA (us := relC ⟨p.r - p.l, p.t - p.f, []⟩ ov) sL rfl rfl rfl (relC_one hO.recs.rlen) (hx4.later hC) rfl (fun w9 hx9 hg9 _ => ?_)
    have hO := hO.kept hg9 (hO.blk.ne_some (.inr (by omega)))
    repeat (first | refine T_nil0 ?_)
    exact E_retC rfl rfl aL sL hx9 rfl ⟨ov, rfl, hO.base (by omega), (hB.step hB.size hC).grown hg9 (by omega) (fun c hc => by simp at hc; omega)⟩
  have hil : i < x.ds.length := by omega
  have hst := cutL_step hil p
  have hcl := cutL_length (x.ds.take i) p
  have htl : (x.ds.take i).length = i := by simp; omega
  repeat (first | refine E_seq ?_ | refine E_region ?_ | refine E_skip ?_ | refine E_blockS ?_ | refine T_indexD tyD rfl rfl rfl (by assumption) (by omega) ?_ | refine T_loadDA aD sD rfl rfl (by assumption) (by assumption) (by omega) ?_)
  refine T_new (us := recD.enc (x.ds.getD i dz)) zD sD rfl (fun _ => rfl) rfl rfl (recD.one _) (fun b7 w7 hn7 hx7 hb => ?_)
  have hC := hC.step hC.size hb
  have hO := hO.later hb
  have hxo := hxo.later hb
  have hz7 := hb.size
  have hC7 := Below.refl w7.heap.size w7
  have hokd := hok.2.2.2 _ (getM (z := dz) hil)
  generalize x.ds.getD i dz = d at *
  repeat (first | refine T_nil0 ?_ | refine E_seq ?_)
  refine E_region_quiet follows (by kernel_rfl) ?_
  repeat (first | refine T_loadBoxAB aD sD rfl rfl (by assumption) (by assumption) (by rfl) ?_)
  refine T_callQ rfl rfl (fun w9 hb9 => partOf_spec d w9) ?_
  repeat (first | refine T_loadBoxAB aT sT rfl rfl (by assumption) (by assumption) (by rfl) ?_)
  refine T_callQ rfl rfl (fun w9 hb9 => meet_spec (partD d) p w9) ?_
  repeat (first | refine T_not rfl rfl ?_)
  refine T_nil2 (fun w8 hb8 => ?_)
  have hC := hC.step hC.size hb8
  have hO := hO.later hb8
  have hxo := hxo.later hb8
  have hC7 := hC7.step hC7.size hb8
  have hz8 := hb8.size
  refine E_cond_if rfl (fun h4 => ?_) (fun h4 => ?_)
  · rw [if_neg (fun h => h4 (partD_meet.2 h))] at hst
    repeat (first | refine T_move rfl rfl ?_ | refine T_nil0 ?_ | refine E_region ?_ | refine T_add rfl rfl rfl (by omega) ?_ | refine E_exit rfl ?_)
    exact IH (i + 1, ov) w8 _ ⟨by omega, hxo, by rw [hst]; exact hO, hC, by omega⟩ (by show x.ds.length - (i + 1) < x.ds.length - i; omega) ⟨rfl, rfl, rfl, rfl, rfl, rfl, rfl, trivial⟩
  rw [if_pos (partD_meet.1 (Decidable.not_not.1 h4))] at hst
  have hmt := partD_meet.1 (Decidable.not_not.1 h4)
  unfold okD at hokd
  unfold meetD at hmt
  have hC8 := Below.refl w8.heap.size w8
  repeat (first | refine E_region ?_ | refine T_sub rfl rfl rfl (by omega) ?_ | refine E_skip ?_ | refine T_max rfl rfl rfl ?_ | refine T_min rfl rfl rfl ?_ | refine T_fieldBoxF (fun _ _ => by kernel_rfl) rfl rfl ?_ | refine T_loadBoxB Try.isAgg3 rfl rfl (by assumption) (by assumption) (by rfl) ?_)
  refine T_build rfl rfl (bD _ _ _ _ _) ?_
  refine T_lit1 (r := recD) tyD rfl rfl rfl (fun lv _ hL _ _ hb => ?_); have hgb := hb.size; have hxo := hxo.later hb; have hO := hO.later hb; have hC := hC.step hC.size hb; have hbo := hO.blk; have hlo := hxo.lt; have hgz := hC.size; refine T_appendR (r := recD) tyD rfl rfl rfl hO hL.recs (by omega) (by simp; omega) (by simp; omega) (fun ov' _ hO hg _ => ?_); have hga := hg.size; have hxo := hxo.kept hg (fun e => by have := hbo _ e.symm; omega); have hC := hC.grown hg hC.size (fun c hc => by have := hbo c hc; omega)
  rw [show cutL (x.ds.take i) p ++ [(⟨max d.l p.l - p.l, min d.r p.r - p.l, max d.f p.f - p.f, min d.t p.t - p.f, d.g⟩ : Dfc)] = cutL (x.ds.take (i + 1)) p from hst.symm] at hO
  repeat (first | refine T_fieldBoxF (fun _ _ => by kernel_rfl) rfl rfl ?_)
  refine T_storeBox s1Ds rfl rfl (slice_one hO.recs.rlen) hxo (Nat.le_of_ble_eq_true rfl) (fun _ hxo hg _ => ?_); have hgs := hg.size; have hO := hO.kept hg (hO.blk.ne_some (.inr (by omega))); have hC := hC.grown hg hC.size (fun c hc => by simp at hc; omega)
  repeat (first | refine T_move rfl rfl ?_ | refine T_nil0 ?_ | refine E_region ?_ | refine T_add rfl rfl rfl (by omega) ?_ | refine E_inBlock ?_)
  exact IH (i + 1, ov') _ _ ⟨by omega, hxo, hO, hC, by omega⟩ (by show x.ds.length - (i + 1) < x.ds.length - i; omega) ⟨rfl, rfl, rfl, rfl, rfl, rfl, rfl, trivial⟩
end Go.Proofs.Ytehmphhdmpnlfaa
