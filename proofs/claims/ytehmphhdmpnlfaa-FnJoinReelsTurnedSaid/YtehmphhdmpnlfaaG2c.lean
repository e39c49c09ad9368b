/-
  Contracts: the draws of the laws of chapter 2. Conditions: the arguments lie in memory as the contract says.
-/
import Derived.Test.YtehmphhdmpnlfaaG2b
namespace Go.Proofs.Ytehmphhdmpnlfaa
open Go Go.PR Go.RowKit attribute [local irreducible] T E Ints Sl Bools OwnI OwnB OwnR Recs Box Ret
attribute [local irreducible] Bytes X

theorem DrawTurnReel_spec (cv : Value) (cs : List Int) (w : World) (hY : Bytes w.heap cv cs) (hb : ∀ c ∈ cs, 0 ≤ c ∧ c ≤ 255) :
    Ret Try.prog 23 #[cv] w (fun r w' => ∃ x u, r = relV x u ∧ OwnR recD w' w.heap.size 57 u x.ds ∧ x.ds.length ≤ 6 ∧ Below w.heap.size w w') := by
  refine Ret_of (args := [_]) Try.call23 Try.func23 rfl _ Try.ntmps23 rfl ?_
  repeat (first | refine E_seq ?_ | refine E_region ?_)
  refine T_alloc zL rfl (fun b2 w1 hn2 hx2 hB => ?_)
  have hz1 := hB.size
  have hl2 := hx2.lt
  repeat (first | refine T_move rfl rfl ?_ | refine T_nil0 ?_ | refine E_seq ?_ | refine E_region ?_)
  refine T_call rfl rfl (newReader_spec cv cs w1 (hY.later hB) hb) (fun r w2 hr => ?_)
  obtain ⟨b, cv', cs', rfl, hR, hB1, hnew⟩ := hr
  have hz2 := hB1.size
  have hx2 := hx2.later hB1
  skip
  refine T_call rfl rfl (anyReel_spec _ _ _ _ _ 0 hR (by omega)) (fun r w3 hr => ?_)
  obtain ⟨x, u, q, rfl, hO, ⟨hdl, _, _⟩, hD⟩ := hr
  have hx2 := hx2.drew hD (by omega)
  have hlow := hD.rd.below
  have hz3 := hD.grown.size
  skip
  refine T_storeBoxA (us := relC x u) sL rfl rfl rfl (relC_one hO.recs.rlen) hx2 rfl (fun w4 hx2 hg _ => ?_)
  have hO := hO.kept hg (hO.blk.ne_some (.inr (by omega)))
  repeat (first | refine T_nil0 ?_)
  exact E_retC rfl rfl aL sL hx2 rfl ⟨x, u, rfl, hO.base (by omega), hdl, (hB.step hB.size hlow).grown hg (by omega) (fun c hc => by simp at hc; omega)⟩

theorem DrawCutReel_spec (cv : Value) (cs : List Int) (w : World) (hY : Bytes w.heap cv cs) (hb : ∀ c ∈ cs, 0 ≤ c ∧ c ≤ 255) :
    Ret Try.prog 17 #[cv] w (fun r w' => ∃ x u t, r = .tuple #[relV x u, .agg (recT.enc t).toArray] ∧ OwnR recD w' w.heap.size 57 u x.ds ∧ x.ds.length ≤ 6 ∧ Below w.heap.size w w') := by
  refine Ret_of (args := [_]) Try.call17 Try.func17 rfl _ Try.ntmps17 rfl ?_
  repeat (first | refine E_seq ?_ | refine E_region ?_)
  refine T_alloc zL rfl (fun b2 w1 hn2 hx2 hB => ?_)
  have hz1 := hB.size
  have hl2 := hx2.lt
  skip
  refine T_alloc zT rfl (fun b3 w1' hn3 hx3 hb' => ?_)
  have hz1' := hb'.size
  have hx2 := hx2.later hb'
  have hl3 := hx3.lt
  have hB := hB.step hB.size hb'
  repeat (first | refine T_move rfl rfl ?_ | refine T_nil0 ?_ | refine E_seq ?_ | refine E_region ?_)
  refine T_call rfl rfl (newReader_spec cv cs w1' (hY.later hB) hb) (fun r w2 hr => ?_)
  obtain ⟨b, cv', cs', rfl, hR, hB1, hnew⟩ := hr
  have hz2 := hB1.size
  have hx2 := hx2.later hB1
  have hx3 := hx3.later hB1
  skip
  refine T_call rfl rfl (gpartOf_spec _ _ _ _ _ 0 hR (by omega)) (fun r w3 hr => ?_)
  obtain ⟨x, u, t, q, rfl, hO, hdl, hD⟩ := hr
  have hx2 := hx2.drew hD (by omega)
  have hx3 := hx3.drew hD (by omega)
  have hlow := hD.rd.below
  have hz3 := hD.grown.size
  repeat (first | refine T_extract rfl rfl rfl ?_)
  refine T_storeBoxA (us := relC x u) sL rfl rfl rfl (relC_one hO.recs.rlen) hx2 rfl (fun w4 hx2 hg _ => ?_)
  have hO := hO.kept hg (hO.blk.ne_some (.inr (by omega)))
  have hx3 := hx3.kept hg (fun e => by simp at e; omega)
  have hB := (hB.step hB.size hlow).grown hg (by omega) (fun c hc => by simp at hc; omega)
  have hz4 := hg.size
  skip
  refine T_storeBoxA (us := recT.enc t) sT rfl rfl rfl (recT.one _) hx3 rfl (fun w5 hx3 hg _ => ?_)
  have hO := hO.kept hg (hO.blk.ne_some (.inr (by omega)))
  have hx2 := hx2.kept hg (fun e => by simp at e; omega)
  have hB := hB.grown hg (by omega) (fun c hc => by simp at hc; omega)
  repeat (first | refine T_nil0 ?_)
  exact E_retC2 rfl rfl rfl aL sL aT sT hx2 rfl hx3 rfl ⟨x, u, t, rfl, hO.base (by omega), hdl, hB⟩

set_option maxHeartbeats 1000000 in
theorem DrawJoinReels_spec (cv : Value) (cs : List Int) (w : World) (hY : Bytes w.heap cv cs) (hb : ∀ c ∈ cs, 0 ≤ c ∧ c ≤ 255) :
    Ret Try.prog 27 #[cv] w (fun r w' => ∃ x u y v, r = .tuple #[relV x u, relV y v] ∧ OwnR recD w' w.heap.size 57 u x.ds ∧ OwnR recD w' w.heap.size 57 v y.ds ∧ x.ds.length ≤ 6 ∧ y.ds.length ≤ 6 ∧ Below w.heap.size w w') := by
  refine Ret_of (args := [_]) Try.call27 Try.func27 rfl _ Try.ntmps27 rfl ?_
  repeat (first | refine E_seq ?_ | refine E_region ?_)
  refine T_alloc zL rfl (fun b2 w1 hn2 hx2 hB => ?_)
  have hz1 := hB.size
  have hl2 := hx2.lt
  skip
  refine T_alloc zL rfl (fun b3 w1' hn3 hx3 hb' => ?_)
  have hz1' := hb'.size
  have hx2 := hx2.later hb'
  have hl3 := hx3.lt
  have hB := hB.step hB.size hb'
  repeat (first | refine T_move rfl rfl ?_ | refine T_nil0 ?_ | refine E_seq ?_ | refine E_region ?_)
  refine T_call rfl rfl (newReader_spec cv cs w1' (hY.later hB) hb) (fun r w2 hr => ?_)
  obtain ⟨b, cv', cs', rfl, hR, hB1, hnew⟩ := hr
  have hz2 := hB1.size
  have hx2 := hx2.later hB1
  have hx3 := hx3.later hB1
  have hG := GS.start hR
  have hlt := hG.lt
  repeat (first | refine T_move rfl rfl ?_ | refine T_assign rfl rfl ?_ | refine T_nil0 ?_ | refine E_seq ?_ | refine E_region ?_)
  refine T_call rfl rfl (anyReel_spec _ _ _ _ _ 0 hG.rd (by omega)) (fun r w3 hr => ?_)
  obtain ⟨x, u, q, rfl, hO, ⟨hdl, hW, hN⟩, hD⟩ := hr
  have hq := hD.most
  have hq0 := hD.rd.pos
  have hG := hG.drew hD
  have hx2 := hx2.drew hD (by omega)
  have hx3 := hx3.drew hD (by omega)
  have hz3 := hD.grown.size
  clear hD hR
  skip
  refine T_new (us := relC x u) zL sL rfl (fun _ => rfl) rfl rfl (relC_one hO.recs.rlen) (fun b5 w4 hn5 hx5 hb => ?_)
  have hG := hG.later hb
  have hx2 := hx2.later hb
  have hx3 := hx3.later hb
  have hub := hO.blk
  have hO := hO.later hb
  have hl5 := hx5.lt
  have hz4 := hb.size
  repeat (first | refine T_move rfl rfl ?_ | refine T_nil0 ?_ | refine E_seq ?_ | refine E_region ?_)
  refine T_call rfl rfl (anyReel_spec _ _ _ _ _ q hG.rd (by omega)) (fun r w5 hr => ?_)
  obtain ⟨y, v, q2, rfl, hV, ⟨hdl2, hW2, hN2⟩, hD⟩ := hr
  have hq2 := hD.most
  have hq20 := hD.rd.pos
  have hG := hG.drew hD
  have hx2 := hx2.drew hD (by omega)
  have hx3 := hx3.drew hD (by omega)
  have hx5 := hx5.drew hD (by omega)
  have hO := hO.drew hD (by omega)
  have hz5 := hD.grown.size
  clear hD
  skip
  refine T_new (us := relC y v) zL sL rfl (fun _ => rfl) rfl rfl (relC_one hV.recs.rlen) (fun b6 w6 hn6 hx6 hb => ?_)
  have hG := hG.later hb
  have hx2 := hx2.later hb
  have hx3 := hx3.later hb
  have hx5 := hx5.later hb
  have hO := hO.later hb
  have hvb := hV.blk
  have hV := hV.later hb
  have hl6 := hx6.lt
  have hz6 := hb.size
  repeat (first | refine T_move rfl rfl ?_ | refine T_nil0 ?_ | refine E_seq ?_ | refine E_region ?_)
  refine T_call rfl rfl (pick_spec _ _ _ _ _ (q2) (4) hG.rd (by omega)) (fun r w7 hr => ?_); obtain ⟨k, rfl, ka, kb, kc, hD⟩ := hr; have hG := hG.drew hD; have hgz := hD.grown.size
  have hx2 := hx2.drew hD (by omega)
  have hx3 := hx3.drew hD (by omega)
  have hx5 := hx5.drew hD (by omega)
  have hx6 := hx6.drew hD (by omega)
  have hO := hO.drew hD (by omega)
  have hV := hV.drew hD (by omega)
  clear hD
  repeat (first | refine T_nil0 ?_ | refine T_cmp rfl rfl rfl rfl ?_)
  refine E_cut (fun m' w' => ∃ z v', Sub [(2, bPtr b2 0), (3, bPtr b3 0), (5, bPtr b5 0), (6, bPtr b6 0)] m' ∧ Box w'.heap b2 (Value.agg (relC rz (.slice none 0 0)).toArray).cells.toList ∧ Box w'.heap b3 (Value.agg (relC rz (.slice none 0 0)).toArray).cells.toList ∧ Box w'.heap b5 (relC x u) ∧ Box w'.heap b6 (relC z v') ∧ OwnR recD w' w2.heap.size 57 u x.ds ∧ OwnR recD w' w2.heap.size 57 v' z.ds ∧ z.ds.length ≤ 6 ∧ GS w1' w2 w' b cv' cs' (q2 + 1) ∧ w7.heap.size ≤ w'.heap.size) (fun join => ?_) ?_
  case refine_2 =>
    rintro m' w8 ⟨z, v', hsub, hx2, hx3, hx5, hx6, hO, hV, hzl, hG, hz8⟩
    refine E.weaken hsub ?_
    repeat (first | refine E_seq ?_)
    refine E_region_heldM 3 (b2 + 4) w8.drew follows (by kernel_rfl) ?_
    have hdr : Below w8.heap.size w8 w8.drew := (Below.refl _ _).drew
    have hG := hG.later hdr
    have hx2 := hx2.later hdr
    have hx3 := hx3.later hdr
    have hx5 := hx5.later hdr
    have hx6 := hx6.later hdr
    have hO := hO.later hdr
    have hV := hV.later hdr
    have hzd : w8.drew.heap.size = w8.heap.size := rfl
    generalize w8.drew = w9 at *
    refine X_runM 0 2 (by kernel_rfl) (Stay.refl _ _ _) rfl ?_
    refine T_loadAgg4 aL sL rfl rfl hx5 rfl (by omega) ?_
    refine T_loadAgg4 aL sL rfl rfl hx6 rfl (by omega) ?_
    repeat (first | refine T_nil4 ?_)
    refine X_one 2 (by kernel_rfl) ?_
    refine T_storeBoxA (us := relC x u) sL rfl rfl rfl (relC_one hO.recs.rlen) hx2 rfl (fun w10 hx2 hg _ => ?_)
    have hO := hO.kept hg (hO.blk.ne_some (.inr (by omega)))
    have hV := hV.kept hg (hV.blk.ne_some (.inr (by omega)))
    have hx3 := hx3.kept hg (fun e => by simp at e; omega)
    have hlow := (hB.step hB.size hG.rd.below).grown hg (by have := hG.grown.size; omega) (fun c hc => by simp at hc; omega)
    have hz10 := hg.size
    repeat (first | refine T_nil0 ?_)
    refine ⟨Stay.of_box hg, ?_⟩
    refine X_tail (by kernel_rfl) ?_
    skip
    refine T_storeBoxA (us := relC z v') sL rfl rfl rfl (relC_one hV.recs.rlen) hx3 rfl (fun w11 hx3 hg _ => ?_)
    have hO := hO.kept hg (hO.blk.ne_some (.inr (by omega)))
    have hV := hV.kept hg (hV.blk.ne_some (.inr (by omega)))
    have hx2 := hx2.kept hg (fun e => by simp at e; omega)
    have hlow := hlow.grown hg (by have := hG.grown.size; omega) (fun c hc => by simp at hc; omega)
    repeat (first | refine T_nil0 ?_)
    exact E_retC2 rfl rfl rfl aL sL aL sL hx2 rfl hx3 rfl ⟨x, u, z, v', rfl, hO.base (by omega), hV.base (by omega), hdl, hzl, hlow⟩
  have hz7 := hG.grown.size
  refine E_cond_if rfl (fun g1 => ?_) (fun g1 => ?_)
  case refine_2 =>
    repeat (first | refine join _ _ ?_ | refine E_skip ?_)
    exact ⟨y, v, ⟨rfl, rfl, rfl, rfl, trivial⟩, hx2, hx3, hx5, hx6, hO, hV.base (by omega), hdl2, hG, Nat.le_refl _⟩
  have hRR := Below.refl w7.heap.size w7
  repeat (first | refine E_seq ?_ | refine E_region ?_ | refine T_fieldBoxF (fun _ _ => by kernel_rfl) rfl rfl ?_ | refine T_loadBoxB Try.isAgg3 rfl rfl (by assumption) (by assumption) (by rfl) ?_)
  refine T_storeBox Try.sizeOf3 rfl rfl rfl hx6 (Nat.le_of_ble_eq_true rfl) (fun w8 hx6 hg _ => ?_)
  have hx6 : Box w8.heap b6 (relC ⟨x.w, y.n, y.ds⟩ v) := hx6
  have hz8 := hg.size
  have hO := hO.kept hg (.inr (fun e => by have := hub _ e; omega))
  have hV := hV.kept hg (.inr (fun e => by have := hvb _ e; omega))
  have hG := hG.box hg (by omega)
  have hx2 := hx2.kept hg (fun e => by simp at e; omega)
  have hx3 := hx3.kept hg (fun e => by simp at e; omega)
  have hx5 := hx5.kept hg (fun e => by simp at e; omega)
  have hRR := Below.refl w8.heap.size w8
  repeat (first | refine T_assign rfl rfl ?_ | refine T_nil0 ?_ | refine E_seq ?_ | refine E_region ?_ | refine T_fieldBoxF (fun _ _ => by kernel_rfl) rfl rfl ?_ | refine T_loadBoxB Try.isAgg3 rfl rfl (by assumption) (by assumption) (by rfl) ?_)
  refine T_storeBox s1Ds rfl rfl (slice_one (k := 0) ⟨_, _, rfl⟩) hx6 (Nat.le_of_ble_eq_true rfl) (fun w9 hx6 hg _ => ?_)
  have hx6 : Box w9.heap b6 (relC ⟨x.w, y.n, []⟩ (.slice none 0 0)) := hx6
  have hz9 := hg.size
  have hO := hO.kept hg (.inr (fun e => by have := hub _ e; omega))
  have hV := hV.kept hg (.inr (fun e => by have := hvb _ e; omega))
  have hG := hG.box hg (by omega)
  have hx2 := hx2.kept hg (fun e => by simp at e; omega)
  have hx3 := hx3.kept hg (fun e => by simp at e; omega)
  have hx5 := hx5.kept hg (fun e => by simp at e; omega)
  clear hRR
  repeat (first | refine T_assign rfl rfl ?_ | refine T_nil0 ?_ | refine E_seq ?_ | refine E_region ?_)
  refine E_loop (σ := Nat × List Dfc × Value) (fun ⟨i, ds, q⟩ => [(2, bPtr b2 0), (3, bPtr b3 0), (5, bPtr b5 0), (6, bPtr b6 0), (7, v), (8, .int .i64 i)])
    (fun ⟨i, ds, q⟩ w' => i ≤ y.ds.length ∧ ds.length ≤ i ∧ Box w'.heap b2 (Value.agg (relC rz (.slice none 0 0)).toArray).cells.toList ∧ Box w'.heap b3 (Value.agg (relC rz (.slice none 0 0)).toArray).cells.toList ∧ Box w'.heap b5 (relC x u) ∧ Box w'.heap b6 (relC ⟨x.w, y.n, ds⟩ q) ∧ OwnR recD w' w2.heap.size 57 u x.ds ∧ OwnR recD w' w4.heap.size 57 v y.ds ∧ OwnR recD w' w9.heap.size 57 q ds ∧ GS w1' w2 w' b cv' cs' (q2 + 1) ∧ w9.heap.size ≤ w'.heap.size) (fun ⟨i, _⟩ => y.ds.length - i) (0, [], .slice none 0 0)
    ⟨by omega, by simp, hx2, hx3, hx5, hx6, hO, hV, OwnR.nil _ _ _ _, hG, Nat.le_refl _⟩ ⟨rfl, rfl, rfl, rfl, rfl, rfl, trivial⟩ ?_
  clear hx2 hx3 hx5 hx6 hO hV hG
  rintro ⟨i, ds, p⟩ w10 ⟨hi, hdi, hx2, hx3, hx5, hx6, hO, hV, hP, hG, hz10⟩ IH
  have hI := hV.recs
  have hRR := Below.refl w10.heap.size w10
  repeat (first | refine T_move rfl rfl ?_ | refine T_nil0 ?_ | refine E_seq ?_ | refine E_region ?_ | refine T_cmp rfl rfl rfl rfl ?_ | refine T_len tyD rfl rfl (Recs.rlen (r := recD) (by assumption)) ?_)
  refine E_cond_if rfl (fun hp1 => ?_) (fun hp1 => ?_)
  case refine_2 =>
    repeat (first | refine join _ _ ?_ | refine E_exit rfl ?_)
    exact ⟨⟨x.w, y.n, ds⟩, p, ⟨rfl, rfl, rfl, rfl, trivial⟩, hx2, hx3, hx5, hx6, hO, hP.base (by omega), by show ds.length ≤ 6; omega, hG, by omega⟩
  have hil : i < y.ds.length := by omega
  repeat (first | refine E_seq ?_ | refine E_skip ?_ | refine E_blockS ?_)
  refine E_region_quiet follows (by kernel_rfl) ?_
  repeat (first | refine T_move rfl rfl ?_ | refine T_loadBoxAB aL sL rfl rfl (by assumption) (by assumption) (by rfl) ?_ | refine T_indexD tyD rfl rfl rfl (by assumption) (by omega) ?_ | refine T_loadDA aD sD rfl rfl (by assumption) (by assumption) (by omega) ?_)
  refine T_callQ rfl rfl (fun w99 _ => validDefectW_spec ⟨x.w, y.n, ds⟩ p (y.ds.getD i dz) w99 (by dsimp only; omega) (by dsimp only; omega)) ?_
  skip
  refine T_nil2 (fun w11 hb => ?_)
  have hx2 := hx2.later hb
  have hx3 := hx3.later hb
  have hx5 := hx5.later hb
  have hx6 := hx6.later hb
  have hO := hO.later hb
  have hV := hV.later hb
  have hP := hP.later hb
  have hG := hG.later hb
  have hz11 := hb.size
  have hI := hV.recs
  have hRR := Below.refl w11.heap.size w11
  refine E_cond_if rfl (fun g2 => ?_) (fun g2 => ?_)
  case refine_2 =>
    repeat (first | refine T_move rfl rfl ?_ | refine T_assign rfl rfl ?_ | refine T_nil0 ?_ | refine E_region ?_ | refine T_add rfl rfl rfl (by omega) ?_ | refine E_skip ?_ | refine E_inBlock ?_)
    exact IH (i + 1, ds, p) w11 _ ⟨by omega, by omega, hx2, hx3, hx5, hx6, hO, hV, hP, hG, by omega⟩ (by show y.ds.length - (i + 1) < y.ds.length - i; omega) ⟨rfl, rfl, rfl, rfl, rfl, rfl, trivial⟩
  clear hRR
  skip
  refine E_region_held 7 w11.drew follows (by kernel_rfl) ?_
  have hdr : Below w11.heap.size w11 w11.drew := (Below.refl _ _).drew
  have hG := hG.later hdr
  have hx2 := hx2.later hdr
  have hx3 := hx3.later hdr
  have hx5 := hx5.later hdr
  have hx6 := hx6.later hdr
  have hO := hO.later hdr
  have hV := hV.later hdr
  have hP := hP.later hdr
  have hzd : w11.drew.heap.size = w11.heap.size := rfl
  generalize w11.drew = w12 at *
  have hI := hV.recs
  have hRR := Below.refl w12.heap.size w12
  refine X_run 0 6 (by kernel_rfl) hRR ?_
  repeat (first | refine T_move rfl rfl ?_ | refine T_nil3 ?_ | refine T_fieldBoxF (fun _ _ => by kernel_rfl) rfl rfl ?_ | refine T_loadBoxB Try.isAgg3 rfl rfl (by assumption) (by assumption) (by rfl) ?_ | refine T_indexD tyD rfl rfl rfl (by assumption) (by omega) ?_ | refine T_loadDA aD sD rfl rfl (by assumption) (by assumption) (by omega) ?_)
  refine X_one 6 (by kernel_rfl) ?_
  refine T_lit1 (r := recD) tyD rfl rfl rfl (fun lv w13 hL _ _ hb => ?_)
  have hG := hG.later hb
  have hx2 := hx2.later hb
  have hx3 := hx3.later hb
  have hx5 := hx5.later hb
  have hx6 := hx6.later hb
  have hO := hO.later hb
  have hV := hV.later hb
  have hP := hP.later hb
  have hz13 := hb.size
  have hpb := hP.blk
  repeat (first | refine T_nil0 ?_)
  refine ⟨hb, ?_⟩
  refine X_tail (by kernel_rfl) ?_
  skip
  refine T_appendR (r := recD) tyD rfl rfl rfl hP hL.recs (by omega) (by simp; omega) (by simp; omega) (fun p' w14 hP' hg hor => ?_)
  have hz14 := hg.size
  have hx2 := hx2.kept hg (fun e => by have := hpb _ e.symm; omega)
  have hx3 := hx3.kept hg (fun e => by have := hpb _ e.symm; omega)
  have hx5 := hx5.kept hg (fun e => by have := hpb _ e.symm; omega)
  have hx6 := hx6.kept hg (fun e => by have := hpb _ e.symm; omega)
  have hO := hO.kept hg (Blk.ne (fun b hb => hub b hb) hpb (.inl (by omega)))
  have hV := hV.kept hg (Blk.ne (fun b hb => hvb b hb) hpb (.inl (by omega)))
  have hG := hG.own hg hpb (by omega)
  repeat (first | refine T_fieldBoxF (fun _ _ => by kernel_rfl) rfl rfl ?_)
  refine T_storeBox s1Ds rfl rfl (slice_one hP'.recs.rlen) hx6 (Nat.le_of_ble_eq_true rfl) (fun w15 hx6 hg _ => ?_)
  have hz15 := hg.size
  have hx6 : Box w15.heap b6 (relC ⟨x.w, y.n, ds ++ [y.ds.getD i dz]⟩ p') := hx6
  have hpb' := hP'.blk
  have hP' := hP'.kept hg (.inr (fun e => by have := hpb' _ e; omega))
  have hO := hO.kept hg (.inr (fun e => by have := hub _ e; omega))
  have hV := hV.kept hg (.inr (fun e => by have := hvb _ e; omega))
  have hG := hG.box hg (by omega)
  have hx2 := hx2.kept hg (fun e => by simp at e; omega)
  have hx3 := hx3.kept hg (fun e => by simp at e; omega)
  have hx5 := hx5.kept hg (fun e => by simp at e; omega)
  repeat (first | refine T_move rfl rfl ?_ | refine T_assign rfl rfl ?_ | refine T_nil0 ?_ | refine E_region ?_ | refine T_add rfl rfl rfl (by omega) ?_ | refine E_inBlock ?_)
  exact IH (i + 1, ds ++ [y.ds.getD i dz], p') w15 _ ⟨by omega, by simp; omega, hx2, hx3, hx5, hx6, hO, hV, hP', hG, by omega⟩ (by show y.ds.length - (i + 1) < y.ds.length - i; omega) ⟨rfl, rfl, rfl, rfl, rfl, rfl, trivial⟩
end Go.Proofs.Ytehmphhdmpnlfaa
