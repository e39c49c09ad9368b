/-
  Contracts: the draws of reels, their cuts and places. Conditions: the arguments lie in memory as the contract says.
-/
import Derived.Test.YtnecmchcemnopaaG2e
namespace Go.Proofs.Ytnecmchcemnopaa
open Go Go.PR Go.RowKit attribute [local irreducible] T E Ints Sl Bools OwnI OwnB OwnR Recs Box Ret
attribute [local irreducible] Bytes X XS

set_option maxHeartbeats 1000000 in
theorem DrawRollsWith_spec (cv : Value) (cs : List Int) (w : World) (hY : Bytes w.heap cv cs) (hb : ∀ c ∈ cs, 0 ≤ c ∧ c ≤ 255) :
    Ret Try.prog 16 #[cv] w (fun r w' => ∃ x u ps v y, r = .tuple #[relV x u, v, .int .i64 y] ∧ OwnR recD w' w.heap.size 37 u x.ds ∧ OwnR recT w' w.heap.size 40 v ps ∧ x.ds.length ≤ 6 ∧ ps.length ≤ 9 ∧ Below w.heap.size w w') := by
  refine Ret_of (args := [_]) Try.call16 Try.func16 rfl _ Try.ntmps16 rfl ?_
  repeat (first | refine E_seq ?_ | refine E_region ?_)
  refine T_alloc zL rfl (fun b2 w1 hn2 hx2 hB0 => ?_)
  have hz1 := hB0.size
  have hl2 := hx2.lt
  repeat (first | refine T_move rfl rfl ?_ | refine T_assign rfl rfl ?_ | refine T_nil0 ?_ | refine E_seq ?_ | refine E_region ?_)
  refine T_call rfl rfl (newReader_spec cv cs w1 (hY.later hB0) hb) (fun r w2 hr => ?_)
  obtain ⟨b, cv', cs', rfl, hR, hB1, hnew⟩ := hr
  have hz2 := hB1.size
  have hx2 := hx2.later hB1
  have hG := GS.start hR
  have hlt0 := hG.lt
  repeat (first | refine T_move rfl rfl ?_ | refine T_assign rfl rfl ?_ | refine T_nil0 ?_ | refine E_seq ?_ | refine E_region ?_)
  refine T_call rfl rfl (cutReel_spec _ _ _ _ _ 0 hR (by omega)) (fun r w3 hr => ?_)
  obtain ⟨x, u, ps, v, q, rfl, hO, hV, hdl, hpl, hD⟩ := hr
  have hq := hD.most
  have hq0 := hD.rd.pos
  have hG := hG.drew hD
  have hx2 := hx2.drew hD (by omega)
  have hz3 := hD.grown.size
  clear hD hR
  repeat (first | refine T_move rfl rfl ?_ | refine T_extract rfl rfl rfl ?_)
  refine T_new (us := relC x u) zL sL rfl (fun _ => rfl) rfl rfl (relC_one hO.recs.rlen) (fun b7 w6 hn7 hx7 hb => ?_)
  have hG := hG.later hb
  have hx2 := hx2.later hb
  have hO := hO.later hb
  have hV := hV.later hb
  have hz6 := hb.size
  have hl7 := hx7.lt
  clear hb
  repeat (first | refine T_assign rfl rfl ?_ | refine T_nil0 ?_ | refine E_seq ?_)
  refine E_region_heldS 6 (fun w' => Mute w6.drew w' ∧ Box w'.heap b7 (relC x u)) follows (by kernel_rfl) ?_
  have hdr : Below w6.heap.size w6 w6.drew := (Below.refl _ _).drew
  have hG := hG.later hdr
  have hx2 := hx2.later hdr
  have hx7 := hx7.later hdr
  have hO := hO.later hdr
  have hV := hV.later hdr
  have hzd : w6.drew.heap.size = w6.heap.size := rfl
  generalize w6.drew = w7 at *
  have hM : Mute w7 w7 := Mute.now rfl rfl rfl
  clear hdr
  refine XS_loadA 0 (by kernel_rfl) rfl aL sL rfl rfl ⟨hM, hx7⟩ (fun _ h => h.2) rfl ?_
  refine XS_run 1 2 (by kernel_rfl) ⟨hM, hx7⟩ (fun _ h => h.1) ?_
  repeat (first | refine T_move rfl rfl ?_ | refine T_nil3 ?_)
  refine XS_one 3 (by kernel_rfl) ?_
  have hlt := hG.lt
  have hgs := hG.grown.size
  refine T_litI tyI rfl rfl rfl rfl (fun lv w8 hL _ _ hB => ?_)
  have hgb := hB.size
  have hM := hM.later hB
  have hG := hG.later hB
  have hx2 := hx2.later hB
  have hx7 := hx7.later hB
  have hO := hO.later hB
  have hV := hV.later hB
  repeat (first | refine T_nil0 ?_)
  refine ⟨⟨hM, hx7⟩, ?_⟩
  refine XS_one 4 (by kernel_rfl) ?_
  refine T_call rfl rfl (one_spec _ _ _ _ _ (q) lv _ _ hG.rd (by omega) hL (by omega) (by simp) (by simp)) (fun r w9 hr => ?_)
  obtain ⟨y, rfl, ym, hD⟩ := hr
  have hgz := hD.grown.size
  have hG := hG.drew hD
  have hM := hM.grown hD.grown
  have hx2 := hx2.drew hD (by omega)
  have hx7 := hx7.drew hD (by omega)
  have hO := hO.drew hD (by omega)
  have hV := hV.drew hD (by omega)
  clear hD
  repeat (first | refine T_nil0 ?_)
  refine ⟨⟨hM, hx7⟩, ?_⟩
  refine XS_one 5 (by kernel_rfl) ?_
  refine T_storeBoxA (us := relC x u) sL rfl rfl rfl (relC_one hO.recs.rlen) hx2 rfl (fun w99 hx2 hg _ => ?_)
  have hO := hO.kept hg (hO.blk.ne_some (.inr (by omega)))
  have hV := hV.kept hg (hV.blk.ne_some (.inr (by omega)))
  have hx7 := hx7.kept hg (fun e => by simp at e; omega)
  have hM := hM.grown hg
  have hlow := (hB0.step hB0.size hG.rd.below).grown hg (by omega) (fun c hc => by simp at hc; omega)
  repeat (first | refine T_nil0 ?_)
  refine ⟨⟨hM, hx7⟩, ?_⟩
  refine XS_tail (by kernel_rfl) ?_
  repeat (first | refine T_assign rfl rfl ?_ | refine T_nil0 ?_)
  exact E_retC12 rfl rfl rfl rfl aL sL hx2 rfl ⟨x, u, ps, v, y, rfl, hO.base (by omega), hV.base (by omega), hdl, hpl, hlow⟩

set_option maxHeartbeats 1000000 in
theorem DrawRollAt_spec (cv : Value) (cs : List Int) (w : World) (hY : Bytes w.heap cv cs) (hb : ∀ c ∈ cs, 0 ≤ c ∧ c ≤ 255) :
    Ret Try.prog 30 #[cv] w (fun r w' => ∃ x u ps v y z, r = .tuple #[relV x u, v, .int .i64 y, .int .i64 z] ∧ OwnR recD w' w.heap.size 37 u x.ds ∧ OwnR recT w' w.heap.size 40 v ps ∧ x.ds.length ≤ 6 ∧ ps.length ≤ 9 ∧ Below w.heap.size w w') := by
  refine Ret_of (args := [_]) Try.call30 Try.func30 rfl _ Try.ntmps30 rfl ?_
  repeat (first | refine E_seq ?_ | refine E_region ?_)
  refine T_alloc zL rfl (fun b2 w1 hn2 hx2 hB0 => ?_)
  have hz1 := hB0.size
  have hl2 := hx2.lt
  repeat (first | refine T_move rfl rfl ?_ | refine T_assign rfl rfl ?_ | refine T_nil0 ?_ | refine E_seq ?_ | refine E_region ?_)
  refine T_call rfl rfl (newReader_spec cv cs w1 (hY.later hB0) hb) (fun r w2 hr => ?_)
  obtain ⟨b, cv', cs', rfl, hR, hB1, hnew⟩ := hr
  have hz2 := hB1.size
  have hx2 := hx2.later hB1
  have hG := GS.start hR
  have hlt0 := hG.lt
  repeat (first | refine T_move rfl rfl ?_ | refine T_assign rfl rfl ?_ | refine T_nil0 ?_ | refine E_seq ?_ | refine E_region ?_)
  refine T_call rfl rfl (cutReel_spec _ _ _ _ _ 0 hR (by omega)) (fun r w3 hr => ?_)
  obtain ⟨x, u, ps, v, q, rfl, hO, hV, hdl, hpl, hD⟩ := hr
  have hq := hD.most
  have hq0 := hD.rd.pos
  have hG := hG.drew hD
  have hx2 := hx2.drew hD (by omega)
  have hz3 := hD.grown.size
  clear hD hR
  repeat (first | refine T_move rfl rfl ?_ | refine T_extract rfl rfl rfl ?_)
  refine T_new (us := relC x u) zL sL rfl (fun _ => rfl) rfl rfl (relC_one hO.recs.rlen) (fun b7 w6 hn7 hx7 hb => ?_)
  have hG := hG.later hb
  have hx2 := hx2.later hb
  have hO := hO.later hb
  have hV := hV.later hb
  have hz6 := hb.size
  have hl7 := hx7.lt
  clear hb
  repeat (first | refine T_assign rfl rfl ?_ | refine T_nil0 ?_ | refine E_seq ?_)
  refine E_region_heldS 17 (fun w' => Mute w6.drew w' ∧ Box w'.heap b7 (relC x u)) follows (by kernel_rfl) ?_
  have hdr : Below w6.heap.size w6 w6.drew := (Below.refl _ _).drew
  have hG := hG.later hdr
  have hx2 := hx2.later hdr
  have hx7 := hx7.later hdr
  have hO := hO.later hdr
  have hV := hV.later hdr
  have hzd : w6.drew.heap.size = w6.heap.size := rfl
  generalize w6.drew = w7 at *
  have hM : Mute w7 w7 := Mute.now rfl rfl rfl
  clear hdr
  refine XS_loadA 0 (by kernel_rfl) rfl aL sL rfl rfl ⟨hM, hx7⟩ (fun _ h => h.2) rfl ?_
  refine XS_run 1 3 (by kernel_rfl) ⟨hM, hx7⟩ (fun _ h => h.1) ?_
  repeat (first | refine T_move rfl rfl ?_ | refine T_nil3 ?_)
  refine XS_run 5 1 (by kernel_rfl) ⟨hM, hx7⟩ (fun _ h => h.1) ?_
  repeat (first | refine T_move rfl rfl ?_ | refine T_nil3 ?_)
  refine XS_run 9 2 (by kernel_rfl) ⟨hM, hx7⟩ (fun _ h => h.1) ?_
  repeat (first | refine T_move rfl rfl ?_ | refine T_nil3 ?_)
  refine XS_run 12 1 (by kernel_rfl) ⟨hM, hx7⟩ (fun _ h => h.1) ?_
  repeat (first | refine T_move rfl rfl ?_ | refine T_nil3 ?_)
  refine XS_one 4 (by kernel_rfl) ?_
  refine T_call rfl rfl (pick_spec _ _ _ _ _ (q) (12) hG.rd (by omega)) (fun r w8 hr => ?_); obtain ⟨k1, rfl, k1a, k1b, k1c, hD⟩ := hr; have hG := hG.drew hD; have hgz := hD.grown.size
  have hM := hM.grown hD.grown
  have hx2 := hx2.drew hD (by omega)
  have hx7 := hx7.drew hD (by omega)
  have hO := hO.drew hD (by omega)
  have hV := hV.drew hD (by omega)
  clear hD
  repeat (first | refine T_nil0 ?_)
  refine ⟨⟨hM, hx7⟩, ?_⟩
  refine XS_one 6 (by kernel_rfl) ?_
  refine T_call rfl rfl (pick_spec _ _ _ _ _ (q + 1) (24) hG.rd (by omega)) (fun r w9 hr => ?_); obtain ⟨k2, rfl, k2a, k2b, k2c, hD⟩ := hr; have hG := hG.drew hD; have hgz := hD.grown.size
  have hM := hM.grown hD.grown
  have hx2 := hx2.drew hD (by omega)
  have hx7 := hx7.drew hD (by omega)
  have hO := hO.drew hD (by omega)
  have hV := hV.drew hD (by omega)
  clear hD
  repeat (first | refine T_nil0 ?_)
  refine ⟨⟨hM, hx7⟩, ?_⟩
  refine XS_one 7 (by kernel_rfl) ?_
  have hlt := hG.lt
  have hgs := hG.grown.size
  refine T_litI tyI rfl rfl rfl rfl (fun lv w10 hL _ _ hB => ?_)
  have hgb := hB.size
  have hM := hM.later hB
  have hG := hG.later hB
  have hx2 := hx2.later hB
  have hx7 := hx7.later hB
  have hO := hO.later hB
  have hV := hV.later hB
  repeat (first | refine T_nil0 ?_)
  refine ⟨⟨hM, hx7⟩, ?_⟩
  refine XS_one 8 (by kernel_rfl) ?_
  refine T_call rfl rfl (one_spec _ _ _ _ _ (q + 1 + 1) lv _ _ hG.rd (by omega) hL (by omega) (by simp) (by simp)) (fun r w11 hr => ?_)
  obtain ⟨y, rfl, ym, hD⟩ := hr
  have hgz := hD.grown.size
  have hG := hG.drew hD
  have hM := hM.grown hD.grown
  have hx2 := hx2.drew hD (by omega)
  have hx7 := hx7.drew hD (by omega)
  have hO := hO.drew hD (by omega)
  have hV := hV.drew hD (by omega)
  clear hD
  repeat (first | refine T_nil0 ?_)
  refine ⟨⟨hM, hx7⟩, ?_⟩
  refine XS_one 11 (by kernel_rfl) ?_
  refine T_call rfl rfl (pick_spec _ _ _ _ _ (q + 1 + 1 + 1) (30) hG.rd (by omega)) (fun r w12 hr => ?_); obtain ⟨k3, rfl, k3a, k3b, k3c, hD⟩ := hr; have hG := hG.drew hD; have hgz := hD.grown.size
  have hM := hM.grown hD.grown
  have hx2 := hx2.drew hD (by omega)
  have hx7 := hx7.drew hD (by omega)
  have hO := hO.drew hD (by omega)
  have hV := hV.drew hD (by omega)
  clear hD
  repeat (first | refine T_nil0 ?_)
  refine ⟨⟨hM, hx7⟩, ?_⟩
  refine XS_one 13 (by kernel_rfl) ?_
  refine T_call rfl rfl (pick_spec _ _ _ _ _ (q + 1 + 1 + 1 + 1) (50) hG.rd (by omega)) (fun r w13 hr => ?_); obtain ⟨k4, rfl, k4a, k4b, k4c, hD⟩ := hr; have hG := hG.drew hD; have hgz := hD.grown.size
  have hM := hM.grown hD.grown
  have hx2 := hx2.drew hD (by omega)
  have hx7 := hx7.drew hD (by omega)
  have hO := hO.drew hD (by omega)
  have hV := hV.drew hD (by omega)
  clear hD
  repeat (first | refine T_nil0 ?_)
  refine ⟨⟨hM, hx7⟩, ?_⟩
  refine XS_one 14 (by kernel_rfl) ?_
  have hlt := hG.lt
  have hgs := hG.grown.size
  refine T_litI tyI rfl rfl rfl rfl (fun lv2 w14 hL _ _ hB => ?_)
  have hgb := hB.size
  have hM := hM.later hB
  have hG := hG.later hB
  have hx2 := hx2.later hB
  have hx7 := hx7.later hB
  have hO := hO.later hB
  have hV := hV.later hB
  repeat (first | refine T_nil0 ?_)
  refine ⟨⟨hM, hx7⟩, ?_⟩
  refine XS_one 15 (by kernel_rfl) ?_
  refine T_call rfl rfl (one_spec _ _ _ _ _ (q + 1 + 1 + 1 + 1 + 1) lv2 _ _ hG.rd (by omega) hL (by omega) (by simp) (by simp)) (fun r w15 hr => ?_)
  obtain ⟨z, rfl, zm, hD⟩ := hr
  have hgz := hD.grown.size
  have hG := hG.drew hD
  have hM := hM.grown hD.grown
  have hx2 := hx2.drew hD (by omega)
  have hx7 := hx7.drew hD (by omega)
  have hO := hO.drew hD (by omega)
  have hV := hV.drew hD (by omega)
  clear hD
  repeat (first | refine T_nil0 ?_)
  refine ⟨⟨hM, hx7⟩, ?_⟩
  refine XS_one 16 (by kernel_rfl) ?_
  refine T_storeBoxA (us := relC x u) sL rfl rfl rfl (relC_one hO.recs.rlen) hx2 rfl (fun w99 hx2 hg _ => ?_)
  have hO := hO.kept hg (hO.blk.ne_some (.inr (by omega)))
  have hV := hV.kept hg (hV.blk.ne_some (.inr (by omega)))
  have hx7 := hx7.kept hg (fun e => by simp at e; omega)
  have hM := hM.grown hg
  have hlow := (hB0.step hB0.size hG.rd.below).grown hg (by omega) (fun c hc => by simp at hc; omega)
  repeat (first | refine T_nil0 ?_)
  refine ⟨⟨hM, hx7⟩, ?_⟩
  refine XS_tail (by kernel_rfl) ?_
  repeat (first | refine T_assign rfl rfl ?_ | refine T_nil0 ?_)
  exact E_retC13 rfl rfl rfl rfl rfl aL sL hx2 rfl ⟨x, u, ps, v, y, z, rfl, hO.base (by omega), hV.base (by omega), hdl, hpl, hlow⟩

set_option maxHeartbeats 1000000 in
theorem DrawReelAt_spec (cv : Value) (cs : List Int) (w : World) (hY : Bytes w.heap cv cs) (hb : ∀ c ∈ cs, 0 ≤ c ∧ c ≤ 255) :
    Ret Try.prog 23 #[cv] w (fun r w' => ∃ x u ps v i y z, r = .tuple #[relV x u, v, .int .i64 i, .int .i64 y, .int .i64 z] ∧ OwnR recD w' w.heap.size 37 u x.ds ∧ OwnR recT w' w.heap.size 40 v ps ∧ x.ds.length ≤ 6 ∧ ps.length ≤ 9 ∧ Below w.heap.size w w') := by
  refine Ret_of (args := [_]) Try.call23 Try.func23 rfl _ Try.ntmps23 rfl ?_
  repeat (first | refine E_seq ?_ | refine E_region ?_)
  refine T_alloc zL rfl (fun b2 w1 hn2 hx2 hB0 => ?_)
  have hz1 := hB0.size
  have hl2 := hx2.lt
  repeat (first | refine T_move rfl rfl ?_ | refine T_assign rfl rfl ?_ | refine T_nil0 ?_ | refine E_seq ?_ | refine E_region ?_)
  refine T_call rfl rfl (newReader_spec cv cs w1 (hY.later hB0) hb) (fun r w2 hr => ?_)
  obtain ⟨b, cv', cs', rfl, hR, hB1, hnew⟩ := hr
  have hz2 := hB1.size
  have hx2 := hx2.later hB1
  have hG := GS.start hR
  have hlt0 := hG.lt
  repeat (first | refine T_move rfl rfl ?_ | refine T_assign rfl rfl ?_ | refine T_nil0 ?_ | refine E_seq ?_ | refine E_region ?_)
  refine T_call rfl rfl (cutReel_spec _ _ _ _ _ 0 hR (by omega)) (fun r w3 hr => ?_)
  obtain ⟨x, u, ps, v, q, rfl, hO, hV, hdl, hpl, hD⟩ := hr
  have hq := hD.most
  have hq0 := hD.rd.pos
  have hG := hG.drew hD
  have hx2 := hx2.drew hD (by omega)
  have hz3 := hD.grown.size
  clear hD hR
  repeat (first | refine T_move rfl rfl ?_ | refine T_extract rfl rfl rfl ?_)
  refine T_new (us := relC x u) zL sL rfl (fun _ => rfl) rfl rfl (relC_one hO.recs.rlen) (fun b7 w6 hn7 hx7 hb => ?_)
  have hG := hG.later hb
  have hx2 := hx2.later hb
  have hO := hO.later hb
  have hV := hV.later hb
  have hz6 := hb.size
  have hl7 := hx7.lt
  clear hb
  repeat (first | refine T_assign rfl rfl ?_ | refine T_nil0 ?_ | refine E_seq ?_)
  refine E_region_heldS 20 (fun w' => Mute w6.drew w' ∧ Box w'.heap b7 (relC x u)) follows (by kernel_rfl) ?_
  have hdr : Below w6.heap.size w6 w6.drew := (Below.refl _ _).drew
  have hG := hG.later hdr
  have hx2 := hx2.later hdr
  have hx7 := hx7.later hdr
  have hO := hO.later hdr
  have hV := hV.later hdr
  have hzd : w6.drew.heap.size = w6.heap.size := rfl
  generalize w6.drew = w7 at *
  have hM : Mute w7 w7 := Mute.now rfl rfl rfl
  clear hdr
  refine XS_loadA 0 (by kernel_rfl) rfl aL sL rfl rfl ⟨hM, hx7⟩ (fun _ h => h.2) rfl ?_
  refine XS_run 1 2 (by kernel_rfl) ⟨hM, hx7⟩ (fun _ h => h.1) ?_
  repeat (first | refine T_move rfl rfl ?_ | refine T_nil3 ?_)
  refine XS_run 5 2 (by kernel_rfl) ⟨hM, hx7⟩ (fun _ h => h.1) ?_
  repeat (first | refine T_move rfl rfl ?_ | refine T_nil3 ?_)
  refine XS_run 8 1 (by kernel_rfl) ⟨hM, hx7⟩ (fun _ h => h.1) ?_
  repeat (first | refine T_move rfl rfl ?_ | refine T_nil3 ?_)
  refine XS_run 12 2 (by kernel_rfl) ⟨hM, hx7⟩ (fun _ h => h.1) ?_
  repeat (first | refine T_move rfl rfl ?_ | refine T_nil3 ?_)
  refine XS_run 15 1 (by kernel_rfl) ⟨hM, hx7⟩ (fun _ h => h.1) ?_
  repeat (first | refine T_move rfl rfl ?_ | refine T_nil3 ?_)
  refine XS_one 3 (by kernel_rfl) ?_
  have hlt := hG.lt
  have hgs := hG.grown.size
  refine T_litI tyI rfl rfl rfl rfl (fun lv w8 hL _ _ hB => ?_)
  have hgb := hB.size
  have hM := hM.later hB
  have hG := hG.later hB
  have hx2 := hx2.later hB
  have hx7 := hx7.later hB
  have hO := hO.later hB
  have hV := hV.later hB
  repeat (first | refine T_nil0 ?_)
  refine ⟨⟨hM, hx7⟩, ?_⟩
  refine XS_one 4 (by kernel_rfl) ?_
  refine T_call rfl rfl (one_spec _ _ _ _ _ (q) lv _ _ hG.rd (by omega) hL (by omega) (by simp) (by simp)) (fun r w9 hr => ?_)
  obtain ⟨i, rfl, im, hD⟩ := hr
  have hgz := hD.grown.size
  have hG := hG.drew hD
  have hM := hM.grown hD.grown
  have hx2 := hx2.drew hD (by omega)
  have hx7 := hx7.drew hD (by omega)
  have hO := hO.drew hD (by omega)
  have hV := hV.drew hD (by omega)
  clear hD
  repeat (first | refine T_nil0 ?_)
  refine ⟨⟨hM, hx7⟩, ?_⟩
  refine XS_one 7 (by kernel_rfl) ?_
  refine T_call rfl rfl (pick_spec _ _ _ _ _ (q + 1) (6) hG.rd (by omega)) (fun r w10 hr => ?_); obtain ⟨k1, rfl, k1a, k1b, k1c, hD⟩ := hr; have hG := hG.drew hD; have hgz := hD.grown.size
  have hM := hM.grown hD.grown
  have hx2 := hx2.drew hD (by omega)
  have hx7 := hx7.drew hD (by omega)
  have hO := hO.drew hD (by omega)
  have hV := hV.drew hD (by omega)
  clear hD
  repeat (first | refine T_nil0 ?_)
  refine ⟨⟨hM, hx7⟩, ?_⟩
  refine XS_one 9 (by kernel_rfl) ?_
  refine T_call rfl rfl (pick_spec _ _ _ _ _ (q + 1 + 1) (20) hG.rd (by omega)) (fun r w11 hr => ?_); obtain ⟨k2, rfl, k2a, k2b, k2c, hD⟩ := hr; have hG := hG.drew hD; have hgz := hD.grown.size
  have hM := hM.grown hD.grown
  have hx2 := hx2.drew hD (by omega)
  have hx7 := hx7.drew hD (by omega)
  have hO := hO.drew hD (by omega)
  have hV := hV.drew hD (by omega)
  clear hD
  repeat (first | refine T_nil0 ?_)
  refine ⟨⟨hM, hx7⟩, ?_⟩
  refine XS_one 10 (by kernel_rfl) ?_
  have hlt := hG.lt
  have hgs := hG.grown.size
  refine T_litI tyI rfl rfl rfl rfl (fun lv2 w12 hL _ _ hB => ?_)
  have hgb := hB.size
  have hM := hM.later hB
  have hG := hG.later hB
  have hx2 := hx2.later hB
  have hx7 := hx7.later hB
  have hO := hO.later hB
  have hV := hV.later hB
  repeat (first | refine T_nil0 ?_)
  refine ⟨⟨hM, hx7⟩, ?_⟩
  refine XS_one 11 (by kernel_rfl) ?_
  refine T_call rfl rfl (one_spec _ _ _ _ _ (q + 1 + 1 + 1) lv2 _ _ hG.rd (by omega) hL (by omega) (by simp) (by simp)) (fun r w13 hr => ?_)
  obtain ⟨y, rfl, ym, hD⟩ := hr
  have hgz := hD.grown.size
  have hG := hG.drew hD
  have hM := hM.grown hD.grown
  have hx2 := hx2.drew hD (by omega)
  have hx7 := hx7.drew hD (by omega)
  have hO := hO.drew hD (by omega)
  have hV := hV.drew hD (by omega)
  clear hD
  repeat (first | refine T_nil0 ?_)
  refine ⟨⟨hM, hx7⟩, ?_⟩
  refine XS_one 14 (by kernel_rfl) ?_
  refine T_call rfl rfl (pick_spec _ _ _ _ _ (q + 1 + 1 + 1 + 1) (10) hG.rd (by omega)) (fun r w14 hr => ?_); obtain ⟨k3, rfl, k3a, k3b, k3c, hD⟩ := hr; have hG := hG.drew hD; have hgz := hD.grown.size
  have hM := hM.grown hD.grown
  have hx2 := hx2.drew hD (by omega)
  have hx7 := hx7.drew hD (by omega)
  have hO := hO.drew hD (by omega)
  have hV := hV.drew hD (by omega)
  clear hD
  repeat (first | refine T_nil0 ?_)
  refine ⟨⟨hM, hx7⟩, ?_⟩
  refine XS_one 16 (by kernel_rfl) ?_
  refine T_call rfl rfl (pick_spec _ _ _ _ _ (q + 1 + 1 + 1 + 1 + 1) (40) hG.rd (by omega)) (fun r w15 hr => ?_); obtain ⟨k4, rfl, k4a, k4b, k4c, hD⟩ := hr; have hG := hG.drew hD; have hgz := hD.grown.size
  have hM := hM.grown hD.grown
  have hx2 := hx2.drew hD (by omega)
  have hx7 := hx7.drew hD (by omega)
  have hO := hO.drew hD (by omega)
  have hV := hV.drew hD (by omega)
  clear hD
  repeat (first | refine T_nil0 ?_)
  refine ⟨⟨hM, hx7⟩, ?_⟩
  refine XS_one 17 (by kernel_rfl) ?_
  have hlt := hG.lt
  have hgs := hG.grown.size
  refine T_litI tyI rfl rfl rfl rfl (fun lv3 w16 hL _ _ hB => ?_)
  have hgb := hB.size
  have hM := hM.later hB
  have hG := hG.later hB
  have hx2 := hx2.later hB
  have hx7 := hx7.later hB
  have hO := hO.later hB
  have hV := hV.later hB
  repeat (first | refine T_nil0 ?_)
  refine ⟨⟨hM, hx7⟩, ?_⟩
  refine XS_one 18 (by kernel_rfl) ?_
  refine T_call rfl rfl (one_spec _ _ _ _ _ (q + 1 + 1 + 1 + 1 + 1 + 1) lv3 _ _ hG.rd (by omega) hL (by omega) (by simp) (by simp)) (fun r w17 hr => ?_)
  obtain ⟨z, rfl, zm, hD⟩ := hr
  have hgz := hD.grown.size
  have hG := hG.drew hD
  have hM := hM.grown hD.grown
  have hx2 := hx2.drew hD (by omega)
  have hx7 := hx7.drew hD (by omega)
  have hO := hO.drew hD (by omega)
  have hV := hV.drew hD (by omega)
  clear hD
  repeat (first | refine T_nil0 ?_)
  refine ⟨⟨hM, hx7⟩, ?_⟩
  refine XS_one 19 (by kernel_rfl) ?_
  refine T_storeBoxA (us := relC x u) sL rfl rfl rfl (relC_one hO.recs.rlen) hx2 rfl (fun w99 hx2 hg _ => ?_)
  have hO := hO.kept hg (hO.blk.ne_some (.inr (by omega)))
  have hV := hV.kept hg (hV.blk.ne_some (.inr (by omega)))
  have hx7 := hx7.kept hg (fun e => by simp at e; omega)
  have hM := hM.grown hg
  have hlow := (hB0.step hB0.size hG.rd.below).grown hg (by omega) (fun c hc => by simp at hc; omega)
  repeat (first | refine T_nil0 ?_)
  refine ⟨⟨hM, hx7⟩, ?_⟩
  refine XS_tail (by kernel_rfl) ?_
  repeat (first | refine T_assign rfl rfl ?_ | refine T_nil0 ?_)
  exact E_retC14 rfl rfl rfl rfl rfl rfl aL sL hx2 rfl ⟨x, u, ps, v, i, y, z, rfl, hO.base (by omega), hV.base (by omega), hdl, hpl, hlow⟩
end Go.Proofs.Ytnecmchcemnopaa
