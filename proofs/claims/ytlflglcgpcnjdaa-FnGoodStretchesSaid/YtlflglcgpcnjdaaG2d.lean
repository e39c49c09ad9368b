/-
  Contracts: the draws of the laws of good stretches. Conditions: the arguments lie in memory as the contract says.
-/
import Derived.Test.YtlflglcgpcnjdaaG2b
import Derived.Test.YtlflglcgpcnjdaaHeldS
import Derived.Test.YtlflglcgpcnjdaaLibQ
namespace Go.Proofs.Ytlflglcgpcnjdaa
open Go Go.PR Go.RowKit attribute [local irreducible] T E Ints Sl Bools OwnI OwnB OwnR Recs Box Ret
attribute [local irreducible] Bytes X XS

theorem DrawBadArea_spec (cv : Value) (cs : List Int) (w : World) (hY : Bytes w.heap cv cs) (hb : ∀ c ∈ cs, 0 ≤ c ∧ c ≤ 255) :
    Ret Try.prog 11 #[cv] w (fun r w' => ∃ x u y, r = .tuple #[relV x u, .int .i64 y] ∧ OwnR recD w' w.heap.size 72 u x.ds ∧ x.ds.length ≤ 6 ∧ Below w.heap.size w w') := by
  refine Ret_of (args := [_]) Try.call11 Try.func11 rfl _ Try.ntmps11 rfl ?_
  repeat (first | refine E_seq ?_ | refine E_region ?_)
  refine T_alloc zL rfl (fun b2 w1 hn2 hx2 hB0 => ?_)
  have hz1 := hB0.size
  have hl2 := hx2.lt
  repeat (first | refine T_move rfl rfl ?_ | refine T_assign rfl rfl ?_ | refine T_nil0 ?_ | refine E_seq ?_ | refine E_region ?_)
  refine T_call rfl rfl (newReader_spec cv cs w1 (hY.later hB0) hb) (fun r w2 hr => ?_)
  obtain ⟨b, cv', cs', rfl, hR, hB1, hnew⟩ := hr
  have hz2 := hB1.size
  have hx2 := hx2.later hB1
  have hG := GS.start hR
  have hlt0 := hG.lt
  repeat (first | refine T_move rfl rfl ?_ | refine T_assign rfl rfl ?_ | refine T_nil0 ?_ | refine E_seq ?_ | refine E_region ?_)
  refine T_call rfl rfl (anyReel_spec _ _ _ _ _ 0 hR (by omega)) (fun r w3 hr => ?_)
  obtain ⟨x, u, q, rfl, hO, ⟨hdl, _, _⟩, hD⟩ := hr
  have hq := hD.most
  have hq0 := hD.rd.pos
  have hG := hG.drew hD
  have hx2 := hx2.drew hD (by omega)
  have hz3 := hD.grown.size
  clear hD hR
  repeat (first | refine T_move rfl rfl ?_)
  refine T_call rfl rfl (pick_spec _ _ _ _ _ (q) (10) hG.rd (by omega)) (fun r w4 hr => ?_); obtain ⟨k, rfl, ka, kb, kc, hD⟩ := hr; have hG := hG.drew hD; have hgz := hD.grown.size
  have hx2 := hx2.drew hD (by omega)
  have hO := hO.drew hD (by omega)
  clear hD
  skip
  have hlt := hG.lt; have hgs := hG.grown.size; refine T_litI tyI rfl rfl rfl rfl (fun lv _ hL _ _ hB => ?_); have hgb := hB.size; have hG := hG.later hB; refine T_call rfl rfl (one_spec _ _ _ _ _ (q + 1) lv _ _ hG.rd (by omega) hL (by omega) (by simp) (by simp)) (fun r w5 hr => ?_); obtain ⟨y, rfl, ym, hD⟩ := hr; have hgz := hD.grown.size; have hG := hG.drew hD; simp only [List.mem_cons, List.not_mem_nil, or_false] at ym
  have hx2 := (hx2.later hB).drew hD (by omega)
  have hO := (hO.later hB).drew hD (by omega)
  clear hD hL
  skip
  refine T_storeBoxA (us := relC x u) sL rfl rfl rfl (relC_one hO.recs.rlen) hx2 rfl (fun w6 hx2 hg _ => ?_)
  have hO := hO.kept hg (hO.blk.ne_some (.inr (by omega)))
  repeat (first | refine T_assign rfl rfl ?_ | refine T_nil0 ?_)
  exact E_retC1 rfl rfl rfl aL sL hx2 rfl ⟨x, u, y, rfl, hO.base (by omega), hdl, (hB0.step hB0.size hG.rd.below).grown hg (by omega) (fun c hc => by simp at hc; omega)⟩

theorem DrawBestLanes_spec (cv : Value) (cs : List Int) (w : World) (hY : Bytes w.heap cv cs) (hb : ∀ c ∈ cs, 0 ≤ c ∧ c ≤ 255) :
    Ret Try.prog 25 #[cv] w (fun r w' => ∃ x u y z, r = .tuple #[relV x u, .int .i64 y, .int .i64 z] ∧ OwnR recD w' w.heap.size 72 u x.ds ∧ x.ds.length ≤ 6 ∧ Below w.heap.size w w') := by
  refine Ret_of (args := [_]) Try.call25 Try.func25 rfl _ Try.ntmps25 rfl ?_
  repeat (first | refine E_seq ?_ | refine E_region ?_)
  refine T_alloc zL rfl (fun b2 w1 hn2 hx2 hB0 => ?_)
  have hz1 := hB0.size
  have hl2 := hx2.lt
  repeat (first | refine T_move rfl rfl ?_ | refine T_assign rfl rfl ?_ | refine T_nil0 ?_ | refine E_seq ?_ | refine E_region ?_)
  refine T_call rfl rfl (newReader_spec cv cs w1 (hY.later hB0) hb) (fun r w2 hr => ?_)
  obtain ⟨b, cv', cs', rfl, hR, hB1, hnew⟩ := hr
  have hz2 := hB1.size
  have hx2 := hx2.later hB1
  have hG := GS.start hR
  have hlt0 := hG.lt
  repeat (first | refine T_move rfl rfl ?_ | refine T_assign rfl rfl ?_ | refine T_nil0 ?_ | refine E_seq ?_ | refine E_region ?_)
  refine T_call rfl rfl (anyReel_spec _ _ _ _ _ 0 hR (by omega)) (fun r w3 hr => ?_)
  obtain ⟨x, u, q, rfl, hO, ⟨hdl, _, _⟩, hD⟩ := hr
  have hq := hD.most
  have hq0 := hD.rd.pos
  have hG := hG.drew hD
  have hx2 := hx2.drew hD (by omega)
  have hz3 := hD.grown.size
  clear hD hR
  repeat (first | refine T_move rfl rfl ?_)
  have hlt := hG.lt; have hgs := hG.grown.size; refine T_litI tyI rfl rfl rfl rfl (fun lv _ hL _ _ hB => ?_); have hgb := hB.size; have hG := hG.later hB; refine T_call rfl rfl (one_spec _ _ _ _ _ (q) lv _ _ hG.rd (by omega) hL (by omega) (by simp) (by simp)) (fun r w4 hr => ?_); obtain ⟨y, rfl, ym, hD⟩ := hr; have hgz := hD.grown.size; have hG := hG.drew hD; simp only [List.mem_cons, List.not_mem_nil, or_false] at ym
  have hx2 := (hx2.later hB).drew hD (by omega)
  have hO := (hO.later hB).drew hD (by omega)
  clear hD hL
  repeat (first | refine T_move rfl rfl ?_)
  have hlt := hG.lt; have hgs := hG.grown.size; refine T_litI tyI rfl rfl rfl rfl (fun lv _ hL _ _ hB => ?_); have hgb := hB.size; have hG := hG.later hB; refine T_call rfl rfl (one_spec _ _ _ _ _ (q + 1) lv _ _ hG.rd (by omega) hL (by omega) (by simp) (by simp)) (fun r w5 hr => ?_); obtain ⟨z, rfl, zm, hD⟩ := hr; have hgz := hD.grown.size; have hG := hG.drew hD; simp only [List.mem_cons, List.not_mem_nil, or_false] at zm
  have hx2 := (hx2.later hB).drew hD (by omega)
  have hO := (hO.later hB).drew hD (by omega)
  clear hD hL
  skip
  refine T_storeBoxA (us := relC x u) sL rfl rfl rfl (relC_one hO.recs.rlen) hx2 rfl (fun w6 hx2 hg _ => ?_)
  have hO := hO.kept hg (hO.blk.ne_some (.inr (by omega)))
  repeat (first | refine T_assign rfl rfl ?_ | refine T_nil0 ?_)
  exact E_retC12 rfl rfl rfl rfl aL sL hx2 rfl ⟨x, u, y, z, rfl, hO.base (by omega), hdl, (hB0.step hB0.size hG.rd.below).grown hg (by omega) (fun c hc => by simp at hc; omega)⟩

set_option maxHeartbeats 1000000 in
theorem DrawGoodStretches_spec (cv : Value) (cs : List Int) (w : World) (hY : Bytes w.heap cv cs) (hb : ∀ c ∈ cs, 0 ≤ c ∧ c ≤ 255) :
    Ret Try.prog 21 #[cv] w (fun r w' => ∃ x u l h y, r = .tuple #[relV x u, .int .i64 l, .int .i64 h, .int .i64 y] ∧ OwnR recD w' w.heap.size 72 u x.ds ∧ x.ds.length ≤ 6 ∧ Below w.heap.size w w') := by
  refine Ret_of (args := [_]) Try.call21 Try.func21 rfl _ Try.ntmps21 rfl ?_
  repeat (first | refine E_seq ?_ | refine E_region ?_)
  refine T_alloc zL rfl (fun b2 w1 hn2 hx2 hB0 => ?_)
  have hz1 := hB0.size
  have hl2 := hx2.lt
  repeat (first | refine T_move rfl rfl ?_ | refine T_assign rfl rfl ?_ | refine T_nil0 ?_ | refine E_seq ?_ | refine E_region ?_)
  refine T_call rfl rfl (newReader_spec cv cs w1 (hY.later hB0) hb) (fun r w2 hr => ?_)
  obtain ⟨b, cv', cs', rfl, hR, hB1, hnew⟩ := hr
  have hz2 := hB1.size
  have hx2 := hx2.later hB1
  have hG := GS.start hR
  have hlt0 := hG.lt
  repeat (first | refine T_move rfl rfl ?_ | refine T_assign rfl rfl ?_ | refine T_nil0 ?_ | refine E_seq ?_ | refine E_region ?_)
  refine T_call rfl rfl (gpartOf_spec _ _ _ _ _ 0 hR (by omega)) (fun r w3 hr => ?_)
  obtain ⟨x, u, t, q, rfl, hO, hdl, hD⟩ := hr
  have hq := hD.most
  have hq0 := hD.rd.pos
  have hG := hG.drew hD
  have hx2 := hx2.drew hD (by omega)
  have hz3 := hD.grown.size
  clear hD hR
  repeat (first | refine T_move rfl rfl ?_ | refine T_extract rfl rfl rfl ?_)
  refine T_new2 (us := relC x u) (vs := recT.enc t) zL sL rfl zT sT rfl (fun _ _ => rfl) (fun _ _ => rfl) rfl rfl (by decide) rfl (relC_one hO.recs.rlen) rfl (recT.one _) (fun b7 b8 w6 hn7 hn8 hne hx7 hx8 hb => ?_)
  have hG := hG.later hb
  have hx2 := hx2.later hb
  have hO := hO.later hb
  have hz6 := hb.size
  have hl7 := hx7.lt
  have hl8 := hx8.lt
  clear hb
  repeat (first | refine T_nil0 ?_ | refine E_seq ?_)
  refine E_region_heldS 12 (fun w' => Mute w6.drew w' ∧ Box w'.heap b7 (relC x u) ∧ Box w'.heap b8 (recT.enc t)) follows (by kernel_rfl) ?_
  have hdr : Below w6.heap.size w6 w6.drew := (Below.refl _ _).drew
  have hG := hG.later hdr
  have hx2 := hx2.later hdr
  have hx7 := hx7.later hdr
  have hx8 := hx8.later hdr
  have hO := hO.later hdr
  have hzd : w6.drew.heap.size = w6.heap.size := rfl
  generalize w6.drew = w7 at *
  have hM : Mute w7 w7 := Mute.now rfl rfl rfl
  clear hdr
  refine XS_loadA 0 (by kernel_rfl) rfl aL sL rfl rfl ⟨hM, hx7, hx8⟩ (fun _ h => h.2.1) rfl ?_
  refine XS_run 1 1 (by kernel_rfl) ⟨hM, hx7, hx8⟩ (fun _ h => h.1) ?_
  repeat (first | refine T_nil3 ?_ | refine T_fieldBoxF (fun _ _ => by kernel_rfl) rfl rfl ?_)
  refine XS_loadC 2 (by kernel_rfl) rfl Try.isAgg3 rfl rfl ⟨hM, hx7, hx8⟩ (fun _ h => h.2.2) rfl ?_
  refine XS_run 3 1 (by kernel_rfl) ⟨hM, hx7, hx8⟩ (fun _ h => h.1) ?_
  repeat (first | refine T_nil3 ?_ | refine T_fieldBoxF (fun _ _ => by kernel_rfl) rfl rfl ?_)
  refine XS_loadC 4 (by kernel_rfl) rfl Try.isAgg3 rfl rfl ⟨hM, hx7, hx8⟩ (fun _ h => h.2.2) rfl ?_
  refine XS_run 5 2 (by kernel_rfl) ⟨hM, hx7, hx8⟩ (fun _ h => h.1) ?_
  repeat (first | refine T_move rfl rfl ?_ | refine T_nil3 ?_)
  refine XS_one 7 (by kernel_rfl) ?_
  refine T_call rfl rfl (pick_spec _ _ _ _ _ (q) (10) hG.rd (by omega)) (fun r w8 hr => ?_); obtain ⟨k, rfl, ka, kb, kc, hD⟩ := hr; have hG := hG.drew hD; have hgz := hD.grown.size
  have hM := hM.grown hD.grown
  have hx2 := hx2.drew hD (by omega)
  have hx7 := hx7.drew hD (by omega)
  have hx8 := hx8.drew hD (by omega)
  have hO := hO.drew hD (by omega)
  clear hD
  repeat (first | refine T_nil0 ?_)
  refine ⟨⟨hM, hx7, hx8⟩, ?_⟩
  refine XS_one 8 (by kernel_rfl) ?_
  have hlt := hG.lt
  have hgs := hG.grown.size
  refine T_litI tyI rfl rfl rfl rfl (fun lv w9 hL _ _ hB => ?_)
  have hgb := hB.size
  have hM := hM.later hB
  have hG := hG.later hB
  have hx2 := hx2.later hB
  have hx7 := hx7.later hB
  have hx8 := hx8.later hB
  have hO := hO.later hB
  repeat (first | refine T_nil0 ?_)
  refine ⟨⟨hM, hx7, hx8⟩, ?_⟩
  refine XS_one 9 (by kernel_rfl) ?_
  refine T_call rfl rfl (one_spec _ _ _ _ _ (q + 1) lv _ _ hG.rd (by omega) hL (by omega) (by simp) (by simp)) (fun r w10 hr => ?_)
  obtain ⟨y, rfl, ym, hD⟩ := hr
  have hgz := hD.grown.size
  have hG := hG.drew hD
  have hM := hM.grown hD.grown
  have hx2 := hx2.drew hD (by omega)
  have hx7 := hx7.drew hD (by omega)
  have hx8 := hx8.drew hD (by omega)
  have hO := hO.drew hD (by omega)
  clear hD
  repeat (first | refine T_nil0 ?_)
  refine ⟨⟨hM, hx7, hx8⟩, ?_⟩
  refine XS_one 10 (by kernel_rfl) ?_
  refine T_storeBoxA (us := relC x u) sL rfl rfl rfl (relC_one hO.recs.rlen) hx2 rfl (fun w11 hx2 hg _ => ?_)
  have hO := hO.kept hg (hO.blk.ne_some (.inr (by omega)))
  have hx7 := hx7.kept hg (fun e => by simp at e; omega)
  have hx8 := hx8.kept hg (fun e => by simp at e; omega)
  have hM := hM.grown hg
  have hlow := (hB0.step hB0.size hG.rd.below).grown hg (by omega) (fun c hc => by simp at hc; omega)
  repeat (first | refine T_nil0 ?_)
  refine ⟨⟨hM, hx7, hx8⟩, ?_⟩
  refine XS_run 11 1 (by kernel_rfl) ⟨hM, hx7, hx8⟩ (fun _ h => h.1) ?_
  repeat (first | refine T_assign rfl rfl ?_ | refine T_nil3 ?_)
  refine XS_tail (by kernel_rfl) ?_
  repeat (first | refine T_assign rfl rfl ?_ | refine T_nil0 ?_)
  exact E_retC13 rfl rfl rfl rfl rfl aL sL hx2 rfl ⟨x, u, t.l, t.r, y, rfl, hO.base (by omega), hdl, hlow⟩

theorem DrawLongestGood_spec (cv : Value) (cs : List Int) (w : World) (hY : Bytes w.heap cv cs) (hb : ∀ c ∈ cs, 0 ≤ c ∧ c ≤ 255) :
    Ret Try.prog 18 #[cv] w (fun r w' => ∃ x u l h y, r = .tuple #[relV x u, .int .i64 l, .int .i64 h, .int .i64 y] ∧ OwnR recD w' w.heap.size 72 u x.ds ∧ x.ds.length ≤ 6 ∧ Below w.heap.size w w') := by
  refine Ret_of (args := [_]) Try.call18 Try.func18 rfl _ Try.ntmps18 rfl ?_
  repeat (first | refine E_seq ?_ | refine E_region ?_)
  refine T_alloc zL rfl (fun b2 w1 hn2 hx2 hB0 => ?_)
  have hl2 := hx2.lt
  repeat (first | refine T_move rfl rfl ?_ | refine T_assign rfl rfl ?_ | refine T_nil0 ?_ | refine E_seq ?_ | refine E_region ?_)
  refine T_call rfl rfl (DrawGoodStretches_spec cv cs w1 (hY.later hB0) hb) (fun r w2 hr => ?_)
  obtain ⟨x, u, l, h, y, rfl, hO, hdl, hB⟩ := hr
  have hx2 := hx2.later hB
  repeat (first | refine T_extract rfl rfl rfl ?_)
  refine T_storeBoxA (us := relC x u) sL rfl rfl rfl (relC_one hO.recs.rlen) hx2 rfl (fun w3 hx2 hg _ => ?_)
  have hO := hO.kept hg (hO.blk.ne_some (.inr (by omega)))
  repeat (first | refine T_assign rfl rfl ?_ | refine T_nil0 ?_)
  exact E_retC13 rfl rfl rfl rfl rfl aL sL hx2 rfl ⟨x, u, l, h, y, rfl, hO.base hB0.size, hdl, (hB0.step hB0.size hB).grown hg (by have := hB0.size; have := hB.size; omega) (fun c hc => by simp at hc; omega)⟩
end Go.Proofs.Ytlflglcgpcnjdaa
