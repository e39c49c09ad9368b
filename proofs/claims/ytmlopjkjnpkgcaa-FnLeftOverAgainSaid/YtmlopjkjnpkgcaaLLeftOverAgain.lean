/-
  The walk of laws.FnLeftOverAgain: it returns true, and writes nothing that was there. Conditions: the arguments lie in memory as the contract says.
-/
import Derived.Test.YtmlopjkjnpkgcaaC5f
namespace Go.Proofs.Ytmlopjkjnpkgcaa
open Go Go.PR Go.RowKit attribute [local irreducible] T E Ints Sl Bools OwnI OwnB OwnR Recs Box Ret
attribute [local irreducible] Bytes

theorem FnLeftOverAgain_walk (cv : Value) (cs : List Int) (w : World) (hY : Bytes w.heap cv cs ∧ ∀ c ∈ cs, 0 ≤ c ∧ c ≤ 255) :
    Ret Try.prog 4 #[cv] w (fun r w' => r = .bool true ∧ Below w.heap.size w w') := by
  obtain ⟨hY, hby⟩ := hY
  refine Ret_of (args := [_]) Try.call4 Try.func4 rfl _ Try.ntmps4 rfl ?_
  repeat (first | (first | refine T_move rfl rfl ?_ | refine T_assign rfl rfl ?_ | refine T_nil0 ?_ | refine T_nil1 ?_ | refine E_seq ?_ | refine E_region ?_ | refine T_cmp rfl rfl rfl rfl ?_ | refine T_on rfl rfl ?_ | refine T_off rfl rfl rfl ?_ | refine T_add rfl rfl rfl (by omega) ?_ | refine T_sub rfl rfl rfl (by omega) ?_ | refine T_pick_true rfl rfl rfl ?_ | refine T_pick_false rfl rfl rfl ?_ | refine E_cond_true rfl ?_ | refine E_cond_false rfl ?_ | refine E_skip ?_ | refine E_blockS ?_ | refine E_blockR ?_ | refine E_blockC ?_ | refine E_blockB ?_ | refine E_inBlock ?_ | refine E_exit rfl ?_ | refine T_not rfl rfl ?_ | refine T_notB rfl rfl ?_ | refine T_max rfl rfl rfl ?_ | refine T_min rfl rfl rfl ?_ | refine T_extract rfl rfl rfl ?_) | (first | refine T_len tyI rfl rfl (Ints.len (by assumption)) ?_ | refine T_indexN tyI rfl rfl rfl (by assumption) (by omega) ?_ | refine T_indexI tyI rfl rfl rfl (by assumption) (by omega) ?_ | refine T_loadI Try.isAgg3 rfl rfl (by assumption) (by omega) ?_))
  refine T_len tyY rfl rfl hY.len ?_
  repeat (first | (first | refine T_move rfl rfl ?_ | refine T_assign rfl rfl ?_ | refine T_nil0 ?_ | refine T_nil1 ?_ | refine E_seq ?_ | refine E_region ?_ | refine T_cmp rfl rfl rfl rfl ?_ | refine T_on rfl rfl ?_ | refine T_off rfl rfl rfl ?_ | refine T_add rfl rfl rfl (by omega) ?_ | refine T_sub rfl rfl rfl (by omega) ?_ | refine T_pick_true rfl rfl rfl ?_ | refine T_pick_false rfl rfl rfl ?_ | refine E_cond_true rfl ?_ | refine E_cond_false rfl ?_ | refine E_skip ?_ | refine E_blockS ?_ | refine E_blockR ?_ | refine E_blockC ?_ | refine E_blockB ?_ | refine E_inBlock ?_ | refine E_exit rfl ?_ | refine T_not rfl rfl ?_ | refine T_notB rfl rfl ?_ | refine T_max rfl rfl rfl ?_ | refine T_min rfl rfl rfl ?_ | refine T_extract rfl rfl rfl ?_) | (first | refine T_len tyI rfl rfl (Ints.len (by assumption)) ?_ | refine T_indexN tyI rfl rfl rfl (by assumption) (by omega) ?_ | refine T_indexI tyI rfl rfl rfl (by assumption) (by omega) ?_ | refine T_loadI Try.isAgg3 rfl rfl (by assumption) (by omega) ?_))
  refine E_cond_if rfl (fun hp => ?_) (fun hp => ?_)
  · repeat' (first | (first | refine T_move rfl rfl ?_ | refine T_assign rfl rfl ?_ | refine T_nil0 ?_ | refine T_nil1 ?_ | refine E_seq ?_ | refine E_region ?_ | refine T_cmp rfl rfl rfl rfl ?_ | refine T_on rfl rfl ?_ | refine T_off rfl rfl rfl ?_ | refine T_add rfl rfl rfl (by omega) ?_ | refine T_sub rfl rfl rfl (by omega) ?_ | refine T_pick_true rfl rfl rfl ?_ | refine T_pick_false rfl rfl rfl ?_ | refine E_cond_true rfl ?_ | refine E_cond_false rfl ?_ | refine E_skip ?_ | refine E_blockS ?_ | refine E_blockR ?_ | refine E_blockC ?_ | refine E_blockB ?_ | refine E_inBlock ?_ | refine E_exit rfl ?_ | refine T_not rfl rfl ?_ | refine T_notB rfl rfl ?_ | refine T_max rfl rfl rfl ?_ | refine T_min rfl rfl rfl ?_ | refine T_extract rfl rfl rfl ?_) | (first | refine T_len tyI rfl rfl (Ints.len (by assumption)) ?_ | refine T_indexN tyI rfl rfl rfl (by assumption) (by omega) ?_ | refine T_indexI tyI rfl rfl rfl (by assumption) (by omega) ?_ | refine T_loadI Try.isAgg3 rfl rfl (by assumption) (by omega) ?_) | (first | refine T_guard rfl rfl (fun hp => ?_) (fun hp => ?_) | refine T_guardB rfl rfl (fun hp => ?_) (fun hp => ?_) | refine E_cond_if rfl (fun hp => ?_) (fun hp => ?_) | refine E_cond_bool rfl (fun hp => ?_) (fun hp => ?_)) | (first | refine E_ret1 rfl rfl ?_ | refine E_ret2 rfl rfl rfl ?_ | refine E_ret3 rfl rfl rfl rfl ?_))
    exact ⟨rfl, Below.refl _ _⟩
  repeat (first | (first | refine T_move rfl rfl ?_ | refine T_assign rfl rfl ?_ | refine T_nil0 ?_ | refine T_nil1 ?_ | refine E_seq ?_ | refine E_region ?_ | refine T_cmp rfl rfl rfl rfl ?_ | refine T_on rfl rfl ?_ | refine T_off rfl rfl rfl ?_ | refine T_add rfl rfl rfl (by omega) ?_ | refine T_sub rfl rfl rfl (by omega) ?_ | refine T_pick_true rfl rfl rfl ?_ | refine T_pick_false rfl rfl rfl ?_ | refine E_cond_true rfl ?_ | refine E_cond_false rfl ?_ | refine E_skip ?_ | refine E_blockS ?_ | refine E_blockR ?_ | refine E_blockC ?_ | refine E_blockB ?_ | refine E_inBlock ?_ | refine E_exit rfl ?_ | refine T_not rfl rfl ?_ | refine T_notB rfl rfl ?_ | refine T_max rfl rfl rfl ?_ | refine T_min rfl rfl rfl ?_ | refine T_extract rfl rfl rfl ?_) | (first | refine T_len tyI rfl rfl (Ints.len (by assumption)) ?_ | refine T_indexN tyI rfl rfl rfl (by assumption) (by omega) ?_ | refine T_indexI tyI rfl rfl rfl (by assumption) (by omega) ?_ | refine T_loadI Try.isAgg3 rfl rfl (by assumption) (by omega) ?_))
  refine T_call rfl rfl (DrawLeftOver_spec cv cs w hY hby) (fun r w1 hr => ?_)
  obtain ⟨pv, wv, ps, ws, skip, rfl, hP, hW, hdp, hdw, hs0, hs1, hB⟩ := hr
  have hpl := hdp.1
  have hwl := hdw.1
  have hll := leftF_len ps ws skip
  repeat (first | (first | refine T_move rfl rfl ?_ | refine T_assign rfl rfl ?_ | refine T_nil0 ?_ | refine T_nil1 ?_ | refine E_seq ?_ | refine E_region ?_ | refine T_cmp rfl rfl rfl rfl ?_ | refine T_on rfl rfl ?_ | refine T_off rfl rfl rfl ?_ | refine T_add rfl rfl rfl (by omega) ?_ | refine T_sub rfl rfl rfl (by omega) ?_ | refine T_pick_true rfl rfl rfl ?_ | refine T_pick_false rfl rfl rfl ?_ | refine E_cond_true rfl ?_ | refine E_cond_false rfl ?_ | refine E_skip ?_ | refine E_blockS ?_ | refine E_blockR ?_ | refine E_blockC ?_ | refine E_blockB ?_ | refine E_inBlock ?_ | refine E_exit rfl ?_ | refine T_not rfl rfl ?_ | refine T_notB rfl rfl ?_ | refine T_max rfl rfl rfl ?_ | refine T_min rfl rfl rfl ?_ | refine T_extract rfl rfl rfl ?_) | (first | refine T_len tyI rfl rfl (Ints.len (by assumption)) ?_ | refine T_indexN tyI rfl rfl rfl (by assumption) (by omega) ?_ | refine T_indexI tyI rfl rfl rfl (by assumption) (by omega) ?_ | refine T_loadI Try.isAgg3 rfl rfl (by assumption) (by omega) ?_))
  refine T_call rfl rfl (LeftOver_spec pv wv ps ws skip w1 hP.ints hW.ints) (fun ov w2 hr => ?_)
  obtain ⟨hO, hb⟩ := hr
  have hB := hB.step hB.size hb
  have hP := hP.later hb
  have hW := hW.later hb
  repeat (first | (first | refine T_move rfl rfl ?_ | refine T_assign rfl rfl ?_ | refine T_nil0 ?_ | refine T_nil1 ?_ | refine E_seq ?_ | refine E_region ?_ | refine T_cmp rfl rfl rfl rfl ?_ | refine T_on rfl rfl ?_ | refine T_off rfl rfl rfl ?_ | refine T_add rfl rfl rfl (by omega) ?_ | refine T_sub rfl rfl rfl (by omega) ?_ | refine T_pick_true rfl rfl rfl ?_ | refine T_pick_false rfl rfl rfl ?_ | refine E_cond_true rfl ?_ | refine E_cond_false rfl ?_ | refine E_skip ?_ | refine E_blockS ?_ | refine E_blockR ?_ | refine E_blockC ?_ | refine E_blockB ?_ | refine E_inBlock ?_ | refine E_exit rfl ?_ | refine T_not rfl rfl ?_ | refine T_notB rfl rfl ?_ | refine T_max rfl rfl rfl ?_ | refine T_min rfl rfl rfl ?_ | refine T_extract rfl rfl rfl ?_) | (first | refine T_len tyI rfl rfl (Ints.len (by assumption)) ?_ | refine T_indexN tyI rfl rfl rfl (by assumption) (by omega) ?_ | refine T_indexI tyI rfl rfl rfl (by assumption) (by omega) ?_ | refine T_loadI Try.isAgg3 rfl rfl (by assumption) (by omega) ?_))
  refine T_call rfl rfl (sLeftOver_spec pv wv ps ws skip w2 hP.ints hW.ints) (fun sv w3 hr => ?_)
  obtain ⟨hS, hb⟩ := hr
  have hB := hB.step hB.size hb
  have hP := hP.later hb
  have hW := hW.later hb
  have hO := hO.later hb
  refine T_call rfl rfl (equalInts_yes ov sv _ w3 hO.ints hS.ints (by omega)) (fun r w4 hr => ?_)
  obtain ⟨rfl, hb⟩ := hr
  have hB := hB.step hB.size hb
  have hP := hP.later hb
  have hW := hW.later hb
  have hO := hO.later hb
  have hOI := hO.ints
  repeat (first | (first | refine T_move rfl rfl ?_ | refine T_assign rfl rfl ?_ | refine T_nil0 ?_ | refine T_nil1 ?_ | refine E_seq ?_ | refine E_region ?_ | refine T_cmp rfl rfl rfl rfl ?_ | refine T_on rfl rfl ?_ | refine T_off rfl rfl rfl ?_ | refine T_add rfl rfl rfl (by omega) ?_ | refine T_sub rfl rfl rfl (by omega) ?_ | refine T_pick_true rfl rfl rfl ?_ | refine T_pick_false rfl rfl rfl ?_ | refine E_cond_true rfl ?_ | refine E_cond_false rfl ?_ | refine E_skip ?_ | refine E_blockS ?_ | refine E_blockR ?_ | refine E_blockC ?_ | refine E_blockB ?_ | refine E_inBlock ?_ | refine E_exit rfl ?_ | refine T_not rfl rfl ?_ | refine T_notB rfl rfl ?_ | refine T_max rfl rfl rfl ?_ | refine T_min rfl rfl rfl ?_ | refine T_extract rfl rfl rfl ?_) | (first | refine T_len tyI rfl rfl (Ints.len (by assumption)) ?_ | refine T_indexN tyI rfl rfl rfl (by assumption) (by omega) ?_ | refine T_indexI tyI rfl rfl rfl (by assumption) (by omega) ?_ | refine T_loadI Try.isAgg3 rfl rfl (by assumption) (by omega) ?_))
  refine E_cond_if rfl (fun hz => ?_) (fun hz => ?_)
  · repeat (first | (first | refine T_move rfl rfl ?_ | refine T_assign rfl rfl ?_ | refine T_nil0 ?_ | refine T_nil1 ?_ | refine E_seq ?_ | refine E_region ?_ | refine T_cmp rfl rfl rfl rfl ?_ | refine T_on rfl rfl ?_ | refine T_off rfl rfl rfl ?_ | refine T_add rfl rfl rfl (by omega) ?_ | refine T_sub rfl rfl rfl (by omega) ?_ | refine T_pick_true rfl rfl rfl ?_ | refine T_pick_false rfl rfl rfl ?_ | refine E_cond_true rfl ?_ | refine E_cond_false rfl ?_ | refine E_skip ?_ | refine E_blockS ?_ | refine E_blockR ?_ | refine E_blockC ?_ | refine E_blockB ?_ | refine E_inBlock ?_ | refine E_exit rfl ?_ | refine T_not rfl rfl ?_ | refine T_notB rfl rfl ?_ | refine T_max rfl rfl rfl ?_ | refine T_min rfl rfl rfl ?_ | refine T_extract rfl rfl rfl ?_) | (first | refine T_len tyI rfl rfl (Ints.len (by assumption)) ?_ | refine T_indexN tyI rfl rfl rfl (by assumption) (by omega) ?_ | refine T_indexI tyI rfl rfl rfl (by assumption) (by omega) ?_ | refine T_loadI Try.isAgg3 rfl rfl (by assumption) (by omega) ?_))
    refine T_call rfl rfl (sLeftOver_spec pv wv ps ws skip w4 hP.ints hW.ints) (fun sv w5 hr => ?_)
    obtain ⟨hS, hb⟩ := hr
    have hB := hB.step hB.size hb
    have hO := hO.later hb
    refine T_call rfl rfl (equalInts_yes ov sv _ w5 hO.ints hS.ints (by omega)) (fun r w6 hr => ?_)
    obtain ⟨rfl, hb⟩ := hr
    have hB := hB.step hB.size hb
    repeat' (first | (first | refine T_move rfl rfl ?_ | refine T_assign rfl rfl ?_ | refine T_nil0 ?_ | refine T_nil1 ?_ | refine E_seq ?_ | refine E_region ?_ | refine T_cmp rfl rfl rfl rfl ?_ | refine T_on rfl rfl ?_ | refine T_off rfl rfl rfl ?_ | refine T_add rfl rfl rfl (by omega) ?_ | refine T_sub rfl rfl rfl (by omega) ?_ | refine T_pick_true rfl rfl rfl ?_ | refine T_pick_false rfl rfl rfl ?_ | refine E_cond_true rfl ?_ | refine E_cond_false rfl ?_ | refine E_skip ?_ | refine E_blockS ?_ | refine E_blockR ?_ | refine E_blockC ?_ | refine E_blockB ?_ | refine E_inBlock ?_ | refine E_exit rfl ?_ | refine T_not rfl rfl ?_ | refine T_notB rfl rfl ?_ | refine T_max rfl rfl rfl ?_ | refine T_min rfl rfl rfl ?_ | refine T_extract rfl rfl rfl ?_) | (first | refine T_len tyI rfl rfl (Ints.len (by assumption)) ?_ | refine T_indexN tyI rfl rfl rfl (by assumption) (by omega) ?_ | refine T_indexI tyI rfl rfl rfl (by assumption) (by omega) ?_ | refine T_loadI Try.isAgg3 rfl rfl (by assumption) (by omega) ?_) | (first | refine T_guard rfl rfl (fun hp => ?_) (fun hp => ?_) | refine T_guardB rfl rfl (fun hp => ?_) (fun hp => ?_) | refine E_cond_if rfl (fun hp => ?_) (fun hp => ?_) | refine E_cond_bool rfl (fun hp => ?_) (fun hp => ?_)) | (first | refine E_ret1 rfl rfl ?_ | refine E_ret2 rfl rfl rfl ?_ | refine E_ret3 rfl rfl rfl rfl ?_))
    exact ⟨rfl, hB⟩
  obtain ⟨hen, hlf⟩ := leftF_some (ps := ps) (ws := ws) (skip := skip) (by omega)
  have hmore := pieces_more hen
  have hem := enough_more hen (by omega)
  rw [← hlf] at hmore hem
  have hf1 : piecesF ps ws skip = pieces ps ws skip := by unfold piecesF; rw [if_pos hen]
  have hf2 : piecesF ps (ws ++ leftF ps ws skip) skip = pieces ps (ws ++ leftF ps ws skip) skip := by unfold piecesF; rw [if_pos hem.1]
  have hf3 : leftF ps (ws ++ leftF ps ws skip) skip = [] := by
    have := hem.2
    generalize leftF ps ws skip = L at *
    unfold leftF; rw [if_pos hem.1]; exact this
  rw [← hf1, ← hf2] at hmore
  have hfl := piecesF_len ps ws skip
  repeat (first | (first | refine T_move rfl rfl ?_ | refine T_assign rfl rfl ?_ | refine T_nil0 ?_ | refine T_nil1 ?_ | refine E_seq ?_ | refine E_region ?_ | refine T_cmp rfl rfl rfl rfl ?_ | refine T_on rfl rfl ?_ | refine T_off rfl rfl rfl ?_ | refine T_add rfl rfl rfl (by omega) ?_ | refine T_sub rfl rfl rfl (by omega) ?_ | refine T_pick_true rfl rfl rfl ?_ | refine T_pick_false rfl rfl rfl ?_ | refine E_cond_true rfl ?_ | refine E_cond_false rfl ?_ | refine E_skip ?_ | refine E_blockS ?_ | refine E_blockR ?_ | refine E_blockC ?_ | refine E_blockB ?_ | refine E_inBlock ?_ | refine E_exit rfl ?_ | refine T_not rfl rfl ?_ | refine T_notB rfl rfl ?_ | refine T_max rfl rfl rfl ?_ | refine T_min rfl rfl rfl ?_ | refine T_extract rfl rfl rfl ?_) | (first | refine T_len tyI rfl rfl (Ints.len (by assumption)) ?_ | refine T_indexN tyI rfl rfl rfl (by assumption) (by omega) ?_ | refine T_indexI tyI rfl rfl rfl (by assumption) (by omega) ?_ | refine T_loadI Try.isAgg3 rfl rfl (by assumption) (by omega) ?_))
  refine T_call rfl rfl (join_spec wv ov ws _ w4 hW.ints hOI (by omega) (by omega)) (fun mv w5 hr => ?_)
  obtain ⟨hM, hb⟩ := hr
  have hB := hB.step hB.size hb
  have hP := hP.later hb
  have hW := hW.later hb
  have hO := hO.later hb
  repeat (first | (first | refine T_move rfl rfl ?_ | refine T_assign rfl rfl ?_ | refine T_nil0 ?_ | refine T_nil1 ?_ | refine E_seq ?_ | refine E_region ?_ | refine T_cmp rfl rfl rfl rfl ?_ | refine T_on rfl rfl ?_ | refine T_off rfl rfl rfl ?_ | refine T_add rfl rfl rfl (by omega) ?_ | refine T_sub rfl rfl rfl (by omega) ?_ | refine T_pick_true rfl rfl rfl ?_ | refine T_pick_false rfl rfl rfl ?_ | refine E_cond_true rfl ?_ | refine E_cond_false rfl ?_ | refine E_skip ?_ | refine E_blockS ?_ | refine E_blockR ?_ | refine E_blockC ?_ | refine E_blockB ?_ | refine E_inBlock ?_ | refine E_exit rfl ?_ | refine T_not rfl rfl ?_ | refine T_notB rfl rfl ?_ | refine T_max rfl rfl rfl ?_ | refine T_min rfl rfl rfl ?_ | refine T_extract rfl rfl rfl ?_) | (first | refine T_len tyI rfl rfl (Ints.len (by assumption)) ?_ | refine T_indexN tyI rfl rfl rfl (by assumption) (by omega) ?_ | refine T_indexI tyI rfl rfl rfl (by assumption) (by omega) ?_ | refine T_loadI Try.isAgg3 rfl rfl (by assumption) (by omega) ?_))
  refine T_call rfl rfl (PiecesOf_spec pv mv ps _ skip w5 hP.ints hM.ints) (fun av w6 hr => ?_)
  obtain ⟨hA, hb⟩ := hr
  have hB := hB.step hB.size hb
  have hP := hP.later hb
  have hW := hW.later hb
  have hO := hO.later hb
  have hM := hM.later hb
  refine T_len tyP rfl rfl hA.recs.rlen ?_
  repeat (first | (first | refine T_move rfl rfl ?_ | refine T_assign rfl rfl ?_ | refine T_nil0 ?_ | refine T_nil1 ?_ | refine E_seq ?_ | refine E_region ?_ | refine T_cmp rfl rfl rfl rfl ?_ | refine T_on rfl rfl ?_ | refine T_off rfl rfl rfl ?_ | refine T_add rfl rfl rfl (by omega) ?_ | refine T_sub rfl rfl rfl (by omega) ?_ | refine T_pick_true rfl rfl rfl ?_ | refine T_pick_false rfl rfl rfl ?_ | refine E_cond_true rfl ?_ | refine E_cond_false rfl ?_ | refine E_skip ?_ | refine E_blockS ?_ | refine E_blockR ?_ | refine E_blockC ?_ | refine E_blockB ?_ | refine E_inBlock ?_ | refine E_exit rfl ?_ | refine T_not rfl rfl ?_ | refine T_notB rfl rfl ?_ | refine T_max rfl rfl rfl ?_ | refine T_min rfl rfl rfl ?_ | refine T_extract rfl rfl rfl ?_) | (first | refine T_len tyI rfl rfl (Ints.len (by assumption)) ?_ | refine T_indexN tyI rfl rfl rfl (by assumption) (by omega) ?_ | refine T_indexI tyI rfl rfl rfl (by assumption) (by omega) ?_ | refine T_loadI Try.isAgg3 rfl rfl (by assumption) (by omega) ?_))
  refine T_call rfl rfl (PiecesOf_spec pv wv ps ws skip w6 hP.ints hW.ints) (fun bv w7 hr => ?_)
  obtain ⟨hA2, hb⟩ := hr
  have hB := hB.step hB.size hb
  have hP := hP.later hb
  have hO := hO.later hb
  have hM := hM.later hb
  have hOI := hO.ints
  refine T_len tyP rfl rfl hA2.recs.rlen ?_
  repeat (first | (first | refine T_move rfl rfl ?_ | refine T_assign rfl rfl ?_ | refine T_nil0 ?_ | refine T_nil1 ?_ | refine E_seq ?_ | refine E_region ?_ | refine T_cmp rfl rfl rfl rfl ?_ | refine T_on rfl rfl ?_ | refine T_off rfl rfl rfl ?_ | refine T_add rfl rfl rfl (by omega) ?_ | refine T_sub rfl rfl rfl (by omega) ?_ | refine T_pick_true rfl rfl rfl ?_ | refine T_pick_false rfl rfl rfl ?_ | refine E_cond_true rfl ?_ | refine E_cond_false rfl ?_ | refine E_skip ?_ | refine E_blockS ?_ | refine E_blockR ?_ | refine E_blockC ?_ | refine E_blockB ?_ | refine E_inBlock ?_ | refine E_exit rfl ?_ | refine T_not rfl rfl ?_ | refine T_notB rfl rfl ?_ | refine T_max rfl rfl rfl ?_ | refine T_min rfl rfl rfl ?_ | refine T_extract rfl rfl rfl ?_) | (first | refine T_len tyI rfl rfl (Ints.len (by assumption)) ?_ | refine T_indexN tyI rfl rfl rfl (by assumption) (by omega) ?_ | refine T_indexI tyI rfl rfl rfl (by assumption) (by omega) ?_ | refine T_loadI Try.isAgg3 rfl rfl (by assumption) (by omega) ?_))
  refine T_guard rfl rfl (fun hq => ?_) (fun hq => ?_)
  case refine_2 => omega
  repeat (first | (first | refine T_move rfl rfl ?_ | refine T_assign rfl rfl ?_ | refine T_nil0 ?_ | refine T_nil1 ?_ | refine E_seq ?_ | refine E_region ?_ | refine T_cmp rfl rfl rfl rfl ?_ | refine T_on rfl rfl ?_ | refine T_off rfl rfl rfl ?_ | refine T_add rfl rfl rfl (by omega) ?_ | refine T_sub rfl rfl rfl (by omega) ?_ | refine T_pick_true rfl rfl rfl ?_ | refine T_pick_false rfl rfl rfl ?_ | refine E_cond_true rfl ?_ | refine E_cond_false rfl ?_ | refine E_skip ?_ | refine E_blockS ?_ | refine E_blockR ?_ | refine E_blockC ?_ | refine E_blockB ?_ | refine E_inBlock ?_ | refine E_exit rfl ?_ | refine T_not rfl rfl ?_ | refine T_notB rfl rfl ?_ | refine T_max rfl rfl rfl ?_ | refine T_min rfl rfl rfl ?_ | refine T_extract rfl rfl rfl ?_) | (first | refine T_len tyI rfl rfl (Ints.len (by assumption)) ?_ | refine T_indexN tyI rfl rfl rfl (by assumption) (by omega) ?_ | refine T_indexI tyI rfl rfl rfl (by assumption) (by omega) ?_ | refine T_loadI Try.isAgg3 rfl rfl (by assumption) (by omega) ?_))
  refine T_call rfl rfl (LeftOver_spec pv mv ps _ skip w7 hP.ints hM.ints) (fun nv w8 hr => ?_)
  obtain ⟨hN, hb⟩ := hr
  have hB := hB.step hB.size hb
  rw [hf3] at hN
  have hNI := hN.ints
  repeat' (first | (first | refine T_move rfl rfl ?_ | refine T_assign rfl rfl ?_ | refine T_nil0 ?_ | refine T_nil1 ?_ | refine E_seq ?_ | refine E_region ?_ | refine T_cmp rfl rfl rfl rfl ?_ | refine T_on rfl rfl ?_ | refine T_off rfl rfl rfl ?_ | refine T_add rfl rfl rfl (by omega) ?_ | refine T_sub rfl rfl rfl (by omega) ?_ | refine T_pick_true rfl rfl rfl ?_ | refine T_pick_false rfl rfl rfl ?_ | refine E_cond_true rfl ?_ | refine E_cond_false rfl ?_ | refine E_skip ?_ | refine E_blockS ?_ | refine E_blockR ?_ | refine E_blockC ?_ | refine E_blockB ?_ | refine E_inBlock ?_ | refine E_exit rfl ?_ | refine T_not rfl rfl ?_ | refine T_notB rfl rfl ?_ | refine T_max rfl rfl rfl ?_ | refine T_min rfl rfl rfl ?_ | refine T_extract rfl rfl rfl ?_) | (first | refine T_len tyI rfl rfl (Ints.len (by assumption)) ?_ | refine T_indexN tyI rfl rfl rfl (by assumption) (by omega) ?_ | refine T_indexI tyI rfl rfl rfl (by assumption) (by omega) ?_ | refine T_loadI Try.isAgg3 rfl rfl (by assumption) (by omega) ?_) | (first | refine T_guard rfl rfl (fun hp => ?_) (fun hp => ?_) | refine T_guardB rfl rfl (fun hp => ?_) (fun hp => ?_) | refine E_cond_if rfl (fun hp => ?_) (fun hp => ?_) | refine E_cond_bool rfl (fun hp => ?_) (fun hp => ?_)) | (first | refine E_ret1 rfl rfl ?_ | refine E_ret2 rfl rfl rfl ?_ | refine E_ret3 rfl rfl rfl rfl ?_))
  exact ⟨rfl, hB⟩
end Go.Proofs.Ytmlopjkjnpkgcaa
