/-
  The walk of laws.FnExactWholeSets: it returns true, and writes nothing that was there. Conditions: the arguments lie in memory as the contract says.
-/
import Derived.Test.YtjpbmjigmbfcfaaC3e
namespace Go.Proofs.Ytjpbmjigmbfcfaa
open Go Go.PR Go.RowKit attribute [local irreducible] T E Ints Sl Bools OwnI OwnB OwnR Recs Box Ret

set_option maxHeartbeats 1000000 in
theorem FnExactWholeSets_walk (v1 : Value) (v2 : Value) (r2 : List Value) (n0 : Int) (l1 : List Int) (l2 : List (List Int)) (w : World) (i1 : Ints w.heap v1 l1) (i2 : Rws w.heap v2 r2 l2) (hm2 : l2.length ≤ 9223372036854775807) (hn2 : ∀ j, j < l2.length → (l2.getD j []).length ≤ 9223372036854775807) :
    Ret Try.prog 8 #[.int .i64 n0, v1, v2] w (fun r w' => r = .bool true ∧ Below w.heap.size w w') := by
  have hF := wholeF_len n0 l1 l2
  refine Ret_of (args := [_, _, _]) Try.call8 Try.func8 rfl _ Try.ntmps8 rfl ?_
  repeat (first | (first | refine T_move rfl rfl ?_ | refine T_assign rfl rfl ?_ | refine T_nil0 ?_ | refine T_nil1 ?_ | refine E_seq ?_ | refine E_region ?_ | refine T_cmp rfl rfl rfl rfl ?_ | refine T_on rfl rfl ?_ | refine T_off rfl rfl rfl ?_ | refine T_offU rfl rfl rfl ?_ | refine T_add rfl rfl rfl (by omega) ?_ | refine T_sub rfl rfl rfl (by omega) ?_ | refine T_pick_true rfl rfl rfl ?_ | refine T_pick_false rfl rfl rfl ?_ | refine E_cond_true rfl ?_ | refine E_cond_false rfl ?_ | refine E_skip ?_ | refine E_blockS ?_ | refine E_blockR ?_ | refine E_blockC ?_ | refine E_blockB ?_ | refine E_inBlock ?_ | refine E_exit rfl ?_ | refine T_not rfl rfl ?_ | refine T_notB rfl rfl ?_ | refine T_max rfl rfl rfl ?_ | refine T_min rfl rfl rfl ?_ | refine T_extract rfl rfl rfl ?_) | (first | refine T_len tyI rfl rfl (Ints.len (by assumption)) ?_ | refine T_indexN tyI rfl rfl rfl (by assumption) (by omega) ?_ | refine T_indexI tyI rfl rfl rfl (by assumption) (by omega) ?_ | refine T_loadI Try.isAgg3 rfl rfl (by assumption) (by omega) ?_))
  refine E_cond_if rfl (fun hp1 => ?_) (fun hp1 => ?_)
  · repeat' (first | (first | refine T_move rfl rfl ?_ | refine T_assign rfl rfl ?_ | refine T_nil0 ?_ | refine T_nil1 ?_ | refine E_seq ?_ | refine E_region ?_ | refine T_cmp rfl rfl rfl rfl ?_ | refine T_on rfl rfl ?_ | refine T_off rfl rfl rfl ?_ | refine T_offU rfl rfl rfl ?_ | refine T_add rfl rfl rfl (by omega) ?_ | refine T_sub rfl rfl rfl (by omega) ?_ | refine T_pick_true rfl rfl rfl ?_ | refine T_pick_false rfl rfl rfl ?_ | refine E_cond_true rfl ?_ | refine E_cond_false rfl ?_ | refine E_skip ?_ | refine E_blockS ?_ | refine E_blockR ?_ | refine E_blockC ?_ | refine E_blockB ?_ | refine E_inBlock ?_ | refine E_exit rfl ?_ | refine T_not rfl rfl ?_ | refine T_notB rfl rfl ?_ | refine T_max rfl rfl rfl ?_ | refine T_min rfl rfl rfl ?_ | refine T_extract rfl rfl rfl ?_) | (first | refine T_len tyI rfl rfl (Ints.len (by assumption)) ?_ | refine T_indexN tyI rfl rfl rfl (by assumption) (by omega) ?_ | refine T_indexI tyI rfl rfl rfl (by assumption) (by omega) ?_ | refine T_loadI Try.isAgg3 rfl rfl (by assumption) (by omega) ?_) | (first | refine T_guard rfl rfl (fun hp => ?_) (fun hp => ?_) | refine T_guardB rfl rfl (fun hp => ?_) (fun hp => ?_) | refine E_cond_if rfl (fun hp => ?_) (fun hp => ?_) | refine E_cond_bool rfl (fun hp => ?_) (fun hp => ?_)) | (first | refine E_ret1 rfl rfl ?_ | refine E_ret2 rfl rfl rfl ?_ | refine E_ret3 rfl rfl rfl rfl ?_))
    exact ⟨rfl, Below.refl _ _⟩
  repeat (first | (first | refine T_move rfl rfl ?_ | refine T_assign rfl rfl ?_ | refine T_nil0 ?_ | refine T_nil1 ?_ | refine E_seq ?_ | refine E_region ?_ | refine T_cmp rfl rfl rfl rfl ?_ | refine T_on rfl rfl ?_ | refine T_off rfl rfl rfl ?_ | refine T_offU rfl rfl rfl ?_ | refine T_add rfl rfl rfl (by omega) ?_ | refine T_sub rfl rfl rfl (by omega) ?_ | refine T_pick_true rfl rfl rfl ?_ | refine T_pick_false rfl rfl rfl ?_ | refine E_cond_true rfl ?_ | refine E_cond_false rfl ?_ | refine E_skip ?_ | refine E_blockS ?_ | refine E_blockR ?_ | refine E_blockC ?_ | refine E_blockB ?_ | refine E_inBlock ?_ | refine E_exit rfl ?_ | refine T_not rfl rfl ?_ | refine T_notB rfl rfl ?_ | refine T_max rfl rfl rfl ?_ | refine T_min rfl rfl rfl ?_ | refine T_extract rfl rfl rfl ?_) | (first | refine T_len tyI rfl rfl (Ints.len (by assumption)) ?_ | refine T_indexN tyI rfl rfl rfl (by assumption) (by omega) ?_ | refine T_indexI tyI rfl rfl rfl (by assumption) (by omega) ?_ | refine T_loadI Try.isAgg3 rfl rfl (by assumption) (by omega) ?_))
  refine T_call rfl rfl (szIntSS_spec v2 r2 l2 _ w i2 hm2 hn2 (by omega)) (fun q wq hr => ?_)
  obtain ⟨q, rfl, hz2, rfl⟩ := hr
  repeat (first | (first | refine T_move rfl rfl ?_ | refine T_assign rfl rfl ?_ | refine T_nil0 ?_ | refine T_nil1 ?_ | refine E_seq ?_ | refine E_region ?_ | refine T_cmp rfl rfl rfl rfl ?_ | refine T_on rfl rfl ?_ | refine T_off rfl rfl rfl ?_ | refine T_offU rfl rfl rfl ?_ | refine T_add rfl rfl rfl (by omega) ?_ | refine T_sub rfl rfl rfl (by omega) ?_ | refine T_pick_true rfl rfl rfl ?_ | refine T_pick_false rfl rfl rfl ?_ | refine E_cond_true rfl ?_ | refine E_cond_false rfl ?_ | refine E_skip ?_ | refine E_blockS ?_ | refine E_blockR ?_ | refine E_blockC ?_ | refine E_blockB ?_ | refine E_inBlock ?_ | refine E_exit rfl ?_ | refine T_not rfl rfl ?_ | refine T_notB rfl rfl ?_ | refine T_max rfl rfl rfl ?_ | refine T_min rfl rfl rfl ?_ | refine T_extract rfl rfl rfl ?_) | (first | refine T_len tyI rfl rfl (Ints.len (by assumption)) ?_ | refine T_indexN tyI rfl rfl rfl (by assumption) (by omega) ?_ | refine T_indexI tyI rfl rfl rfl (by assumption) (by omega) ?_ | refine T_loadI Try.isAgg3 rfl rfl (by assumption) (by omega) ?_))
  refine E_cond_if rfl (fun hp2 => ?_) (fun hp2 => ?_)
  · repeat' (first | (first | refine T_move rfl rfl ?_ | refine T_assign rfl rfl ?_ | refine T_nil0 ?_ | refine T_nil1 ?_ | refine E_seq ?_ | refine E_region ?_ | refine T_cmp rfl rfl rfl rfl ?_ | refine T_on rfl rfl ?_ | refine T_off rfl rfl rfl ?_ | refine T_offU rfl rfl rfl ?_ | refine T_add rfl rfl rfl (by omega) ?_ | refine T_sub rfl rfl rfl (by omega) ?_ | refine T_pick_true rfl rfl rfl ?_ | refine T_pick_false rfl rfl rfl ?_ | refine E_cond_true rfl ?_ | refine E_cond_false rfl ?_ | refine E_skip ?_ | refine E_blockS ?_ | refine E_blockR ?_ | refine E_blockC ?_ | refine E_blockB ?_ | refine E_inBlock ?_ | refine E_exit rfl ?_ | refine T_not rfl rfl ?_ | refine T_notB rfl rfl ?_ | refine T_max rfl rfl rfl ?_ | refine T_min rfl rfl rfl ?_ | refine T_extract rfl rfl rfl ?_) | (first | refine T_len tyI rfl rfl (Ints.len (by assumption)) ?_ | refine T_indexN tyI rfl rfl rfl (by assumption) (by omega) ?_ | refine T_indexI tyI rfl rfl rfl (by assumption) (by omega) ?_ | refine T_loadI Try.isAgg3 rfl rfl (by assumption) (by omega) ?_) | (first | refine T_guard rfl rfl (fun hp => ?_) (fun hp => ?_) | refine T_guardB rfl rfl (fun hp => ?_) (fun hp => ?_) | refine E_cond_if rfl (fun hp => ?_) (fun hp => ?_) | refine E_cond_bool rfl (fun hp => ?_) (fun hp => ?_)) | (first | refine E_ret1 rfl rfl ?_ | refine E_ret2 rfl rfl rfl ?_ | refine E_ret3 rfl rfl rfl rfl ?_))
    exact ⟨rfl, Below.refl _ _⟩
  have hz2 := hz2 (by omega)
  have hgl2 : ∀ j, j < l2.length → (l2.getD j []).length ≤ 1048576 := fun j hj => by have := totS_get hj; omega
  repeat (first | (first | refine T_move rfl rfl ?_ | refine T_assign rfl rfl ?_ | refine T_nil0 ?_ | refine T_nil1 ?_ | refine E_seq ?_ | refine E_region ?_ | refine T_cmp rfl rfl rfl rfl ?_ | refine T_on rfl rfl ?_ | refine T_off rfl rfl rfl ?_ | refine T_offU rfl rfl rfl ?_ | refine T_add rfl rfl rfl (by omega) ?_ | refine T_sub rfl rfl rfl (by omega) ?_ | refine T_pick_true rfl rfl rfl ?_ | refine T_pick_false rfl rfl rfl ?_ | refine E_cond_true rfl ?_ | refine E_cond_false rfl ?_ | refine E_skip ?_ | refine E_blockS ?_ | refine E_blockR ?_ | refine E_blockC ?_ | refine E_blockB ?_ | refine E_inBlock ?_ | refine E_exit rfl ?_ | refine T_not rfl rfl ?_ | refine T_notB rfl rfl ?_ | refine T_max rfl rfl rfl ?_ | refine T_min rfl rfl rfl ?_ | refine T_extract rfl rfl rfl ?_) | (first | refine T_len tyI rfl rfl (Ints.len (by assumption)) ?_ | refine T_indexN tyI rfl rfl rfl (by assumption) (by omega) ?_ | refine T_indexI tyI rfl rfl rfl (by assumption) (by omega) ?_ | refine T_loadI Try.isAgg3 rfl rfl (by assumption) (by omega) ?_))
  refine T_call rfl rfl (toIntS_spec v1 l1 w i1 (by omega)) (fun p1 w1 hr => ?_)
  obtain ⟨hp1, hb⟩ := hr
  have z0 := hb.size
  have hB := hb
  repeat (first | (first | refine T_move rfl rfl ?_ | refine T_assign rfl rfl ?_ | refine T_nil0 ?_ | refine T_nil1 ?_ | refine E_seq ?_ | refine E_region ?_ | refine T_cmp rfl rfl rfl rfl ?_ | refine T_on rfl rfl ?_ | refine T_off rfl rfl rfl ?_ | refine T_offU rfl rfl rfl ?_ | refine T_add rfl rfl rfl (by omega) ?_ | refine T_sub rfl rfl rfl (by omega) ?_ | refine T_pick_true rfl rfl rfl ?_ | refine T_pick_false rfl rfl rfl ?_ | refine E_cond_true rfl ?_ | refine E_cond_false rfl ?_ | refine E_skip ?_ | refine E_blockS ?_ | refine E_blockR ?_ | refine E_blockC ?_ | refine E_blockB ?_ | refine E_inBlock ?_ | refine E_exit rfl ?_ | refine T_not rfl rfl ?_ | refine T_notB rfl rfl ?_ | refine T_max rfl rfl rfl ?_ | refine T_min rfl rfl rfl ?_ | refine T_extract rfl rfl rfl ?_) | (first | refine T_len tyI rfl rfl (Ints.len (by assumption)) ?_ | refine T_indexN tyI rfl rfl rfl (by assumption) (by omega) ?_ | refine T_indexI tyI rfl rfl rfl (by assumption) (by omega) ?_ | refine T_loadI Try.isAgg3 rfl rfl (by assumption) (by omega) ?_))
  refine T_call rfl rfl (toIntSS_spec v2 r2 l2 w1 (i2.later hB) (by omega) hgl2) (fun p2 w2 hr => ?_)
  obtain ⟨p2s, hp2, hb⟩ := hr
  have z1 := hb.size
  have hB := hB.step hB.size hb
  have hp1 := hp1.later hb
  repeat (first | (first | refine T_move rfl rfl ?_ | refine T_assign rfl rfl ?_ | refine T_nil0 ?_ | refine T_nil1 ?_ | refine E_seq ?_ | refine E_region ?_ | refine T_cmp rfl rfl rfl rfl ?_ | refine T_on rfl rfl ?_ | refine T_off rfl rfl rfl ?_ | refine T_offU rfl rfl rfl ?_ | refine T_add rfl rfl rfl (by omega) ?_ | refine T_sub rfl rfl rfl (by omega) ?_ | refine T_pick_true rfl rfl rfl ?_ | refine T_pick_false rfl rfl rfl ?_ | refine E_cond_true rfl ?_ | refine E_cond_false rfl ?_ | refine E_skip ?_ | refine E_blockS ?_ | refine E_blockR ?_ | refine E_blockC ?_ | refine E_blockB ?_ | refine E_inBlock ?_ | refine E_exit rfl ?_ | refine T_not rfl rfl ?_ | refine T_notB rfl rfl ?_ | refine T_max rfl rfl rfl ?_ | refine T_min rfl rfl rfl ?_ | refine T_extract rfl rfl rfl ?_) | (first | refine T_len tyI rfl rfl (Ints.len (by assumption)) ?_ | refine T_indexN tyI rfl rfl rfl (by assumption) (by omega) ?_ | refine T_indexI tyI rfl rfl rfl (by assumption) (by omega) ?_ | refine T_loadI Try.isAgg3 rfl rfl (by assumption) (by omega) ?_))
  refine T_call rfl rfl (sWholeSets_spec p1 p2 p2s n0 l1 l2 w2 hp1.ints hp2.rows (by omega) (by omega)) (fun s0 w3 hr => ?_)
  obtain ⟨hs0, hb⟩ := hr
  have z2 := hb.size
  have hB := hB.step hB.size hb
  have hp1 := hp1.later hb
  have hp2 := hp2.later hb
  have bs0 := hs0.blk
  repeat (first | (first | refine T_move rfl rfl ?_ | refine T_assign rfl rfl ?_ | refine T_nil0 ?_ | refine T_nil1 ?_ | refine E_seq ?_ | refine E_region ?_ | refine T_cmp rfl rfl rfl rfl ?_ | refine T_on rfl rfl ?_ | refine T_off rfl rfl rfl ?_ | refine T_offU rfl rfl rfl ?_ | refine T_add rfl rfl rfl (by omega) ?_ | refine T_sub rfl rfl rfl (by omega) ?_ | refine T_pick_true rfl rfl rfl ?_ | refine T_pick_false rfl rfl rfl ?_ | refine E_cond_true rfl ?_ | refine E_cond_false rfl ?_ | refine E_skip ?_ | refine E_blockS ?_ | refine E_blockR ?_ | refine E_blockC ?_ | refine E_blockB ?_ | refine E_inBlock ?_ | refine E_exit rfl ?_ | refine T_not rfl rfl ?_ | refine T_notB rfl rfl ?_ | refine T_max rfl rfl rfl ?_ | refine T_min rfl rfl rfl ?_ | refine T_extract rfl rfl rfl ?_) | (first | refine T_len tyI rfl rfl (Ints.len (by assumption)) ?_ | refine T_indexN tyI rfl rfl rfl (by assumption) (by omega) ?_ | refine T_indexI tyI rfl rfl rfl (by assumption) (by omega) ?_ | refine T_loadI Try.isAgg3 rfl rfl (by assumption) (by omega) ?_))
  refine T_call rfl rfl (toIntS_spec v1 l1 w3 (i1.later hB) (by omega)) (fun x1 w4 hr => ?_)
  obtain ⟨hx1, hb⟩ := hr
  have z3 := hb.size
  have hB := hB.step hB.size hb
  have hs0 := hs0.later hb
  have bx1 := hx1.blk
  repeat (first | (first | refine T_move rfl rfl ?_ | refine T_assign rfl rfl ?_ | refine T_nil0 ?_ | refine T_nil1 ?_ | refine E_seq ?_ | refine E_region ?_ | refine T_cmp rfl rfl rfl rfl ?_ | refine T_on rfl rfl ?_ | refine T_off rfl rfl rfl ?_ | refine T_offU rfl rfl rfl ?_ | refine T_add rfl rfl rfl (by omega) ?_ | refine T_sub rfl rfl rfl (by omega) ?_ | refine T_pick_true rfl rfl rfl ?_ | refine T_pick_false rfl rfl rfl ?_ | refine E_cond_true rfl ?_ | refine E_cond_false rfl ?_ | refine E_skip ?_ | refine E_blockS ?_ | refine E_blockR ?_ | refine E_blockC ?_ | refine E_blockB ?_ | refine E_inBlock ?_ | refine E_exit rfl ?_ | refine T_not rfl rfl ?_ | refine T_notB rfl rfl ?_ | refine T_max rfl rfl rfl ?_ | refine T_min rfl rfl rfl ?_ | refine T_extract rfl rfl rfl ?_) | (first | refine T_len tyI rfl rfl (Ints.len (by assumption)) ?_ | refine T_indexN tyI rfl rfl rfl (by assumption) (by omega) ?_ | refine T_indexI tyI rfl rfl rfl (by assumption) (by omega) ?_ | refine T_loadI Try.isAgg3 rfl rfl (by assumption) (by omega) ?_))
  refine T_call rfl rfl (toIntSS_spec v2 r2 l2 w4 (i2.later hB) (by omega) hgl2) (fun x2 w5 hr => ?_)
  obtain ⟨x2s, hx2, hb⟩ := hr
  have z4 := hb.size
  have hB := hB.step hB.size hb
  have hs0 := hs0.later hb
  have hx1 := hx1.later hb
  have bx2 := hx2.blk
  repeat (first | (first | refine T_move rfl rfl ?_ | refine T_assign rfl rfl ?_ | refine T_nil0 ?_ | refine T_nil1 ?_ | refine E_seq ?_ | refine E_region ?_ | refine T_cmp rfl rfl rfl rfl ?_ | refine T_on rfl rfl ?_ | refine T_off rfl rfl rfl ?_ | refine T_offU rfl rfl rfl ?_ | refine T_add rfl rfl rfl (by omega) ?_ | refine T_sub rfl rfl rfl (by omega) ?_ | refine T_pick_true rfl rfl rfl ?_ | refine T_pick_false rfl rfl rfl ?_ | refine E_cond_true rfl ?_ | refine E_cond_false rfl ?_ | refine E_skip ?_ | refine E_blockS ?_ | refine E_blockR ?_ | refine E_blockC ?_ | refine E_blockB ?_ | refine E_inBlock ?_ | refine E_exit rfl ?_ | refine T_not rfl rfl ?_ | refine T_notB rfl rfl ?_ | refine T_max rfl rfl rfl ?_ | refine T_min rfl rfl rfl ?_ | refine T_extract rfl rfl rfl ?_) | (first | refine T_len tyI rfl rfl (Ints.len (by assumption)) ?_ | refine T_indexN tyI rfl rfl rfl (by assumption) (by omega) ?_ | refine T_indexI tyI rfl rfl rfl (by assumption) (by omega) ?_ | refine T_loadI Try.isAgg3 rfl rfl (by assumption) (by omega) ?_))
  refine T_call rfl rfl (WholeSets_spec x1 x2 x2s n0 l1 l2 w5 hx1.ints hx2.rows) (fun g0 w6 hr => ?_)
  obtain ⟨hg0, hb⟩ := hr
  have z5 := hb.size
  have hB := hB.step hB.size hb
  have hs0 := hs0.later hb
  have hx1 := hx1.later hb
  have hx2 := hx2.later hb
  have bg0 := hg0.blk
  repeat (first | (first | refine T_move rfl rfl ?_ | refine T_assign rfl rfl ?_ | refine T_nil0 ?_ | refine T_nil1 ?_ | refine E_seq ?_ | refine E_region ?_ | refine T_cmp rfl rfl rfl rfl ?_ | refine T_on rfl rfl ?_ | refine T_off rfl rfl rfl ?_ | refine T_offU rfl rfl rfl ?_ | refine T_add rfl rfl rfl (by omega) ?_ | refine T_sub rfl rfl rfl (by omega) ?_ | refine T_pick_true rfl rfl rfl ?_ | refine T_pick_false rfl rfl rfl ?_ | refine E_cond_true rfl ?_ | refine E_cond_false rfl ?_ | refine E_skip ?_ | refine E_blockS ?_ | refine E_blockR ?_ | refine E_blockC ?_ | refine E_blockB ?_ | refine E_inBlock ?_ | refine E_exit rfl ?_ | refine T_not rfl rfl ?_ | refine T_notB rfl rfl ?_ | refine T_max rfl rfl rfl ?_ | refine T_min rfl rfl rfl ?_ | refine T_extract rfl rfl rfl ?_) | (first | refine T_len tyI rfl rfl (Ints.len (by assumption)) ?_ | refine T_indexN tyI rfl rfl rfl (by assumption) (by omega) ?_ | refine T_indexI tyI rfl rfl rfl (by assumption) (by omega) ?_ | refine T_loadI Try.isAgg3 rfl rfl (by assumption) (by omega) ?_))
  refine T_call rfl rfl (eqIntS_yes g0 s0 _ w6 hg0.ints hs0.ints (by omega)) (fun r w7 hr => ?_)
  obtain ⟨rfl, hb⟩ := hr
  have z6 := hb.size
  have hB := hB.step hB.size hb
  have hs0 := hs0.later hb
  have hx1 := hx1.later hb
  have hx2 := hx2.later hb
  have hg0 := hg0.later hb
  repeat (first | (first | refine T_move rfl rfl ?_ | refine T_assign rfl rfl ?_ | refine T_nil0 ?_ | refine T_nil1 ?_ | refine E_seq ?_ | refine E_region ?_ | refine T_cmp rfl rfl rfl rfl ?_ | refine T_on rfl rfl ?_ | refine T_off rfl rfl rfl ?_ | refine T_offU rfl rfl rfl ?_ | refine T_add rfl rfl rfl (by omega) ?_ | refine T_sub rfl rfl rfl (by omega) ?_ | refine T_pick_true rfl rfl rfl ?_ | refine T_pick_false rfl rfl rfl ?_ | refine E_cond_true rfl ?_ | refine E_cond_false rfl ?_ | refine E_skip ?_ | refine E_blockS ?_ | refine E_blockR ?_ | refine E_blockC ?_ | refine E_blockB ?_ | refine E_inBlock ?_ | refine E_exit rfl ?_ | refine T_not rfl rfl ?_ | refine T_notB rfl rfl ?_ | refine T_max rfl rfl rfl ?_ | refine T_min rfl rfl rfl ?_ | refine T_extract rfl rfl rfl ?_) | (first | refine T_len tyI rfl rfl (Ints.len (by assumption)) ?_ | refine T_indexN tyI rfl rfl rfl (by assumption) (by omega) ?_ | refine T_indexI tyI rfl rfl rfl (by assumption) (by omega) ?_ | refine T_loadI Try.isAgg3 rfl rfl (by assumption) (by omega) ?_))
  refine T_call rfl rfl (toIntS_spec v1 l1 w7 (i1.later hB) (by omega)) (fun y1 w8 hr => ?_)
  obtain ⟨hy1, hb⟩ := hr
  have z7 := hb.size
  have hB := hB.step hB.size hb
  have hs0 := hs0.later hb
  have hx1 := hx1.later hb
  have hx2 := hx2.later hb
  have hg0 := hg0.later hb
  repeat (first | (first | refine T_move rfl rfl ?_ | refine T_assign rfl rfl ?_ | refine T_nil0 ?_ | refine T_nil1 ?_ | refine E_seq ?_ | refine E_region ?_ | refine T_cmp rfl rfl rfl rfl ?_ | refine T_on rfl rfl ?_ | refine T_off rfl rfl rfl ?_ | refine T_offU rfl rfl rfl ?_ | refine T_add rfl rfl rfl (by omega) ?_ | refine T_sub rfl rfl rfl (by omega) ?_ | refine T_pick_true rfl rfl rfl ?_ | refine T_pick_false rfl rfl rfl ?_ | refine E_cond_true rfl ?_ | refine E_cond_false rfl ?_ | refine E_skip ?_ | refine E_blockS ?_ | refine E_blockR ?_ | refine E_blockC ?_ | refine E_blockB ?_ | refine E_inBlock ?_ | refine E_exit rfl ?_ | refine T_not rfl rfl ?_ | refine T_notB rfl rfl ?_ | refine T_max rfl rfl rfl ?_ | refine T_min rfl rfl rfl ?_ | refine T_extract rfl rfl rfl ?_) | (first | refine T_len tyI rfl rfl (Ints.len (by assumption)) ?_ | refine T_indexN tyI rfl rfl rfl (by assumption) (by omega) ?_ | refine T_indexI tyI rfl rfl rfl (by assumption) (by omega) ?_ | refine T_loadI Try.isAgg3 rfl rfl (by assumption) (by omega) ?_))
  refine T_call rfl rfl (eqIntS_yes x1 y1 _ w8 hx1.ints hy1.ints (by omega)) (fun r w9 hr => ?_)
  obtain ⟨rfl, hb⟩ := hr
  have z8 := hb.size
  have hB := hB.step hB.size hb
  have hs0 := hs0.later hb
  have hx1 := hx1.later hb
  have hx2 := hx2.later hb
  have hg0 := hg0.later hb
  have hy1 := hy1.later hb
  repeat (first | (first | refine T_move rfl rfl ?_ | refine T_assign rfl rfl ?_ | refine T_nil0 ?_ | refine T_nil1 ?_ | refine E_seq ?_ | refine E_region ?_ | refine T_cmp rfl rfl rfl rfl ?_ | refine T_on rfl rfl ?_ | refine T_off rfl rfl rfl ?_ | refine T_offU rfl rfl rfl ?_ | refine T_add rfl rfl rfl (by omega) ?_ | refine T_sub rfl rfl rfl (by omega) ?_ | refine T_pick_true rfl rfl rfl ?_ | refine T_pick_false rfl rfl rfl ?_ | refine E_cond_true rfl ?_ | refine E_cond_false rfl ?_ | refine E_skip ?_ | refine E_blockS ?_ | refine E_blockR ?_ | refine E_blockC ?_ | refine E_blockB ?_ | refine E_inBlock ?_ | refine E_exit rfl ?_ | refine T_not rfl rfl ?_ | refine T_notB rfl rfl ?_ | refine T_max rfl rfl rfl ?_ | refine T_min rfl rfl rfl ?_ | refine T_extract rfl rfl rfl ?_) | (first | refine T_len tyI rfl rfl (Ints.len (by assumption)) ?_ | refine T_indexN tyI rfl rfl rfl (by assumption) (by omega) ?_ | refine T_indexI tyI rfl rfl rfl (by assumption) (by omega) ?_ | refine T_loadI Try.isAgg3 rfl rfl (by assumption) (by omega) ?_))
  refine T_call rfl rfl (toIntSS_spec v2 r2 l2 w9 (i2.later hB) (by omega) hgl2) (fun y2 w10 hr => ?_)
  obtain ⟨y2s, hy2, hb⟩ := hr
  have z9 := hb.size
  have hB := hB.step hB.size hb
  have hs0 := hs0.later hb
  have hx1 := hx1.later hb
  have hx2 := hx2.later hb
  have hg0 := hg0.later hb
  repeat (first | (first | refine T_move rfl rfl ?_ | refine T_assign rfl rfl ?_ | refine T_nil0 ?_ | refine T_nil1 ?_ | refine E_seq ?_ | refine E_region ?_ | refine T_cmp rfl rfl rfl rfl ?_ | refine T_on rfl rfl ?_ | refine T_off rfl rfl rfl ?_ | refine T_offU rfl rfl rfl ?_ | refine T_add rfl rfl rfl (by omega) ?_ | refine T_sub rfl rfl rfl (by omega) ?_ | refine T_pick_true rfl rfl rfl ?_ | refine T_pick_false rfl rfl rfl ?_ | refine E_cond_true rfl ?_ | refine E_cond_false rfl ?_ | refine E_skip ?_ | refine E_blockS ?_ | refine E_blockR ?_ | refine E_blockC ?_ | refine E_blockB ?_ | refine E_inBlock ?_ | refine E_exit rfl ?_ | refine T_not rfl rfl ?_ | refine T_notB rfl rfl ?_ | refine T_max rfl rfl rfl ?_ | refine T_min rfl rfl rfl ?_ | refine T_extract rfl rfl rfl ?_) | (first | refine T_len tyI rfl rfl (Ints.len (by assumption)) ?_ | refine T_indexN tyI rfl rfl rfl (by assumption) (by omega) ?_ | refine T_indexI tyI rfl rfl rfl (by assumption) (by omega) ?_ | refine T_loadI Try.isAgg3 rfl rfl (by assumption) (by omega) ?_))
  refine T_call rfl rfl (eqIntSS_yes x2 y2 _ _ _ w10 hx2.rows hy2.rows (by omega) (fun j hj => by have := totS_get hj; omega)) (fun r w11 hr => ?_)
  obtain ⟨rfl, hb⟩ := hr
  have z10 := hb.size
  have hB := hB.step hB.size hb
  have hs0 := hs0.later hb
  have hx1 := hx1.later hb
  have hx2 := hx2.later hb
  have hg0 := hg0.later hb
  have hy2 := hy2.later hb
  have B5 := hB.size
  repeat (first | (first | refine T_move rfl rfl ?_ | refine T_assign rfl rfl ?_ | refine T_nil0 ?_ | refine T_nil1 ?_ | refine E_seq ?_ | refine E_region ?_ | refine T_cmp rfl rfl rfl rfl ?_ | refine T_on rfl rfl ?_ | refine T_off rfl rfl rfl ?_ | refine T_offU rfl rfl rfl ?_ | refine T_add rfl rfl rfl (by omega) ?_ | refine T_sub rfl rfl rfl (by omega) ?_ | refine T_pick_true rfl rfl rfl ?_ | refine T_pick_false rfl rfl rfl ?_ | refine E_cond_true rfl ?_ | refine E_cond_false rfl ?_ | refine E_skip ?_ | refine E_blockS ?_ | refine E_blockR ?_ | refine E_blockC ?_ | refine E_blockB ?_ | refine E_inBlock ?_ | refine E_exit rfl ?_ | refine T_not rfl rfl ?_ | refine T_notB rfl rfl ?_ | refine T_max rfl rfl rfl ?_ | refine T_min rfl rfl rfl ?_ | refine T_extract rfl rfl rfl ?_) | (first | refine T_len tyI rfl rfl (Ints.len (by assumption)) ?_ | refine T_indexN tyI rfl rfl rfl (by assumption) (by omega) ?_ | refine T_indexI tyI rfl rfl rfl (by assumption) (by omega) ?_ | refine T_loadI Try.isAgg3 rfl rfl (by assumption) (by omega) ?_))
  refine T_call rfl rfl (markIntS_spec x1 l1 (1) w11 _ hx1 (by omega) (by omega)) (fun r w12 hr => ?_)
  obtain ⟨rfl, hx1, hgr, hsz⟩ := hr
  have hst := Stay.of_grown hgr bx1
  have hs0 := hs0.stay hst bs0 (by omega)
  have hx2 := hx2.stay hst bx2 (by omega)
  have hg0 := hg0.stay hst bg0 (by omega)
  have hB := hst.below hB (by omega) hB.size
  have B5 := hB.size
  repeat (first | (first | refine T_move rfl rfl ?_ | refine T_assign rfl rfl ?_ | refine T_nil0 ?_ | refine T_nil1 ?_ | refine E_seq ?_ | refine E_region ?_ | refine T_cmp rfl rfl rfl rfl ?_ | refine T_on rfl rfl ?_ | refine T_off rfl rfl rfl ?_ | refine T_offU rfl rfl rfl ?_ | refine T_add rfl rfl rfl (by omega) ?_ | refine T_sub rfl rfl rfl (by omega) ?_ | refine T_pick_true rfl rfl rfl ?_ | refine T_pick_false rfl rfl rfl ?_ | refine E_cond_true rfl ?_ | refine E_cond_false rfl ?_ | refine E_skip ?_ | refine E_blockS ?_ | refine E_blockR ?_ | refine E_blockC ?_ | refine E_blockB ?_ | refine E_inBlock ?_ | refine E_exit rfl ?_ | refine T_not rfl rfl ?_ | refine T_notB rfl rfl ?_ | refine T_max rfl rfl rfl ?_ | refine T_min rfl rfl rfl ?_ | refine T_extract rfl rfl rfl ?_) | (first | refine T_len tyI rfl rfl (Ints.len (by assumption)) ?_ | refine T_indexN tyI rfl rfl rfl (by assumption) (by omega) ?_ | refine T_indexI tyI rfl rfl rfl (by assumption) (by omega) ?_ | refine T_loadI Try.isAgg3 rfl rfl (by assumption) (by omega) ?_))
  refine T_call rfl rfl (markIntSS_spec x2 x2s l2 (1 + l1.length) w12 _ _ _ hx2 bx2 (by omega) (by omega) (by omega)) (fun r w13 hr => ?_)
  obtain ⟨rfl, hx2, hst, hsz⟩ := hr
  have hs0 := hs0.stay hst bs0 (by omega)
  have hg0 := hg0.stay hst bg0 (by omega)
  have hB := hst.below hB (by omega) hB.size
  repeat (first | (first | refine T_move rfl rfl ?_ | refine T_assign rfl rfl ?_ | refine T_nil0 ?_ | refine T_nil1 ?_ | refine E_seq ?_ | refine E_region ?_ | refine T_cmp rfl rfl rfl rfl ?_ | refine T_on rfl rfl ?_ | refine T_off rfl rfl rfl ?_ | refine T_offU rfl rfl rfl ?_ | refine T_add rfl rfl rfl (by omega) ?_ | refine T_sub rfl rfl rfl (by omega) ?_ | refine T_pick_true rfl rfl rfl ?_ | refine T_pick_false rfl rfl rfl ?_ | refine E_cond_true rfl ?_ | refine E_cond_false rfl ?_ | refine E_skip ?_ | refine E_blockS ?_ | refine E_blockR ?_ | refine E_blockC ?_ | refine E_blockB ?_ | refine E_inBlock ?_ | refine E_exit rfl ?_ | refine T_not rfl rfl ?_ | refine T_notB rfl rfl ?_ | refine T_max rfl rfl rfl ?_ | refine T_min rfl rfl rfl ?_ | refine T_extract rfl rfl rfl ?_) | (first | refine T_len tyI rfl rfl (Ints.len (by assumption)) ?_ | refine T_indexN tyI rfl rfl rfl (by assumption) (by omega) ?_ | refine T_indexI tyI rfl rfl rfl (by assumption) (by omega) ?_ | refine T_loadI Try.isAgg3 rfl rfl (by assumption) (by omega) ?_))
  refine T_call rfl rfl (eqIntS_yes g0 s0 _ w13 hg0.ints hs0.ints (by omega)) (fun r w14 hr => ?_)
  obtain ⟨rfl, hb⟩ := hr
  have z11 := hb.size
  have hB := hB.step hB.size hb
  have hs0 := hs0.later hb
  have hg0 := hg0.later hb
  have B5 := hB.size
  repeat (first | (first | refine T_move rfl rfl ?_ | refine T_assign rfl rfl ?_ | refine T_nil0 ?_ | refine T_nil1 ?_ | refine E_seq ?_ | refine E_region ?_ | refine T_cmp rfl rfl rfl rfl ?_ | refine T_on rfl rfl ?_ | refine T_off rfl rfl rfl ?_ | refine T_offU rfl rfl rfl ?_ | refine T_add rfl rfl rfl (by omega) ?_ | refine T_sub rfl rfl rfl (by omega) ?_ | refine T_pick_true rfl rfl rfl ?_ | refine T_pick_false rfl rfl rfl ?_ | refine E_cond_true rfl ?_ | refine E_cond_false rfl ?_ | refine E_skip ?_ | refine E_blockS ?_ | refine E_blockR ?_ | refine E_blockC ?_ | refine E_blockB ?_ | refine E_inBlock ?_ | refine E_exit rfl ?_ | refine T_not rfl rfl ?_ | refine T_notB rfl rfl ?_ | refine T_max rfl rfl rfl ?_ | refine T_min rfl rfl rfl ?_ | refine T_extract rfl rfl rfl ?_) | (first | refine T_len tyI rfl rfl (Ints.len (by assumption)) ?_ | refine T_indexN tyI rfl rfl rfl (by assumption) (by omega) ?_ | refine T_indexI tyI rfl rfl rfl (by assumption) (by omega) ?_ | refine T_loadI Try.isAgg3 rfl rfl (by assumption) (by omega) ?_))
  refine T_call rfl rfl (markIntS_spec g0 _ (1) w14 _ hg0 (by omega) (by omega)) (fun r w15 hr => ?_)
  obtain ⟨rfl, hg0, hgr, hsz⟩ := hr
  have hst := Stay.of_grown hgr bg0
  have hs0 := hs0.stay hst bs0 (by omega)
  have hB := hst.below hB (by omega) hB.size
  repeat (first | (first | refine T_move rfl rfl ?_ | refine T_assign rfl rfl ?_ | refine T_nil0 ?_ | refine T_nil1 ?_ | refine E_seq ?_ | refine E_region ?_ | refine T_cmp rfl rfl rfl rfl ?_ | refine T_on rfl rfl ?_ | refine T_off rfl rfl rfl ?_ | refine T_offU rfl rfl rfl ?_ | refine T_add rfl rfl rfl (by omega) ?_ | refine T_sub rfl rfl rfl (by omega) ?_ | refine T_pick_true rfl rfl rfl ?_ | refine T_pick_false rfl rfl rfl ?_ | refine E_cond_true rfl ?_ | refine E_cond_false rfl ?_ | refine E_skip ?_ | refine E_blockS ?_ | refine E_blockR ?_ | refine E_blockC ?_ | refine E_blockB ?_ | refine E_inBlock ?_ | refine E_exit rfl ?_ | refine T_not rfl rfl ?_ | refine T_notB rfl rfl ?_ | refine T_max rfl rfl rfl ?_ | refine T_min rfl rfl rfl ?_ | refine T_extract rfl rfl rfl ?_) | (first | refine T_len tyI rfl rfl (Ints.len (by assumption)) ?_ | refine T_indexN tyI rfl rfl rfl (by assumption) (by omega) ?_ | refine T_indexI tyI rfl rfl rfl (by assumption) (by omega) ?_ | refine T_loadI Try.isAgg3 rfl rfl (by assumption) (by omega) ?_))
  refine T_call rfl rfl (heldIntS_spec g0 _ 1 w15 hg0.ints (by omega) (by omega)) (fun r w16 hr => ?_)
  obtain ⟨rfl, rfl⟩ := hr
  repeat (first | (first | refine T_move rfl rfl ?_ | refine T_assign rfl rfl ?_ | refine T_nil0 ?_ | refine T_nil1 ?_ | refine E_seq ?_ | refine E_region ?_ | refine T_cmp rfl rfl rfl rfl ?_ | refine T_on rfl rfl ?_ | refine T_off rfl rfl rfl ?_ | refine T_offU rfl rfl rfl ?_ | refine T_add rfl rfl rfl (by omega) ?_ | refine T_sub rfl rfl rfl (by omega) ?_ | refine T_pick_true rfl rfl rfl ?_ | refine T_pick_false rfl rfl rfl ?_ | refine E_cond_true rfl ?_ | refine E_cond_false rfl ?_ | refine E_skip ?_ | refine E_blockS ?_ | refine E_blockR ?_ | refine E_blockC ?_ | refine E_blockB ?_ | refine E_inBlock ?_ | refine E_exit rfl ?_ | refine T_not rfl rfl ?_ | refine T_notB rfl rfl ?_ | refine T_max rfl rfl rfl ?_ | refine T_min rfl rfl rfl ?_ | refine T_extract rfl rfl rfl ?_) | (first | refine T_len tyI rfl rfl (Ints.len (by assumption)) ?_ | refine T_indexN tyI rfl rfl rfl (by assumption) (by omega) ?_ | refine T_indexI tyI rfl rfl rfl (by assumption) (by omega) ?_ | refine T_loadI Try.isAgg3 rfl rfl (by assumption) (by omega) ?_))
  refine E_cond_if rfl (fun hk => ?_) (fun hk => ?_)
  · exact absurd rfl hk
  repeat (first | (first | refine T_move rfl rfl ?_ | refine T_assign rfl rfl ?_ | refine T_nil0 ?_ | refine T_nil1 ?_ | refine E_seq ?_ | refine E_region ?_ | refine T_cmp rfl rfl rfl rfl ?_ | refine T_on rfl rfl ?_ | refine T_off rfl rfl rfl ?_ | refine T_offU rfl rfl rfl ?_ | refine T_add rfl rfl rfl (by omega) ?_ | refine T_sub rfl rfl rfl (by omega) ?_ | refine T_pick_true rfl rfl rfl ?_ | refine T_pick_false rfl rfl rfl ?_ | refine E_cond_true rfl ?_ | refine E_cond_false rfl ?_ | refine E_skip ?_ | refine E_blockS ?_ | refine E_blockR ?_ | refine E_blockC ?_ | refine E_blockB ?_ | refine E_inBlock ?_ | refine E_exit rfl ?_ | refine T_not rfl rfl ?_ | refine T_notB rfl rfl ?_ | refine T_max rfl rfl rfl ?_ | refine T_min rfl rfl rfl ?_ | refine T_extract rfl rfl rfl ?_) | (first | refine T_len tyI rfl rfl (Ints.len (by assumption)) ?_ | refine T_indexN tyI rfl rfl rfl (by assumption) (by omega) ?_ | refine T_indexI tyI rfl rfl rfl (by assumption) (by omega) ?_ | refine T_loadI Try.isAgg3 rfl rfl (by assumption) (by omega) ?_))
  refine T_call rfl rfl (toIntS_spec v1 l1 w15 (i1.later hB) (by omega)) (fun q1 w16 hr => ?_)
  obtain ⟨hq1, hb⟩ := hr
  have z12 := hb.size
  have hB := hB.step hB.size hb
  have hs0 := hs0.later hb
  have hg0 := hg0.later hb
  repeat (first | (first | refine T_move rfl rfl ?_ | refine T_assign rfl rfl ?_ | refine T_nil0 ?_ | refine T_nil1 ?_ | refine E_seq ?_ | refine E_region ?_ | refine T_cmp rfl rfl rfl rfl ?_ | refine T_on rfl rfl ?_ | refine T_off rfl rfl rfl ?_ | refine T_offU rfl rfl rfl ?_ | refine T_add rfl rfl rfl (by omega) ?_ | refine T_sub rfl rfl rfl (by omega) ?_ | refine T_pick_true rfl rfl rfl ?_ | refine T_pick_false rfl rfl rfl ?_ | refine E_cond_true rfl ?_ | refine E_cond_false rfl ?_ | refine E_skip ?_ | refine E_blockS ?_ | refine E_blockR ?_ | refine E_blockC ?_ | refine E_blockB ?_ | refine E_inBlock ?_ | refine E_exit rfl ?_ | refine T_not rfl rfl ?_ | refine T_notB rfl rfl ?_ | refine T_max rfl rfl rfl ?_ | refine T_min rfl rfl rfl ?_ | refine T_extract rfl rfl rfl ?_) | (first | refine T_len tyI rfl rfl (Ints.len (by assumption)) ?_ | refine T_indexN tyI rfl rfl rfl (by assumption) (by omega) ?_ | refine T_indexI tyI rfl rfl rfl (by assumption) (by omega) ?_ | refine T_loadI Try.isAgg3 rfl rfl (by assumption) (by omega) ?_))
  refine T_call rfl rfl (toIntSS_spec v2 r2 l2 w16 (i2.later hB) (by omega) hgl2) (fun q2 w17 hr => ?_)
  obtain ⟨q2s, hq2, hb⟩ := hr
  have z13 := hb.size
  have hB := hB.step hB.size hb
  have hs0 := hs0.later hb
  have hg0 := hg0.later hb
  have hq1 := hq1.later hb
  repeat (first | (first | refine T_move rfl rfl ?_ | refine T_assign rfl rfl ?_ | refine T_nil0 ?_ | refine T_nil1 ?_ | refine E_seq ?_ | refine E_region ?_ | refine T_cmp rfl rfl rfl rfl ?_ | refine T_on rfl rfl ?_ | refine T_off rfl rfl rfl ?_ | refine T_offU rfl rfl rfl ?_ | refine T_add rfl rfl rfl (by omega) ?_ | refine T_sub rfl rfl rfl (by omega) ?_ | refine T_pick_true rfl rfl rfl ?_ | refine T_pick_false rfl rfl rfl ?_ | refine E_cond_true rfl ?_ | refine E_cond_false rfl ?_ | refine E_skip ?_ | refine E_blockS ?_ | refine E_blockR ?_ | refine E_blockC ?_ | refine E_blockB ?_ | refine E_inBlock ?_ | refine E_exit rfl ?_ | refine T_not rfl rfl ?_ | refine T_notB rfl rfl ?_ | refine T_max rfl rfl rfl ?_ | refine T_min rfl rfl rfl ?_ | refine T_extract rfl rfl rfl ?_) | (first | refine T_len tyI rfl rfl (Ints.len (by assumption)) ?_ | refine T_indexN tyI rfl rfl rfl (by assumption) (by omega) ?_ | refine T_indexI tyI rfl rfl rfl (by assumption) (by omega) ?_ | refine T_loadI Try.isAgg3 rfl rfl (by assumption) (by omega) ?_))
  refine T_call rfl rfl (WholeSets_spec q1 q2 q2s n0 l1 l2 w17 hq1.ints hq2.rows) (fun h0 w18 hr => ?_)
  obtain ⟨hh0, hb⟩ := hr
  have z14 := hb.size
  have hB := hB.step hB.size hb
  have hs0 := hs0.later hb
  have hg0 := hg0.later hb
  have hq1 := hq1.later hb
  have hq2 := hq2.later hb
  repeat (first | (first | refine T_move rfl rfl ?_ | refine T_assign rfl rfl ?_ | refine T_nil0 ?_ | refine T_nil1 ?_ | refine E_seq ?_ | refine E_region ?_ | refine T_cmp rfl rfl rfl rfl ?_ | refine T_on rfl rfl ?_ | refine T_off rfl rfl rfl ?_ | refine T_offU rfl rfl rfl ?_ | refine T_add rfl rfl rfl (by omega) ?_ | refine T_sub rfl rfl rfl (by omega) ?_ | refine T_pick_true rfl rfl rfl ?_ | refine T_pick_false rfl rfl rfl ?_ | refine E_cond_true rfl ?_ | refine E_cond_false rfl ?_ | refine E_skip ?_ | refine E_blockS ?_ | refine E_blockR ?_ | refine E_blockC ?_ | refine E_blockB ?_ | refine E_inBlock ?_ | refine E_exit rfl ?_ | refine T_not rfl rfl ?_ | refine T_notB rfl rfl ?_ | refine T_max rfl rfl rfl ?_ | refine T_min rfl rfl rfl ?_ | refine T_extract rfl rfl rfl ?_) | (first | refine T_len tyI rfl rfl (Ints.len (by assumption)) ?_ | refine T_indexN tyI rfl rfl rfl (by assumption) (by omega) ?_ | refine T_indexI tyI rfl rfl rfl (by assumption) (by omega) ?_ | refine T_loadI Try.isAgg3 rfl rfl (by assumption) (by omega) ?_))
  refine T_call rfl rfl (eqIntS_yes h0 s0 _ w18 hh0.ints hs0.ints (by omega)) (fun r w19 hr => ?_)
  obtain ⟨rfl, hb⟩ := hr
  have z15 := hb.size
  have hB := hB.step hB.size hb
  have hs0 := hs0.later hb
  have hg0 := hg0.later hb
  have hh0 := hh0.later hb
  repeat (first | (first | refine T_move rfl rfl ?_ | refine T_assign rfl rfl ?_ | refine T_nil0 ?_ | refine T_nil1 ?_ | refine E_seq ?_ | refine E_region ?_ | refine T_cmp rfl rfl rfl rfl ?_ | refine T_on rfl rfl ?_ | refine T_off rfl rfl rfl ?_ | refine T_offU rfl rfl rfl ?_ | refine T_add rfl rfl rfl (by omega) ?_ | refine T_sub rfl rfl rfl (by omega) ?_ | refine T_pick_true rfl rfl rfl ?_ | refine T_pick_false rfl rfl rfl ?_ | refine E_cond_true rfl ?_ | refine E_cond_false rfl ?_ | refine E_skip ?_ | refine E_blockS ?_ | refine E_blockR ?_ | refine E_blockC ?_ | refine E_blockB ?_ | refine E_inBlock ?_ | refine E_exit rfl ?_ | refine T_not rfl rfl ?_ | refine T_notB rfl rfl ?_ | refine T_max rfl rfl rfl ?_ | refine T_min rfl rfl rfl ?_ | refine T_extract rfl rfl rfl ?_) | (first | refine T_len tyI rfl rfl (Ints.len (by assumption)) ?_ | refine T_indexN tyI rfl rfl rfl (by assumption) (by omega) ?_ | refine T_indexI tyI rfl rfl rfl (by assumption) (by omega) ?_ | refine T_loadI Try.isAgg3 rfl rfl (by assumption) (by omega) ?_))
  refine T_call rfl rfl (heldIntS_spec g0 _ 1 w19 hg0.ints (by omega) (by omega)) (fun r w20 hr => ?_)
  obtain ⟨rfl, rfl⟩ := hr
  repeat (first | (first | refine T_move rfl rfl ?_ | refine T_assign rfl rfl ?_ | refine T_nil0 ?_ | refine T_nil1 ?_ | refine E_seq ?_ | refine E_region ?_ | refine T_cmp rfl rfl rfl rfl ?_ | refine T_on rfl rfl ?_ | refine T_off rfl rfl rfl ?_ | refine T_offU rfl rfl rfl ?_ | refine T_add rfl rfl rfl (by omega) ?_ | refine T_sub rfl rfl rfl (by omega) ?_ | refine T_pick_true rfl rfl rfl ?_ | refine T_pick_false rfl rfl rfl ?_ | refine E_cond_true rfl ?_ | refine E_cond_false rfl ?_ | refine E_skip ?_ | refine E_blockS ?_ | refine E_blockR ?_ | refine E_blockC ?_ | refine E_blockB ?_ | refine E_inBlock ?_ | refine E_exit rfl ?_ | refine T_not rfl rfl ?_ | refine T_notB rfl rfl ?_ | refine T_max rfl rfl rfl ?_ | refine T_min rfl rfl rfl ?_ | refine T_extract rfl rfl rfl ?_) | (first | refine T_len tyI rfl rfl (Ints.len (by assumption)) ?_ | refine T_indexN tyI rfl rfl rfl (by assumption) (by omega) ?_ | refine T_indexI tyI rfl rfl rfl (by assumption) (by omega) ?_ | refine T_loadI Try.isAgg3 rfl rfl (by assumption) (by omega) ?_))
  refine E_cond_if rfl (fun hk => ?_) (fun hk => ?_)
  · exact absurd rfl hk
  repeat' (first | (first | refine T_move rfl rfl ?_ | refine T_assign rfl rfl ?_ | refine T_nil0 ?_ | refine T_nil1 ?_ | refine E_seq ?_ | refine E_region ?_ | refine T_cmp rfl rfl rfl rfl ?_ | refine T_on rfl rfl ?_ | refine T_off rfl rfl rfl ?_ | refine T_offU rfl rfl rfl ?_ | refine T_add rfl rfl rfl (by omega) ?_ | refine T_sub rfl rfl rfl (by omega) ?_ | refine T_pick_true rfl rfl rfl ?_ | refine T_pick_false rfl rfl rfl ?_ | refine E_cond_true rfl ?_ | refine E_cond_false rfl ?_ | refine E_skip ?_ | refine E_blockS ?_ | refine E_blockR ?_ | refine E_blockC ?_ | refine E_blockB ?_ | refine E_inBlock ?_ | refine E_exit rfl ?_ | refine T_not rfl rfl ?_ | refine T_notB rfl rfl ?_ | refine T_max rfl rfl rfl ?_ | refine T_min rfl rfl rfl ?_ | refine T_extract rfl rfl rfl ?_) | (first | refine T_len tyI rfl rfl (Ints.len (by assumption)) ?_ | refine T_indexN tyI rfl rfl rfl (by assumption) (by omega) ?_ | refine T_indexI tyI rfl rfl rfl (by assumption) (by omega) ?_ | refine T_loadI Try.isAgg3 rfl rfl (by assumption) (by omega) ?_) | (first | refine T_guard rfl rfl (fun hp => ?_) (fun hp => ?_) | refine T_guardB rfl rfl (fun hp => ?_) (fun hp => ?_) | refine E_cond_if rfl (fun hp => ?_) (fun hp => ?_) | refine E_cond_bool rfl (fun hp => ?_) (fun hp => ?_)) | (first | refine E_ret1 rfl rfl ?_ | refine E_ret2 rfl rfl rfl ?_ | refine E_ret3 rfl rfl rfl rfl ?_))
  exact ⟨rfl, hB⟩
end Go.Proofs.Ytjpbmjigmbfcfaa
