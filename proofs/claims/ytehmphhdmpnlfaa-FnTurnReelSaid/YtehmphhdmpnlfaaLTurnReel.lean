/-
  The walk of laws.FnTurnReel: it returns true, and writes nothing that was there. Conditions: the arguments lie in memory as the contract says.
-/
import Derived.Test.YtehmphhdmpnlfaaC2b
import Derived.Test.YtehmphhdmpnlfaaC2d
import Derived.Test.YtehmphhdmpnlfaaG2c
import Derived.Test.YtehmphhdmpnlfaaLibQ
import Derived.Test.YtehmphhdmpnlfaaRowY
namespace Go.Proofs.Ytehmphhdmpnlfaa
open Go Go.PR Go.RowKit attribute [local irreducible] T E Ints Sl Bools OwnI OwnB OwnR Recs Box Ret
attribute [local irreducible] Bytes X

set_option maxHeartbeats 1000000 in
theorem FnTurnReel_walk (cv : Value) (cs : List Int) (w : World) (hY : Bytes w.heap cv cs ∧ ∀ c ∈ cs, 0 ≤ c ∧ c ≤ 255) :
    Ret Try.prog 5 #[cv] w (fun r w' => r = .bool true ∧ Below w.heap.size w w') := by
  obtain ⟨hY, hby⟩ := hY
  refine Ret_of (args := [_]) Try.call5 Try.func5 rfl _ Try.ntmps5 rfl ?_
  repeat (first | refine T_move rfl rfl ?_ | refine T_assign rfl rfl ?_ | refine T_nil0 ?_ | refine E_seq ?_ | refine E_region ?_)
  refine T_len tyY rfl rfl hY.len ?_
  repeat (first | refine T_nil0 ?_ | refine T_cmp rfl rfl rfl rfl ?_)
  refine E_cond_if rfl (fun hp => ?_) (fun hp => ?_)
  · repeat' (first | refine T_assign rfl rfl ?_ | refine T_nil0 ?_ | refine E_seq ?_ | refine E_region ?_ | refine E_ret1 rfl rfl ?_)
    exact ⟨rfl, Below.refl _ _⟩
  repeat (first | refine T_move rfl rfl ?_ | refine E_seq ?_ | refine E_region ?_ | refine E_skip ?_)
  refine T_call rfl rfl (DrawTurnReel_spec cv cs w hY hby) (fun r w1 hr => ?_)
  obtain ⟨x, u, rfl, hO, hdl, hB⟩ := hr
  skip
  refine T_new (us := relC x u) zL sL rfl (fun _ => rfl) rfl rfl (relC_one hO.recs.rlen) (fun b3 w2 hn3 hx3 hb => ?_)
  have hI := (hO.later hb).recs
  have hB := hB.step hB.size hb
  have hRR := Below.refl w2.heap.size w2
  clear hO hb
  repeat (first | refine T_nil0 ?_ | refine E_seq ?_ | refine E_region ?_ | refine T_loadBoxAB aL sL rfl rfl (by assumption) (by assumption) (by rfl) ?_)
  refine T_call rfl rfl (TurnReel_spec x u w2 hI) (fun r w3 hr => ?_)
  obtain ⟨u4, rfl, hO4, hb⟩ := hr
  have hB := hB.step hB.size hb
  have hI := hI.later hb
  have hx3 := hx3.later hb
  clear hRR hb
  skip
  refine T_new (us := relC (turnF x) u4) zL sL rfl (fun _ => rfl) rfl rfl (relC_one hO4.recs.rlen) (fun b4 w4 hn4 hx4 hb => ?_)
  have hB := hB.step hB.size hb
  have hI := hI.later hb
  have hx3 := hx3.later hb
  have hI4 := (hO4.later hb).recs
  have hl4 := turnF_len x
  clear hO4 hb
  repeat (first | refine T_nil0 ?_ | refine E_seq ?_)
  have hE := Below.refl w4.heap.size w4
  skip
  refine E_region_held 9 w4.drew follows (by kernel_rfl) ?_
  have hdr : Below w4.heap.size w4 w4.drew := (Below.refl _ _).drew
  have hE := hE.step hE.size hdr
  have hB := hB.step hB.size hdr
  have hI := hI.later hdr
  have hI4 := hI4.later hdr
  clear hdr
  generalize w4.drew = w5_0 at *
  have hS := Below.refl w5_0.heap.size w5_0
  refine X_run 0 2 (by kernel_rfl) hS ?_
  repeat (first | refine T_nil3 ?_ | refine T_loadBoxAB aL sL rfl rfl (by assumption) (by assumption) (by rfl) ?_)
  refine X_one 2 (by kernel_rfl) ?_
  refine T_call rfl rfl (sTurnReel_spec (x) u _ hI (by omega)) (fun r w5_1 hr => ?_)
  obtain ⟨uu1, rfl, hh1, hb⟩ := hr
  have hS := hS.step hS.size hb
  have hI := hI.later hb
  have hI4 := hI4.later hb
  have hh1 := hh1.recs
  clear hb
  repeat (first | refine T_nil0 ?_)
  refine ⟨hS, ?_⟩
  refine X_one 3 (by kernel_rfl) ?_
  refine T_call rfl rfl (equalReel_same (turnF x) (turnF (x)) u4 uu1 _ (rfl) hI4 hh1 (by omega)) (fun r w5_2 hr => ?_)
  obtain ⟨rfl, hb⟩ := hr
  have hS := hS.step hS.size hb
  have hI := hI.later hb
  have hI4 := hI4.later hb
  have hh1 := hh1.later hb
  clear hb
  repeat (first | refine T_nil0 ?_)
  refine ⟨hS, ?_⟩
  refine X_run 4 3 (by kernel_rfl) hS ?_
  repeat (first | refine T_move rfl rfl ?_ | refine T_nil3 ?_ | refine T_on rfl rfl ?_ | refine T_notB rfl rfl ?_ | refine T_loadBoxAB aL sL rfl rfl (by assumption) (by assumption) (by rfl) ?_)
  refine X_one 7 (by kernel_rfl) ?_
  refine T_on rfl rfl ?_
  refine T_call rfl rfl (ValidReel_spec (x) u _ hI) (fun r w5_3 hr => ?_)
  obtain ⟨rfl, hb⟩ := hr
  have hS := hS.step hS.size hb
  have hI := hI.later hb
  have hI4 := hI4.later hb
  have hh1 := hh1.later hb
  clear hb
  repeat (first | refine T_nil0 ?_)
  refine ⟨hS, ?_⟩
  refine X_run 8 1 (by kernel_rfl) hS ?_
  repeat (first | refine T_nil3 ?_ | refine T_on rfl rfl ?_ | refine T_not rfl rfl ?_)
  refine X_tail (by kernel_rfl) ?_
  have hB := hB.step hB.size hS
  have hE := hE.step hE.size hS
  clear hS
  repeat (first | refine T_nil0 ?_ | refine T_pick_false rfl rfl rfl ?_)
  refine E_cond_if rfl (fun h2 => ?_) (fun h2 => ?_)
  · repeat (first | refine E_seq ?_)
    skip
    refine E_region_held 4 w5_3.drew follows (by kernel_rfl) ?_
    have hdr : Below w5_3.heap.size w5_3 w5_3.drew := (Below.refl _ _).drew
    have hE := hE.step hE.size hdr
    have hB := hB.step hB.size hdr
    have hI := hI.later hdr
    have hI4 := hI4.later hdr
    clear hdr
    generalize w5_3.drew = w6_0 at *
    have hS := Below.refl w6_0.heap.size w6_0
    refine X_run 0 2 (by kernel_rfl) hS ?_
    repeat (first | refine T_nil3 ?_ | refine T_loadBoxAB aL sL rfl rfl (by assumption) (by assumption) (by rfl) ?_)
    refine X_one 2 (by kernel_rfl) ?_
    refine T_call rfl rfl (sTurnReel_spec (x) u _ hI (by omega)) (fun r w6_1 hr => ?_)
    obtain ⟨uu1, rfl, hh1, hb⟩ := hr
    have hS := hS.step hS.size hb
    have hI := hI.later hb
    have hI4 := hI4.later hb
    have hh1 := hh1.recs
    clear hb
    repeat (first | refine T_nil0 ?_)
    refine ⟨hS, ?_⟩
    refine X_one 3 (by kernel_rfl) ?_
    refine T_call rfl rfl (equalReel_same (turnF x) (turnF (x)) u4 uu1 _ (rfl) hI4 hh1 (by omega)) (fun r w6_2 hr => ?_)
    obtain ⟨rfl, hb⟩ := hr
    have hS := hS.step hS.size hb
    have hI := hI.later hb
    have hI4 := hI4.later hb
    have hh1 := hh1.later hb
    clear hb
    repeat (first | refine T_nil0 ?_)
    refine ⟨hS, ?_⟩
    refine X_tail (by kernel_rfl) ?_
    have hB := hB.step hB.size hS
    have hE := hE.step hE.size hS
    clear hS
    repeat (first | refine T_assign rfl rfl ?_ | refine T_nil0 ?_)
    repeat' (first | refine E_ret1 rfl rfl ?_)
    exact ⟨rfl, hB⟩
  have hok := Decidable.not_not.1 h2
  have e : turnF x = turnN x := by unfold turnF; rw [if_pos hok]
  have hok' := turnN_ok hok
  have e2 : turnF (turnF x) = x := by rw [e]; unfold turnF; rw [if_pos hok', turn_turn]
  have hl5 := turnF_len (turnF x)
  have e3 : worstF (turnF x) (wholeF (turnF x)) = worstF x (wholeF x) := by
    rw [e]; unfold worstF; rw [if_pos ⟨hok', whole_ok hok'⟩, if_pos ⟨hok, whole_ok hok⟩, turn_worst hok]
  have e4 : areaF (turnF x) 3 = areaF x 3 := by rw [e]; exact area_turn hok 3
  repeat (first | refine E_seq ?_ | refine E_skip ?_)
  refine E_region_held 26 w5_3.drew follows (by kernel_rfl) ?_
  have hdr : Below w5_3.heap.size w5_3 w5_3.drew := (Below.refl _ _).drew
  have hE := hE.step hE.size hdr
  have hB := hB.step hB.size hdr
  have hI := hI.later hdr
  have hI4 := hI4.later hdr
  clear hdr
  generalize w5_3.drew = w7_0 at *
  have hS := Below.refl w7_0.heap.size w7_0
  refine X_run 0 1 (by kernel_rfl) hS ?_
  repeat (first | refine T_nil3 ?_ | refine T_loadBoxAB aL sL rfl rfl (by assumption) (by assumption) (by rfl) ?_)
  refine X_one 1 (by kernel_rfl) ?_
  refine T_call rfl rfl (ValidReel_spec (turnF x) u4 _ hI4) (fun r w7_1 hr => ?_)
  obtain ⟨rfl, hb⟩ := hr
  have hS := hS.step hS.size hb
  have hI := hI.later hb
  have hI4 := hI4.later hb
  clear hb
  rw [decide_eq_true (show okR (turnF x) from (by rw [e]; exact hok'))]
  repeat (first | refine T_nil0 ?_)
  refine ⟨hS, ?_⟩
  refine X_run 2 2 (by kernel_rfl) hS ?_
  repeat (first | refine T_move rfl rfl ?_ | refine T_nil3 ?_ | refine T_on rfl rfl ?_ | refine T_loadBoxAB aL sL rfl rfl (by assumption) (by assumption) (by rfl) ?_)
  refine X_run 5 1 (by kernel_rfl) hS ?_
  repeat (first | refine T_nil3 ?_ | refine T_on rfl rfl ?_ | refine T_loadBoxAB aL sL rfl rfl (by assumption) (by assumption) (by rfl) ?_)
  refine X_one 4 (by kernel_rfl) ?_
  refine T_on rfl rfl ?_
  refine T_call rfl rfl (TurnReel_spec (turnF x) u4 _ hI4) (fun r w7_2 hr => ?_)
  obtain ⟨uu2, rfl, hh2, hb⟩ := hr
  have hS := hS.step hS.size hb
  have hI := hI.later hb
  have hI4 := hI4.later hb
  have hh2 := hh2.recs
  clear hb
  repeat (first | refine T_nil0 ?_)
  refine ⟨hS, ?_⟩
  refine X_one 6 (by kernel_rfl) ?_
  refine T_on rfl rfl ?_
  refine T_call rfl rfl (equalReel_same (turnF (turnF x)) (x) uu2 u _ (e2) hh2 hI (by omega)) (fun r w7_3 hr => ?_)
  obtain ⟨rfl, hb⟩ := hr
  have hS := hS.step hS.size hb
  have hI := hI.later hb
  have hI4 := hI4.later hb
  have hh2 := hh2.later hb
  clear hb
  repeat (first | refine T_nil0 ?_)
  refine ⟨hS, ?_⟩
  refine X_run 7 4 (by kernel_rfl) hS ?_
  repeat (first | refine T_move rfl rfl ?_ | refine T_nil3 ?_ | refine T_on rfl rfl ?_ | refine T_pick_true rfl rfl rfl ?_ | refine T_loadBoxAB aL sL rfl rfl (by assumption) (by assumption) (by rfl) ?_)
  refine X_run 13 2 (by kernel_rfl) hS ?_
  repeat (first | refine T_nil3 ?_ | refine T_on rfl rfl ?_ | refine T_loadBoxAB aL sL rfl rfl (by assumption) (by assumption) (by rfl) ?_)
  refine X_one 11 (by kernel_rfl) ?_
  refine T_on rfl rfl ?_
  refine T_call rfl rfl (whole_spec (turnF x) u4 _) (fun r w7_4 hr => ?_)
  obtain ⟨rfl, hb⟩ := hr
  have hS := hS.step hS.size hb
  have hI := hI.later hb
  have hI4 := hI4.later hb
  have hh2 := hh2.later hb
  clear hb
  repeat (first | refine T_nil0 ?_)
  refine ⟨hS, ?_⟩
  refine X_one 12 (by kernel_rfl) ?_
  refine T_on rfl rfl ?_
  refine T_call rfl rfl (WorstOf_spec (turnF x) u4 (wholeF (turnF x)) _ hI4) (fun r w7_5 hr => ?_)
  obtain ⟨rfl, hb⟩ := hr
  have hS := hS.step hS.size hb
  have hI := hI.later hb
  have hI4 := hI4.later hb
  have hh2 := hh2.later hb
  clear hb
  repeat (first | refine T_nil0 ?_)
  refine ⟨hS, ?_⟩
  refine X_one 15 (by kernel_rfl) ?_
  refine T_on rfl rfl ?_
  refine T_call rfl rfl (whole_spec (x) u _) (fun r w7_6 hr => ?_)
  obtain ⟨rfl, hb⟩ := hr
  have hS := hS.step hS.size hb
  have hI := hI.later hb
  have hI4 := hI4.later hb
  have hh2 := hh2.later hb
  clear hb
  repeat (first | refine T_nil0 ?_)
  refine ⟨hS, ?_⟩
  refine X_one 16 (by kernel_rfl) ?_
  refine T_on rfl rfl ?_
  refine T_call rfl rfl (WorstOf_spec (x) u (wholeF (x)) _ hI) (fun r w7_7 hr => ?_)
  obtain ⟨rfl, hb⟩ := hr
  have hS := hS.step hS.size hb
  have hI := hI.later hb
  have hI4 := hI4.later hb
  have hh2 := hh2.later hb
  clear hb
  repeat (first | refine T_nil0 ?_)
  refine ⟨hS, ?_⟩
  refine X_run 17 4 (by kernel_rfl) hS ?_
  repeat (first | refine T_move rfl rfl ?_ | refine T_cmp rfl rfl rfl rfl ?_ | refine T_on rfl rfl ?_ | refine T_pick_true rfl rfl rfl ?_)
  rw [decide_eq_true (e3)]
  repeat (first | refine T_nil3 ?_ | refine T_on rfl rfl ?_ | refine T_loadBoxAB aL sL rfl rfl (by assumption) (by assumption) (by rfl) ?_)
  refine X_run 22 1 (by kernel_rfl) hS ?_
  repeat (first | refine T_nil3 ?_ | refine T_on rfl rfl ?_ | refine T_loadBoxAB aL sL rfl rfl (by assumption) (by assumption) (by rfl) ?_)
  refine X_one 21 (by kernel_rfl) ?_
  refine T_on rfl rfl ?_
  refine T_call rfl rfl (BadArea_spec (turnF x) u4 (3) _ hI4) (fun r w7_8 hr => ?_)
  obtain ⟨rfl, hb⟩ := hr
  have hS := hS.step hS.size hb
  have hI := hI.later hb
  have hI4 := hI4.later hb
  have hh2 := hh2.later hb
  clear hb
  repeat (first | refine T_nil0 ?_)
  refine ⟨hS, ?_⟩
  refine X_one 23 (by kernel_rfl) ?_
  refine T_on rfl rfl ?_
  refine T_call rfl rfl (BadArea_spec (x) u (3) _ hI) (fun r w7_9 hr => ?_)
  obtain ⟨rfl, hb⟩ := hr
  have hS := hS.step hS.size hb
  have hI := hI.later hb
  have hI4 := hI4.later hb
  have hh2 := hh2.later hb
  clear hb
  repeat (first | refine T_nil0 ?_)
  refine ⟨hS, ?_⟩
  refine X_run 24 2 (by kernel_rfl) hS ?_
  repeat (first | refine T_nil3 ?_ | refine T_cmp rfl rfl rfl rfl ?_ | refine T_on rfl rfl ?_ | refine T_pick_true rfl rfl rfl ?_)
  rw [decide_eq_true (e4)]
  skip
  refine X_tail (by kernel_rfl) ?_
  have hB := hB.step hB.size hS
  have hE := hE.step hE.size hS
  clear hS
  repeat (first | refine T_assign rfl rfl ?_ | refine T_nil0 ?_)
  repeat' (first | refine E_ret1 rfl rfl ?_)
  exact ⟨rfl, hB⟩
end Go.Proofs.Ytehmphhdmpnlfaa
