/-
  The walk of laws.FnJoinReelsTurned: it returns true, and writes nothing that was there. Conditions: the arguments lie in memory as the contract says.
-/
import Derived.Test.YtehmphhdmpnlfaaC2a
import Derived.Test.YtehmphhdmpnlfaaC2b
import Derived.Test.YtehmphhdmpnlfaaC2c
import Derived.Test.YtehmphhdmpnlfaaC2d
import Derived.Test.YtehmphhdmpnlfaaG2c
import Derived.Test.YtehmphhdmpnlfaaLibQ
import Derived.Test.YtehmphhdmpnlfaaRowY
namespace Go.Proofs.Ytehmphhdmpnlfaa
open Go Go.PR Go.RowKit attribute [local irreducible] T E Ints Sl Bools OwnI OwnB OwnR Recs Box Ret
attribute [local irreducible] Bytes X

set_option maxHeartbeats 1000000 in
theorem FnJoinReelsTurned_walk (cv : Value) (cs : List Int) (w : World) (hY : Bytes w.heap cv cs ∧ ∀ c ∈ cs, 0 ≤ c ∧ c ≤ 255) :
    Ret Try.prog 6 #[cv] w (fun r w' => r = .bool true ∧ Below w.heap.size w w') := by
  obtain ⟨hY, hby⟩ := hY
  refine Ret_of (args := [_]) Try.call6 Try.func6 rfl _ Try.ntmps6 rfl ?_
  repeat (first | refine T_move rfl rfl ?_ | refine T_assign rfl rfl ?_ | refine T_nil0 ?_ | refine E_seq ?_ | refine E_region ?_)
  refine T_len tyY rfl rfl hY.len ?_
  repeat (first | refine T_nil0 ?_ | refine T_cmp rfl rfl rfl rfl ?_)
  refine E_cond_if rfl (fun hp => ?_) (fun hp => ?_)
  · repeat' (first | refine T_assign rfl rfl ?_ | refine T_nil0 ?_ | refine E_seq ?_ | refine E_region ?_ | refine E_ret1 rfl rfl ?_)
    exact ⟨rfl, Below.refl _ _⟩
  repeat (first | refine T_move rfl rfl ?_ | refine E_seq ?_ | refine E_region ?_ | refine E_skip ?_)
  refine T_call rfl rfl (DrawJoinReels_spec cv cs w hY hby) (fun r w1 hr => ?_)
  obtain ⟨a, u, b, v, rfl, hO, hV, hal, hbl, hB⟩ := hr
  repeat (first | refine T_move rfl rfl ?_ | refine T_extract rfl rfl rfl ?_)
  refine T_new2 (us := relC a u) (vs := relC b v) zL sL rfl zL sL rfl (fun _ _ => rfl) (fun _ _ => rfl) rfl rfl (by decide) rfl (relC_one hO.recs.rlen) rfl (relC_one hV.recs.rlen) (fun b3 b4 w2 hn3 hn4 hne hx3 hx4 hb => ?_)
  have hI := (hO.later hb).recs
  have hJ := (hV.later hb).recs
  have hB := hB.step hB.size hb
  have hRR := Below.refl w2.heap.size w2
  clear hO hV hb
  repeat (first | refine T_nil0 ?_ | refine E_seq ?_ | refine E_region ?_ | refine T_loadBoxAB aL sL rfl rfl (by assumption) (by assumption) (by rfl) ?_)
  refine T_call rfl rfl (JoinReels_spec a u b v w2 hI hJ) (fun r w3 hr => ?_)
  obtain ⟨u5, rfl, hO5, hb⟩ := hr
  have hB := hB.step hB.size hb
  have hI := hI.later hb
  have hJ := hJ.later hb
  have hx3 := hx3.later hb
  have hx4 := hx4.later hb
  clear hRR hb
  repeat (first | refine T_move rfl rfl ?_ | refine T_extract rfl rfl rfl ?_)
  refine T_new (us := relC (joinF a b) u5) zL sL rfl (fun _ => rfl) rfl rfl (relC_one hO5.recs.rlen) (fun b5 w4 hn5 hx5 hb => ?_)
  have hB := hB.step hB.size hb
  have hI := hI.later hb
  have hJ := hJ.later hb
  have hx3 := hx3.later hb
  have hx4 := hx4.later hb
  have hI5 := (hO5.later hb).recs
  have hl5 := joinF_len a b
  have hRR := Below.refl w4.heap.size w4
  clear hO5 hb
  repeat (first | refine T_assign rfl rfl ?_ | refine T_nil0 ?_ | refine E_seq ?_ | refine E_region ?_ | refine T_loadBoxAB aL sL rfl rfl (by assumption) (by assumption) (by rfl) ?_)
  refine T_call rfl rfl (sJoinReels_spec a u b v w4 hI hJ (by omega) (by omega)) (fun r w5 hr => ?_)
  obtain ⟨u7, rfl, hO7, hb⟩ := hr
  have hB := hB.step hB.size hb
  have hI := hI.later hb
  have hJ := hJ.later hb
  have hI5 := hI5.later hb
  have hx3 := hx3.later hb
  have hx4 := hx4.later hb
  have hx5 := hx5.later hb
  clear hRR hb
  repeat (first | refine T_move rfl rfl ?_ | refine T_extract rfl rfl rfl ?_)
  refine T_new (us := relC (joinF a b) u7) zL sL rfl (fun _ => rfl) rfl rfl (relC_one hO7.recs.rlen) (fun b7 w6 hn7 hx7 hb => ?_)
  have hB := hB.step hB.size hb
  have hI := hI.later hb
  have hJ := hJ.later hb
  have hx3 := hx3.later hb
  have hx4 := hx4.later hb
  have hx5 := hx5.later hb
  have hI5 := hI5.later hb
  have hI7 := (hO7.later hb).recs
  have hRR := Below.refl w6.heap.size w6
  clear hO7 hb
  repeat (first | refine T_assign rfl rfl ?_ | refine T_nil0 ?_ | refine E_seq ?_ | refine E_region ?_ | refine T_loadBoxAB aL sL rfl rfl (by assumption) (by assumption) (by rfl) ?_)
  refine T_call rfl rfl (equalReel_same _ _ u5 u7 w6 rfl hI5 hI7 hl5) (fun r w7 hr => ?_)
  obtain ⟨rfl, hb⟩ := hr
  have hB := hB.step hB.size hb
  have hE := hRR.step hRR.size hb
  have hI := hI.later hb
  have hJ := hJ.later hb
  have hI5 := hI5.later hb
  have hI7 := hI7.later hb
  clear hRR hb
  repeat (first | refine T_move rfl rfl ?_ | refine T_on rfl rfl ?_ | refine T_notB rfl rfl ?_)
  refine T_neqB Try.underlying4 rfl rfl rfl ?_
  rw [show decide (decide (joinOk a b) ≠ decide (joinOk a b)) = false from by simp]
  repeat (first | refine T_move rfl rfl ?_ | refine T_nil0 ?_ | refine T_on rfl rfl ?_ | refine T_pick_false rfl rfl rfl ?_ | refine T_not rfl rfl ?_)
  refine E_cond_if rfl (fun h2 => ?_) (fun h2 => ?_)
  · repeat (first | refine E_seq ?_ | refine E_region ?_ | refine T_loadBoxAB aL sL rfl rfl (by assumption) (by assumption) (by rfl) ?_)
    refine T_call rfl rfl (equalReel_same _ _ u5 u7 w7 rfl hI5 hI7 hl5) (fun r w8 hr => ?_)
    obtain ⟨rfl, hb⟩ := hr
    have hB := hB.step hB.size hb
    repeat (first | refine T_move rfl rfl ?_ | refine T_on rfl rfl ?_)
    refine T_eqlB Try.underlying4 rfl rfl rfl ?_
    repeat' (first | refine T_assign rfl rfl ?_ | refine T_nil0 ?_ | refine T_pick_true rfl rfl rfl ?_ | refine E_ret1 rfl rfl ?_)
    exact ⟨by simp, hB⟩
  have hok := Decidable.not_not.1 h2
  have e : joinF a b = joinN a b := by unfold joinF; rw [if_pos hok]
  rw [e] at hx5 hI5 hl5
  have oka := hok.1
  have okb := hok.2.1
  have okj := hok.2.2.2
  have ha1 := oka.1
  have ha2 := oka.2.1
  have hb1 := okb.1
  have hb2 := okb.2.1
  have et : turnF (joinN a b) = turnN (joinN a b) := by unfold turnF; rw [if_pos okj]
  have okt := turnN_ok okj
  have ho1 : okT (turnN (joinN a b)).w (turnN (joinN a b)).n ⟨0, b.w, 0, b.n⟩ := by
    have := hok.2.2.1
    show 0 ≤ (0 : Int) ∧ 0 < b.w ∧ b.w ≤ a.w ∧ 0 ≤ (0 : Int) ∧ 0 < b.n ∧ b.n ≤ a.n + b.n; omega
  have ho2 : okT (turnN (joinN a b)).w (turnN (joinN a b)).n ⟨0, b.w, b.n, (turnN (joinN a b)).n⟩ := by
    have := hok.2.2.1
    show 0 ≤ (0 : Int) ∧ 0 < b.w ∧ b.w ≤ a.w ∧ 0 ≤ b.n ∧ b.n < a.n + b.n ∧ a.n + b.n ≤ a.n + b.n; omega
  have e1 : cutF (turnN (joinN a b)) ⟨0, b.w, 0, b.n⟩ = turnF b := by unfold cutF turnF; rw [if_pos ⟨okt, ho1⟩, if_pos okb, turn_left hok]
  have e2 : cutF (turnN (joinN a b)) ⟨0, b.w, b.n, (turnN (joinN a b)).n⟩ = turnF a := by unfold cutF turnF; rw [if_pos ⟨okt, ho2⟩, if_pos oka]; exact turn_right hok
  have hle := cutF_len (turnN (joinN a b)) ⟨0, b.w, 0, b.n⟩
  have hle2 := cutF_len (turnN (joinN a b)) ⟨0, b.w, b.n, (turnN (joinN a b)).n⟩
  repeat (first | refine E_seq ?_ | refine E_region ?_ | refine E_skip ?_ | refine T_loadBoxAB aL sL rfl rfl (by assumption) (by assumption) (by rfl) ?_)
  refine T_call rfl rfl (TurnReel_spec (joinN a b) u5 w7 hI5) (fun r w8 hr => ?_)
  obtain ⟨u9, rfl, hO9, hb⟩ := hr
  rw [et] at hO9
  rw [et]
  have hB := hB.step hB.size hb
  have hE := hE.step hE.size hb
  have hI := hI.later hb
  have hJ := hJ.later hb
  clear hb
  skip
  refine T_new (us := relC (turnN (joinN a b)) u9) zL sL rfl (fun _ => rfl) rfl rfl (relC_one hO9.recs.rlen) (fun b9 w9 hn9 hx9 hb => ?_)
  have hB := hB.step hB.size hb
  have hI := hI.later hb
  have hJ := hJ.later hb
  have hI9 := (hO9.later hb).recs
  have hx3 := (hx3.later hE).later hb
  have hx4 := (hx4.later hE).later hb
  clear hE hb
  have hE := Below.refl w9.heap.size w9
  repeat (first | refine T_nil0 ?_ | refine E_seq ?_ | refine E_region ?_ | refine T_fieldBoxF (fun _ _ => by kernel_rfl) rfl rfl ?_ | refine T_loadBoxB Try.isAgg3 rfl rfl (by assumption) (by assumption) (by rfl) ?_)
  refine T_build rfl rfl (bTw _ _) ?_
  refine T_new (us := recT.enc ⟨0, b.w, 0, b.n⟩) zT sT rfl (fun _ => rfl) rfl rfl (recT.one _) (fun b10 w10 hn10 hx10 hb => ?_)
  have hB := hB.step hB.size hb
  have hE := hE.step hE.size hb
  have hI := hI.later hb
  have hJ := hJ.later hb
  have hI9 := hI9.later hb
  clear hb
  repeat (first | refine T_nil0 ?_ | refine E_seq ?_ | refine E_region ?_ | refine T_fieldBoxF (fun _ _ => by kernel_rfl) rfl rfl ?_ | refine T_loadBoxB Try.isAgg3 rfl rfl (by assumption) (by assumption) (by rfl) ?_)
  refine T_build rfl rfl (bT123 _ _ _) ?_
  refine T_new (us := recT.enc ⟨0, b.w, b.n, (turnN (joinN a b)).n⟩) zT sT rfl (fun _ => rfl) rfl rfl (recT.one _) (fun b11 w11 hn11 hx11 hb => ?_)
  have hB := hB.step hB.size hb
  have hI := hI.later hb
  have hJ := hJ.later hb
  have hI9 := hI9.later hb
  have hx10 := hx10.later hb
  have hx3 := (hx3.later hE).later hb
  have hx4 := (hx4.later hE).later hb
  have hx9 := (hx9.later hE).later hb
  clear hE hb
  have hE := Below.refl w11.heap.size w11
  repeat (first | refine T_nil0 ?_ | refine E_seq ?_)
  refine E_region_held 14 w11.drew follows (by kernel_rfl) ?_
  have hdr : Below w11.heap.size w11 w11.drew := (Below.refl _ _).drew
  have hE := hE.step hE.size hdr
  have hB := hB.step hB.size hdr
  have hI := hI.later hdr
  have hJ := hJ.later hdr
  have hI9 := hI9.later hdr
  clear hdr
  generalize w11.drew = w11_0 at *
  have hS := Below.refl w11_0.heap.size w11_0
  refine X_run 0 2 (by kernel_rfl) hS ?_
  repeat (first | refine T_nil3 ?_ | refine T_loadBoxAB aL sL rfl rfl (by assumption) (by assumption) (by rfl) ?_ | refine T_loadBoxAB aT sT rfl rfl (by assumption) (by assumption) (by rfl) ?_)
  refine X_run 3 1 (by kernel_rfl) hS ?_
  repeat (first | refine T_nil3 ?_ | refine T_loadBoxAB aL sL rfl rfl (by assumption) (by assumption) (by rfl) ?_)
  refine X_one 2 (by kernel_rfl) ?_
  refine T_call rfl rfl (CutReel_spec (turnN (joinN a b)) u9 (⟨0, b.w, 0, b.n⟩) _ hI9) (fun r w11_1 hr => ?_)
  obtain ⟨uu1, rfl, hh1, hb⟩ := hr
  have hS := hS.step hS.size hb
  have hI := hI.later hb
  have hJ := hJ.later hb
  have hI9 := hI9.later hb
  have hh1 := hh1.recs
  clear hb
  repeat (first | refine T_nil0 ?_)
  refine ⟨hS, ?_⟩
  refine X_one 4 (by kernel_rfl) ?_
  refine T_call rfl rfl (TurnReel_spec (b) v _ hJ) (fun r w11_2 hr => ?_)
  obtain ⟨uu2, rfl, hh2, hb⟩ := hr
  have hS := hS.step hS.size hb
  have hI := hI.later hb
  have hJ := hJ.later hb
  have hI9 := hI9.later hb
  have hh1 := hh1.later hb
  have hh2 := hh2.recs
  clear hb
  repeat (first | refine T_nil0 ?_)
  refine ⟨hS, ?_⟩
  refine X_one 5 (by kernel_rfl) ?_
  refine T_call rfl rfl (equalReel_same (cutF (turnN (joinN a b)) (⟨0, b.w, 0, b.n⟩)) (turnF (b)) uu1 uu2 _ (e1) hh1 hh2 (by omega)) (fun r w11_3 hr => ?_)
  obtain ⟨rfl, hb⟩ := hr
  have hS := hS.step hS.size hb
  have hI := hI.later hb
  have hJ := hJ.later hb
  have hI9 := hI9.later hb
  have hh1 := hh1.later hb
  have hh2 := hh2.later hb
  clear hb
  repeat (first | refine T_nil0 ?_)
  refine ⟨hS, ?_⟩
  refine X_run 6 3 (by kernel_rfl) hS ?_
  repeat (first | refine T_move rfl rfl ?_ | refine T_nil3 ?_ | refine T_on rfl rfl ?_ | refine T_loadBoxAB aL sL rfl rfl (by assumption) (by assumption) (by rfl) ?_ | refine T_loadBoxAB aT sT rfl rfl (by assumption) (by assumption) (by rfl) ?_)
  refine X_run 10 1 (by kernel_rfl) hS ?_
  repeat (first | refine T_nil3 ?_ | refine T_on rfl rfl ?_ | refine T_loadBoxAB aL sL rfl rfl (by assumption) (by assumption) (by rfl) ?_)
  refine X_one 9 (by kernel_rfl) ?_
  refine T_on rfl rfl ?_
  refine T_call rfl rfl (CutReel_spec (turnN (joinN a b)) u9 (⟨0, b.w, b.n, (turnN (joinN a b)).n⟩) _ hI9) (fun r w11_4 hr => ?_)
  obtain ⟨uu4, rfl, hh4, hb⟩ := hr
  have hS := hS.step hS.size hb
  have hI := hI.later hb
  have hJ := hJ.later hb
  have hI9 := hI9.later hb
  have hh1 := hh1.later hb
  have hh2 := hh2.later hb
  have hh4 := hh4.recs
  clear hb
  repeat (first | refine T_nil0 ?_)
  refine ⟨hS, ?_⟩
  refine X_one 11 (by kernel_rfl) ?_
  refine T_on rfl rfl ?_
  refine T_call rfl rfl (TurnReel_spec (a) u _ hI) (fun r w11_5 hr => ?_)
  obtain ⟨uu5, rfl, hh5, hb⟩ := hr
  have hS := hS.step hS.size hb
  have hI := hI.later hb
  have hJ := hJ.later hb
  have hI9 := hI9.later hb
  have hh1 := hh1.later hb
  have hh2 := hh2.later hb
  have hh4 := hh4.later hb
  have hh5 := hh5.recs
  clear hb
  repeat (first | refine T_nil0 ?_)
  refine ⟨hS, ?_⟩
  refine X_one 12 (by kernel_rfl) ?_
  refine T_on rfl rfl ?_
  refine T_call rfl rfl (equalReel_same (cutF (turnN (joinN a b)) (⟨0, b.w, b.n, (turnN (joinN a b)).n⟩)) (turnF (a)) uu4 uu5 _ (e2) hh4 hh5 (by omega)) (fun r w11_6 hr => ?_)
  obtain ⟨rfl, hb⟩ := hr
  have hS := hS.step hS.size hb
  have hI := hI.later hb
  have hJ := hJ.later hb
  have hI9 := hI9.later hb
  have hh1 := hh1.later hb
  have hh2 := hh2.later hb
  have hh4 := hh4.later hb
  have hh5 := hh5.later hb
  clear hb
  repeat (first | refine T_nil0 ?_)
  refine ⟨hS, ?_⟩
  refine X_run 13 1 (by kernel_rfl) hS ?_
  repeat (first | refine T_nil3 ?_ | refine T_pick_true rfl rfl rfl ?_)
  refine X_tail (by kernel_rfl) ?_
  have hB := hB.step hB.size hS
  have hE := hE.step hE.size hS
  clear hS
  repeat (first | refine T_assign rfl rfl ?_ | refine T_nil0 ?_)
  repeat' (first | refine E_ret1 rfl rfl ?_)
  exact ⟨rfl, hB⟩
end Go.Proofs.Ytehmphhdmpnlfaa
