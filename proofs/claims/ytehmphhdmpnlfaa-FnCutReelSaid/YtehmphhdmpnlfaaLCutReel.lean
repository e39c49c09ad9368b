/-
  The walk of laws.FnCutReel: it returns true, and writes nothing that was there. Conditions: the arguments lie in memory as the contract says.
-/
import Derived.Test.YtehmphhdmpnlfaaC2a
import Derived.Test.YtehmphhdmpnlfaaC2b
import Derived.Test.YtehmphhdmpnlfaaG2c
import Derived.Test.YtehmphhdmpnlfaaLibQ
import Derived.Test.YtehmphhdmpnlfaaRowY
namespace Go.Proofs.Ytehmphhdmpnlfaa
open Go Go.PR Go.RowKit attribute [local irreducible] T E Ints Sl Bools OwnI OwnB OwnR Recs Box Ret
attribute [local irreducible] Bytes X

set_option maxHeartbeats 1000000 in
theorem FnCutReel_walk (cv : Value) (cs : List Int) (w : World) (hY : Bytes w.heap cv cs ∧ ∀ c ∈ cs, 0 ≤ c ∧ c ≤ 255) :
    Ret Try.prog 4 #[cv] w (fun r w' => r = .bool true ∧ Below w.heap.size w w') := by
  obtain ⟨hY, hby⟩ := hY
  refine Ret_of (args := [_]) Try.call4 Try.func4 rfl _ Try.ntmps4 rfl ?_
  repeat (first | refine T_move rfl rfl ?_ | refine T_assign rfl rfl ?_ | refine T_nil0 ?_ | refine E_seq ?_ | refine E_region ?_)
  refine T_len tyY rfl rfl hY.len ?_
  repeat (first | refine T_nil0 ?_ | refine T_cmp rfl rfl rfl rfl ?_)
  refine E_cond_if rfl (fun hp => ?_) (fun hp => ?_)
  · repeat' (first | refine T_assign rfl rfl ?_ | refine T_nil0 ?_ | refine E_seq ?_ | refine E_region ?_ | refine E_ret1 rfl rfl ?_)
    exact ⟨rfl, Below.refl _ _⟩
  repeat (first | refine T_move rfl rfl ?_ | refine E_seq ?_ | refine E_region ?_ | refine E_skip ?_)
  refine T_call rfl rfl (DrawCutReel_spec cv cs w hY hby) (fun r w1 hr => ?_)
  obtain ⟨x, u, p, rfl, hO, hdl, hB⟩ := hr
  repeat (first | refine T_move rfl rfl ?_ | refine T_extract rfl rfl rfl ?_)
  refine T_new2 (us := relC x u) (vs := recT.enc p) zL sL rfl zT sT rfl (fun _ _ => rfl) (fun _ _ => rfl) rfl rfl (by decide) rfl (relC_one hO.recs.rlen) rfl (recT.one _) (fun b3 b4 w2 hn3 hn4 hne hx3 hx4 hb => ?_)
  have hI := (hO.later hb).recs
  have hB := hB.step hB.size hb
  have hRR := Below.refl w2.heap.size w2
  clear hO hb
  repeat (first | refine T_nil0 ?_ | refine E_seq ?_ | refine E_region ?_ | refine T_loadBoxAB aL sL rfl rfl (by assumption) (by assumption) (by rfl) ?_ | refine T_loadBoxAB aT sT rfl rfl (by assumption) (by assumption) (by rfl) ?_)
  refine T_call rfl rfl (CutReel_spec x u p w2 hI) (fun r w3 hr => ?_)
  obtain ⟨u5, rfl, hO5, hb⟩ := hr
  have hB := hB.step hB.size hb
  have hI := hI.later hb
  have hx3 := hx3.later hb
  have hx4 := hx4.later hb
  clear hRR hb
  skip
  refine T_new (us := relC (cutF x p) u5) zL sL rfl (fun _ => rfl) rfl rfl (relC_one hO5.recs.rlen) (fun b5 w4 hn5 hx5 hb => ?_)
  have hB := hB.step hB.size hb
  have hI := hI.later hb
  have hx3 := hx3.later hb
  have hx4 := hx4.later hb
  have hI5 := (hO5.later hb).recs
  have hl5 := cutF_len x p
  have hE := Below.refl w4.heap.size w4
  clear hO5 hb
  repeat (first | refine T_nil0 ?_ | refine E_seq ?_)
  refine E_region_held 10 w4.drew follows (by kernel_rfl) ?_
  have hdr : Below w4.heap.size w4 w4.drew := (Below.refl _ _).drew
  have hE := hE.step hE.size hdr
  have hB := hB.step hB.size hdr
  have hI := hI.later hdr
  have hI5 := hI5.later hdr
  clear hdr
  generalize w4.drew = w5_0 at *
  have hS := Below.refl w5_0.heap.size w5_0
  refine X_run 0 3 (by kernel_rfl) hS ?_
  repeat (first | refine T_nil3 ?_ | refine T_loadBoxAB aL sL rfl rfl (by assumption) (by assumption) (by rfl) ?_ | refine T_loadBoxAB aT sT rfl rfl (by assumption) (by assumption) (by rfl) ?_)
  refine X_one 3 (by kernel_rfl) ?_
  refine T_call rfl rfl (sCutReel_spec (x) u (p) _ hI (by omega)) (fun r w5_1 hr => ?_)
  obtain ⟨uu1, rfl, hh1, hb⟩ := hr
  have hS := hS.step hS.size hb
  have hI := hI.later hb
  have hI5 := hI5.later hb
  have hh1 := hh1.recs
  clear hb
  repeat (first | refine T_nil0 ?_)
  refine ⟨hS, ?_⟩
  refine X_one 4 (by kernel_rfl) ?_
  refine T_call rfl rfl (equalReel_same (cutF x p) (cutF (x) (p)) u5 uu1 _ (rfl) hI5 hh1 (by omega)) (fun r w5_2 hr => ?_)
  obtain ⟨rfl, hb⟩ := hr
  have hS := hS.step hS.size hb
  have hI := hI.later hb
  have hI5 := hI5.later hb
  have hh1 := hh1.later hb
  clear hb
  repeat (first | refine T_nil0 ?_)
  refine ⟨hS, ?_⟩
  refine X_run 5 5 (by kernel_rfl) hS ?_
  repeat (first | refine T_move rfl rfl ?_ | refine T_nil3 ?_ | refine T_cmp rfl rfl rfl rfl ?_ | refine T_on rfl rfl ?_ | refine T_notB rfl rfl ?_ | refine T_fieldBoxF (fun _ _ => by kernel_rfl) rfl rfl ?_ | refine T_loadBoxB Try.isAgg3 rfl rfl (by assumption) (by assumption) (by rfl) ?_)
  refine X_tail (by kernel_rfl) ?_
  have hB := hB.step hB.size hS
  have hE := hE.step hE.size hS
  clear hS
  repeat (first | refine T_nil0 ?_ | refine T_pick_false rfl rfl rfl ?_)
  refine E_cond_if rfl (fun h2 => ?_) (fun h2 => ?_)
  · repeat (first | refine E_seq ?_)
    skip
    refine E_region_held 5 w5_2.drew follows (by kernel_rfl) ?_
    have hdr : Below w5_2.heap.size w5_2 w5_2.drew := (Below.refl _ _).drew
    have hE := hE.step hE.size hdr
    have hB := hB.step hB.size hdr
    have hI := hI.later hdr
    have hI5 := hI5.later hdr
    clear hdr
    generalize w5_2.drew = w6_0 at *
    have hS := Below.refl w6_0.heap.size w6_0
    refine X_run 0 3 (by kernel_rfl) hS ?_
    repeat (first | refine T_nil3 ?_ | refine T_loadBoxAB aL sL rfl rfl (by assumption) (by assumption) (by rfl) ?_ | refine T_loadBoxAB aT sT rfl rfl (by assumption) (by assumption) (by rfl) ?_)
    refine X_one 3 (by kernel_rfl) ?_
    refine T_call rfl rfl (sCutReel_spec (x) u (p) _ hI (by omega)) (fun r w6_1 hr => ?_)
    obtain ⟨uu1, rfl, hh1, hb⟩ := hr
    have hS := hS.step hS.size hb
    have hI := hI.later hb
    have hI5 := hI5.later hb
    have hh1 := hh1.recs
    clear hb
    repeat (first | refine T_nil0 ?_)
    refine ⟨hS, ?_⟩
    refine X_one 4 (by kernel_rfl) ?_
    refine T_call rfl rfl (equalReel_same (cutF x p) (cutF (x) (p)) u5 uu1 _ (rfl) hI5 hh1 (by omega)) (fun r w6_2 hr => ?_)
    obtain ⟨rfl, hb⟩ := hr
    have hS := hS.step hS.size hb
    have hI := hI.later hb
    have hI5 := hI5.later hb
    have hh1 := hh1.later hb
    clear hb
    repeat (first | refine T_nil0 ?_)
    refine ⟨hS, ?_⟩
    refine X_tail (by kernel_rfl) ?_
    have hB := hB.step hB.size hS
    have hE := hE.step hE.size hS
    clear hS
    repeat (first | refine T_assign rfl rfl ?_ | refine T_nil0 ?_)
    repeat' (first | refine E_ret1 rfl rfl ?_)
    exact ⟨rfl, hB⟩
  have hoks : okR x ∧ okT x.w x.n p := by
    apply Decidable.byContradiction
    intro h
    apply h2
    unfold cutF
    rw [if_neg h]; rfl
  obtain ⟨hok, hpt⟩ := hoks
  have e : cutF x p = cutN x p := by unfold cutF; rw [if_pos ⟨hok, hpt⟩]
  have hokc := cutN_ok hok hpt
  have e0 : cutF x (wholeF x) = x := by unfold cutF; rw [if_pos ⟨hok, whole_ok hok⟩, cut_whole hok]
  have e3 : worstF (cutF x p) (wholeF (cutF x p)) = worstF x p := by
    rw [e]; unfold worstF; rw [if_pos ⟨hokc, whole_ok hokc⟩, if_pos ⟨hok, hpt⟩, cut_worst hpt]
  have hcw := hokc.1
  have hcn := hokc.2.1
  have hq : okT (cutN x p).w (cutN x p).n ⟨0, ((cutN x p).w + 1) / 2, (cutN x p).n / 2, (cutN x p).n⟩ := by
    unfold okT; dsimp only; omega
  have hmv := moved_ok hpt hq
  have e4 : cutF (cutF x p) ⟨0, ((cutN x p).w + 1) / 2, (cutN x p).n / 2, (cutN x p).n⟩ = cutF x (movedP ⟨0, ((cutN x p).w + 1) / 2, (cutN x p).n / 2, (cutN x p).n⟩ p) := by
    rw [e]; unfold cutF; rw [if_pos ⟨hokc, hq⟩, if_pos ⟨hok, hmv⟩, cut_cut hpt hq]
  have hle := cutF_len x (wholeF x)
  have hle2 := cutF_len (cutF x p) ⟨0, ((cutN x p).w + 1) / 2, (cutN x p).n / 2, (cutN x p).n⟩
  have hpb := hpt
  unfold okT at hpb
  have hx1 := hok.1
  have hx2 := hok.2.1
  rw [e] at hx5 hI5 hl5 e3 e4 hle2
  have hvq : okR (cutN x p) := hokc
  repeat (first | refine E_seq ?_ | refine E_region ?_ | refine T_add rfl rfl rfl (by omega) ?_ | refine E_skip ?_ | refine T_fieldBoxF (fun _ _ => by kernel_rfl) rfl rfl ?_ | refine T_loadBoxB Try.isAgg3 rfl rfl (by assumption) (by assumption) (by rfl) ?_)
  refine T_quo rfl rfl rfl (by omega) ?_
  repeat (first | refine T_fieldBoxF (fun _ _ => by kernel_rfl) rfl rfl ?_ | refine T_loadBoxB Try.isAgg3 rfl rfl (by assumption) (by assumption) (by rfl) ?_)
  refine T_quo rfl rfl rfl (by omega) ?_
  repeat (first | refine T_fieldBoxF (fun _ _ => by kernel_rfl) rfl rfl ?_ | refine T_loadBoxB Try.isAgg3 rfl rfl (by assumption) (by assumption) (by rfl) ?_)
  refine T_build rfl rfl (bT _ _ _ _) ?_
  refine T_new (us := recT.enc ⟨0, ((cutN x p).w + 1) / 2, (cutN x p).n / 2, (cutN x p).n⟩) zT sT rfl (fun _ => rfl) rfl rfl (recT.one _) (fun b6 w6 hn6 hx6 hb => ?_)
  have hB := hB.step hB.size hb
  have hE := hE.step hE.size hb
  have hI := hI.later hb
  have hI5 := hI5.later hb
  have hE6 := Below.refl w6.heap.size w6
  clear hb
  generalize hqq : (⟨0, ((cutN x p).w + 1) / 2, (cutN x p).n / 2, (cutN x p).n⟩ : Prt) = qq at *
  have hqb := hq
  unfold okT at hqb
  repeat (first | refine T_nil0 ?_ | refine E_seq ?_ | refine E_region ?_ | refine T_add rfl rfl rfl (by omega) ?_ | refine T_fieldBoxF (fun _ _ => by kernel_rfl) rfl rfl ?_ | refine T_loadBoxB Try.isAgg3 rfl rfl (by assumption) (by assumption) (by rfl) ?_)
  refine T_build rfl rfl (bT _ _ _ _) ?_
  refine T_new (us := recT.enc (movedP qq p)) zT sT rfl (fun _ => rfl) rfl rfl (recT.one _) (fun b7 w7 hn7 hx7 hb => ?_)
  have hB := hB.step hB.size hb
  have hI := hI.later hb
  have hI5 := hI5.later hb
  have hx3 := (hx3.later hE).later hb
  have hx4 := (hx4.later hE).later hb
  have hx5 := (hx5.later hE).later hb
  have hx6 := hx6.later hb
  clear hE hE6 hb
  have hE := Below.refl w7.heap.size w7
  repeat (first | refine T_nil0 ?_ | refine E_seq ?_)
  refine E_region_held 29 w7.drew follows (by kernel_rfl) ?_
  have hdr : Below w7.heap.size w7 w7.drew := (Below.refl _ _).drew
  have hE := hE.step hE.size hdr
  have hB := hB.step hB.size hdr
  have hI := hI.later hdr
  have hI5 := hI5.later hdr
  clear hdr
  generalize w7.drew = w9_0 at *
  have hS := Below.refl w9_0.heap.size w9_0
  refine X_run 0 1 (by kernel_rfl) hS ?_
  repeat (first | refine T_nil3 ?_ | refine T_loadBoxAB aL sL rfl rfl (by assumption) (by assumption) (by rfl) ?_)
  refine X_one 1 (by kernel_rfl) ?_
  refine T_call rfl rfl (ValidReel_spec (cutN x p) u5 _ hI5) (fun r w9_1 hr => ?_)
  obtain ⟨rfl, hb⟩ := hr
  have hS := hS.step hS.size hb
  have hI := hI.later hb
  have hI5 := hI5.later hb
  clear hb
  rw [decide_eq_true (show okR (cutN x p) from hvq)]
  repeat (first | refine T_nil0 ?_)
  refine ⟨hS, ?_⟩
  refine X_run 2 3 (by kernel_rfl) hS ?_
  repeat (first | refine T_move rfl rfl ?_ | refine T_nil3 ?_ | refine T_on rfl rfl ?_ | refine T_loadBoxAB aL sL rfl rfl (by assumption) (by assumption) (by rfl) ?_)
  refine X_run 7 2 (by kernel_rfl) hS ?_
  repeat (first | refine T_nil3 ?_ | refine T_on rfl rfl ?_ | refine T_loadBoxAB aL sL rfl rfl (by assumption) (by assumption) (by rfl) ?_ | refine T_loadBoxAB aT sT rfl rfl (by assumption) (by assumption) (by rfl) ?_)
  refine X_one 5 (by kernel_rfl) ?_
  refine T_on rfl rfl ?_
  refine T_call rfl rfl (whole_spec (cutN x p) u5 _) (fun r w9_2 hr => ?_)
  obtain ⟨rfl, hb⟩ := hr
  have hS := hS.step hS.size hb
  have hI := hI.later hb
  have hI5 := hI5.later hb
  clear hb
  repeat (first | refine T_nil0 ?_)
  refine ⟨hS, ?_⟩
  refine X_one 6 (by kernel_rfl) ?_
  refine T_on rfl rfl ?_
  refine T_call rfl rfl (WorstOf_spec (cutN x p) u5 (wholeF (cutN x p)) _ hI5) (fun r w9_3 hr => ?_)
  obtain ⟨rfl, hb⟩ := hr
  have hS := hS.step hS.size hb
  have hI := hI.later hb
  have hI5 := hI5.later hb
  clear hb
  repeat (first | refine T_nil0 ?_)
  refine ⟨hS, ?_⟩
  refine X_one 9 (by kernel_rfl) ?_
  refine T_on rfl rfl ?_
  refine T_call rfl rfl (WorstOf_spec (x) u (p) _ hI) (fun r w9_4 hr => ?_)
  obtain ⟨rfl, hb⟩ := hr
  have hS := hS.step hS.size hb
  have hI := hI.later hb
  have hI5 := hI5.later hb
  clear hb
  repeat (first | refine T_nil0 ?_)
  refine ⟨hS, ?_⟩
  refine X_run 10 5 (by kernel_rfl) hS ?_
  repeat (first | refine T_move rfl rfl ?_ | refine T_cmp rfl rfl rfl rfl ?_ | refine T_on rfl rfl ?_ | refine T_pick_true rfl rfl rfl ?_)
  rw [decide_eq_true (e3)]
  repeat (first | refine T_nil3 ?_ | refine T_on rfl rfl ?_ | refine T_loadBoxAB aL sL rfl rfl (by assumption) (by assumption) (by rfl) ?_)
  refine X_run 17 1 (by kernel_rfl) hS ?_
  repeat (first | refine T_nil3 ?_ | refine T_on rfl rfl ?_ | refine T_loadBoxAB aL sL rfl rfl (by assumption) (by assumption) (by rfl) ?_)
  refine X_one 15 (by kernel_rfl) ?_
  refine T_on rfl rfl ?_
  refine T_call rfl rfl (whole_spec (x) u _) (fun r w9_5 hr => ?_)
  obtain ⟨rfl, hb⟩ := hr
  have hS := hS.step hS.size hb
  have hI := hI.later hb
  have hI5 := hI5.later hb
  clear hb
  repeat (first | refine T_nil0 ?_)
  refine ⟨hS, ?_⟩
  refine X_one 16 (by kernel_rfl) ?_
  refine T_on rfl rfl ?_
  refine T_call rfl rfl (CutReel_spec (x) u (wholeF (x)) _ hI) (fun r w9_6 hr => ?_)
  obtain ⟨uu6, rfl, hh6, hb⟩ := hr
  have hS := hS.step hS.size hb
  have hI := hI.later hb
  have hI5 := hI5.later hb
  have hh6 := hh6.recs
  clear hb
  repeat (first | refine T_nil0 ?_)
  refine ⟨hS, ?_⟩
  refine X_one 18 (by kernel_rfl) ?_
  refine T_on rfl rfl ?_
  refine T_call rfl rfl (equalReel_same (cutF (x) (wholeF (x))) (x) uu6 u _ (e0) hh6 hI (by omega)) (fun r w9_7 hr => ?_)
  obtain ⟨rfl, hb⟩ := hr
  have hS := hS.step hS.size hb
  have hI := hI.later hb
  have hI5 := hI5.later hb
  have hh6 := hh6.later hb
  clear hb
  repeat (first | refine T_nil0 ?_)
  refine ⟨hS, ?_⟩
  refine X_run 19 4 (by kernel_rfl) hS ?_
  repeat (first | refine T_move rfl rfl ?_ | refine T_nil3 ?_ | refine T_on rfl rfl ?_ | refine T_pick_true rfl rfl rfl ?_ | refine T_loadBoxAB aL sL rfl rfl (by assumption) (by assumption) (by rfl) ?_ | refine T_loadBoxAB aT sT rfl rfl (by assumption) (by assumption) (by rfl) ?_)
  refine X_run 24 2 (by kernel_rfl) hS ?_
  repeat (first | refine T_nil3 ?_ | refine T_on rfl rfl ?_ | refine T_loadBoxAB aL sL rfl rfl (by assumption) (by assumption) (by rfl) ?_ | refine T_loadBoxAB aT sT rfl rfl (by assumption) (by assumption) (by rfl) ?_)
  refine X_one 23 (by kernel_rfl) ?_
  refine T_on rfl rfl ?_
  refine T_call rfl rfl (CutReel_spec (cutN x p) u5 (qq) _ hI5) (fun r w9_8 hr => ?_)
  obtain ⟨uu8, rfl, hh8, hb⟩ := hr
  have hS := hS.step hS.size hb
  have hI := hI.later hb
  have hI5 := hI5.later hb
  have hh6 := hh6.later hb
  have hh8 := hh8.recs
  clear hb
  repeat (first | refine T_nil0 ?_)
  refine ⟨hS, ?_⟩
  refine X_one 26 (by kernel_rfl) ?_
  refine T_on rfl rfl ?_
  refine T_call rfl rfl (CutReel_spec (x) u (movedP qq p) _ hI) (fun r w9_9 hr => ?_)
  obtain ⟨uu9, rfl, hh9, hb⟩ := hr
  have hS := hS.step hS.size hb
  have hI := hI.later hb
  have hI5 := hI5.later hb
  have hh6 := hh6.later hb
  have hh8 := hh8.later hb
  have hh9 := hh9.recs
  clear hb
  repeat (first | refine T_nil0 ?_)
  refine ⟨hS, ?_⟩
  refine X_one 27 (by kernel_rfl) ?_
  refine T_on rfl rfl ?_
  refine T_call rfl rfl (equalReel_same (cutF (cutN x p) (qq)) (cutF (x) (movedP qq p)) uu8 uu9 _ (e4) hh8 hh9 (by omega)) (fun r w9_10 hr => ?_)
  obtain ⟨rfl, hb⟩ := hr
  have hS := hS.step hS.size hb
  have hI := hI.later hb
  have hI5 := hI5.later hb
  have hh6 := hh6.later hb
  have hh8 := hh8.later hb
  have hh9 := hh9.later hb
  clear hb
  repeat (first | refine T_nil0 ?_)
  refine ⟨hS, ?_⟩
  refine X_run 28 1 (by kernel_rfl) hS ?_
  repeat (first | refine T_nil3 ?_ | refine T_pick_true rfl rfl rfl ?_)
  refine X_tail (by kernel_rfl) ?_
  have hB := hB.step hB.size hS
  have hE := hE.step hE.size hS
  clear hS
  repeat (first | refine T_assign rfl rfl ?_ | refine T_nil0 ?_)
  repeat' (first | refine E_ret1 rfl rfl ?_)
  exact ⟨rfl, hB⟩
end Go.Proofs.Ytehmphhdmpnlfaa
