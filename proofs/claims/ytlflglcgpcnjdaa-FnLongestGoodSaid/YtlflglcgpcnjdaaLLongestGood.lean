/-
  The walk of laws.FnLongestGood: it returns true, and writes nothing that was there. Conditions: the arguments lie in memory as the contract says.
-/
import Derived.Test.YtlflglcgpcnjdaaC2e
import Derived.Test.YtlflglcgpcnjdaaG2d
import Derived.Test.YtlflglcgpcnjdaaRowY
namespace Go.Proofs.Ytlflglcgpcnjdaa
open Go Go.PR Go.RowKit attribute [local irreducible] T E Ints Sl Bools OwnI OwnB OwnR Recs Box Ret
attribute [local irreducible] Bytes X

set_option maxHeartbeats 1000000 in
theorem FnLongestGood_walk (cv : Value) (cs : List Int) (w : World) (hY : Bytes w.heap cv cs ∧ ∀ c ∈ cs, 0 ≤ c ∧ c ≤ 255) :
    Ret Try.prog 5 #[cv] w (fun r w' => r = .bool true ∧ Below w.heap.size w w') := by
  obtain ⟨hY, hby⟩ := hY
  refine Ret_of (args := [_]) Try.call5 Try.func5 rfl _ Try.ntmps5 rfl ?_
  repeat (first | refine T_move rfl rfl ?_ | refine T_assign rfl rfl ?_ | refine T_nil0 ?_ | refine E_seq ?_ | refine E_region ?_)
  refine T_len tyY rfl rfl hY.len ?_
  repeat (first | refine T_nil0 ?_ | refine T_cmp rfl rfl rfl rfl ?_)
  refine E_cond_if rfl (fun hp => ?_) (fun hp => ?_)
  · repeat' (first | refine T_assign rfl rfl ?_ | refine T_nil0 ?_ | refine E_seq ?_ | refine E_region ?_ | refine E_ret1 rfl rfl ?_)
    exact ⟨rfl, Below.refl _ _⟩
  repeat (first | refine T_move rfl rfl ?_ | refine E_seq ?_ | refine E_region ?_ | refine E_skip ?_)
  refine T_call rfl rfl (DrawLongestGood_spec cv cs w hY hby) (fun r w1 hr => ?_)
  obtain ⟨x, u, l, h, m, rfl, hO, hdl, hB⟩ := hr
  repeat (first | refine T_move rfl rfl ?_ | refine T_extract rfl rfl rfl ?_)
  refine T_new (us := relC x u) zL sL rfl (fun _ => rfl) rfl rfl (relC_one hO.recs.rlen) (fun b3 w2 hn3 hx3 hb => ?_)
  have hI := (hO.later hb).recs
  have hB := hB.step hB.size hb
  have hE := Below.refl w2.heap.size w2
  clear hO hb
  repeat (first | refine T_move rfl rfl ?_ | refine T_assign rfl rfl ?_ | refine T_nil0 ?_ | refine E_seq ?_ | refine E_region ?_ | refine T_loadBoxAB aL sL rfl rfl (by assumption) (by assumption) (by rfl) ?_)
  refine T_call rfl rfl (LongestGood_spec x u l h m w2 hI) (fun r w3 hr => ?_)
  obtain ⟨rfl, hb⟩ := hr
  have hB := hB.step hB.size hb
  have hE := hE.step hE.size hb
  have hI := hI.later hb
  clear hb
  repeat (first | refine T_move rfl rfl ?_ | refine T_assign rfl rfl ?_ | refine T_nil0 ?_ | refine E_seq ?_ | refine E_region ?_ | refine T_loadBoxAB aL sL rfl rfl (by assumption) (by assumption) (by rfl) ?_)
  refine T_call rfl rfl (sLongestGood_spec x u l h m w3 hI (by omega)) (fun r w4 hr => ?_)
  obtain ⟨rfl, hb⟩ := hr
  have hB := hB.step hB.size hb
  have hE := hE.step hE.size hb
  have hI := hI.later hb
  clear hb
  repeat (first | refine T_move rfl rfl ?_ | refine T_cmp rfl rfl rfl rfl ?_)
  refine T_guard rfl rfl (fun h1 => ?_) (fun h1 => ?_)
  · exact absurd rfl h1
  repeat (first | refine T_move rfl rfl ?_ | refine T_nil0 ?_ | refine T_cmp rfl rfl rfl rfl ?_ | refine T_on rfl rfl ?_ | refine T_pick_false rfl rfl rfl ?_)
  refine E_cond_if rfl (fun h2 => ?_) (fun h2 => ?_)
  · repeat (first | refine T_move rfl rfl ?_ | refine E_seq ?_ | refine E_region ?_ | refine T_loadBoxAB aL sL rfl rfl (by assumption) (by assumption) (by rfl) ?_)
    refine T_call rfl rfl (sLongestGood_spec x u l h m w4 hI (by omega)) (fun r w5 hr => ?_)
    obtain ⟨rfl, hb⟩ := hr
    repeat' (first | refine T_assign rfl rfl ?_ | refine T_nil0 ?_ | refine T_cmp rfl rfl rfl rfl ?_ | refine E_ret1 rfl rfl ?_)
    exact ⟨by simp, hB.step hB.size hb⟩
  have hok : okL x l h := by
    apply Decidable.byContradiction
    intro hn
    apply h2
    unfold longF
    rw [if_neg hn]
    decide
  obtain ⟨hokr, hl0, hlh, hhw⟩ := hok
  have hw1 := hokr.1
  have hmid : okL x l ((l + h + 1) / 2) := ⟨hokr, hl0, by omega, by omega⟩
  have e0 : longF x l h m = longN x l h m := by unfold longF; rw [if_pos ⟨hokr, hl0, hlh, hhw⟩]
  have e1 : longF x l h m ≤ longF x l ((l + h + 1) / 2) m := by
    rw [e0]; unfold longF; rw [if_pos hmid]
    exact long_fewer (Int.le_refl _) (by omega)
  have e2 : longF x l h 9 = x.n := by unfold longF; rw [if_pos ⟨hokr, hl0, hlh, hhw⟩, long_nine hokr]
  have e3 : longF x l h m ≤ x.n := by rw [e0]; exact (longN_bound hokr l h m).2
  repeat (first | refine T_move rfl rfl ?_ | refine E_seq ?_ | refine E_region ?_ | refine T_add rfl rfl rfl (by omega) ?_ | refine E_skip ?_)
  refine T_quo rfl rfl rfl (by omega) ?_
  repeat (first | refine T_assign rfl rfl ?_ | refine T_nil0 ?_ | refine E_seq ?_)
  refine E_region_held 22 w4.drew follows (by kernel_rfl) ?_
  have hdr : Below w4.heap.size w4 w4.drew := (Below.refl _ _).drew
  have hE := hE.step hE.size hdr
  have hB := hB.step hB.size hdr
  have hI := hI.later hdr
  clear hdr
  generalize w4.drew = w8_0 at *
  have hS := Below.refl w8_0.heap.size w8_0
  refine X_run 0 4 (by kernel_rfl) hS ?_
  repeat (first | refine T_move rfl rfl ?_ | refine T_nil3 ?_ | refine T_loadBoxAB aL sL rfl rfl (by assumption) (by assumption) (by rfl) ?_)
  refine X_run 5 1 (by kernel_rfl) hS ?_
  repeat (first | refine T_move rfl rfl ?_ | refine T_nil3 ?_)
  refine X_one 4 (by kernel_rfl) ?_
  refine T_call rfl rfl (LongestGood_spec (x) u (l) ((l + h + 1) / 2) (m) _ hI) (fun r w8_1 hr => ?_)
  obtain ⟨rfl, hb⟩ := hr
  have hS := hS.step hS.size hb
  have hI := hI.later hb
  clear hb
  repeat (first | refine T_nil0 ?_)
  refine ⟨hS, ?_⟩
  refine X_run 6 5 (by kernel_rfl) hS ?_
  repeat (first | refine T_move rfl rfl ?_ | refine T_cmp rfl rfl rfl rfl ?_)
  rw [decide_eq_true (e1)]
  repeat (first | refine T_move rfl rfl ?_ | refine T_nil3 ?_ | refine T_on rfl rfl ?_ | refine T_loadBoxAB aL sL rfl rfl (by assumption) (by assumption) (by rfl) ?_)
  refine X_run 12 2 (by kernel_rfl) hS ?_
  repeat (first | refine T_nil3 ?_ | refine T_on rfl rfl ?_ | refine T_fieldBoxF (fun _ _ => by kernel_rfl) rfl rfl ?_ | refine T_loadBoxB Try.isAgg3 rfl rfl (by assumption) (by assumption) (by rfl) ?_)
  refine X_one 11 (by kernel_rfl) ?_
  refine T_on rfl rfl ?_
  refine T_call rfl rfl (LongestGood_spec (x) u (l) (h) (9) _ hI) (fun r w8_2 hr => ?_)
  obtain ⟨rfl, hb⟩ := hr
  have hS := hS.step hS.size hb
  have hI := hI.later hb
  clear hb
  repeat (first | refine T_nil0 ?_)
  refine ⟨hS, ?_⟩
  refine X_run 14 8 (by kernel_rfl) hS ?_
  repeat (first | refine T_move rfl rfl ?_ | refine T_cmp rfl rfl rfl rfl ?_ | refine T_on rfl rfl ?_ | refine T_pick_true rfl rfl rfl ?_)
  rw [decide_eq_true (e2)]
  repeat (first | refine T_move rfl rfl ?_ | refine T_nil3 ?_ | refine T_cmp rfl rfl rfl rfl ?_ | refine T_on rfl rfl ?_ | refine T_pick_true rfl rfl rfl ?_ | refine T_fieldBoxF (fun _ _ => by kernel_rfl) rfl rfl ?_ | refine T_loadBoxB Try.isAgg3 rfl rfl (by assumption) (by assumption) (by rfl) ?_)
  rw [decide_eq_true (e3)]
  skip
  refine X_tail (by kernel_rfl) ?_
  have hB := hB.step hB.size hS
  have hE := hE.step hE.size hS
  clear hS
  repeat (first | refine T_assign rfl rfl ?_ | refine T_nil0 ?_)
  repeat' (first | refine E_ret1 rfl rfl ?_)
  exact ⟨rfl, hB⟩
end Go.Proofs.Ytlflglcgpcnjdaa
