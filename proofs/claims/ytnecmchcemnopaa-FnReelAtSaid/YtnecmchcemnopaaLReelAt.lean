/-
  The walk of laws.FnReelAt: it returns true, and writes nothing that was there. Conditions: the arguments lie in memory as the contract says.
-/
import Derived.Test.YtnecmchcemnopaaC7b
import Derived.Test.YtnecmchcemnopaaG2f
import Derived.Test.YtnecmchcemnopaaRowY
namespace Go.Proofs.Ytnecmchcemnopaa
open Go Go.PR Go.RowKit attribute [local irreducible] T E Ints Sl Bools OwnI OwnB OwnR Recs Box Ret
attribute [local irreducible] Bytes X

set_option maxHeartbeats 1000000 in
theorem FnReelAt_walk (cv : Value) (cs : List Int) (w : World) (hY : Bytes w.heap cv cs ∧ ∀ c ∈ cs, 0 ≤ c ∧ c ≤ 255) :
    Ret Try.prog 5 #[cv] w (fun r w' => r = .bool true ∧ Below w.heap.size w w') := by
  obtain ⟨hY, hby⟩ := hY
  refine Ret_of (args := [_]) Try.call5 Try.func5 rfl _ Try.ntmps5 rfl ?_
  repeat (first | refine T_move rfl rfl ?_ | refine T_assign rfl rfl ?_ | refine T_nil0 ?_ | refine E_seq ?_ | refine E_region ?_)
  refine T_len tyY rfl rfl hY.len ?_
  repeat (first | refine T_nil0 ?_ | refine T_cmp rfl rfl rfl rfl ?_)
  refine E_cond_if rfl (fun hp => ?_) (fun hp => ?_)
  · repeat' (first | refine T_assign rfl rfl ?_ | refine T_nil0 ?_ | refine E_seq ?_ | refine E_region ?_ | refine E_ret1 rfl rfl ?_)
    exact ⟨rfl, Below.refl _ _⟩
  repeat (first | refine T_move rfl rfl ?_ | refine E_seq ?_ | refine E_region ?_ | refine E_skip ?_)
  refine T_call rfl rfl (DrawReelAt_spec cv cs w hY hby) (fun r w1 hr => ?_)
  obtain ⟨x, u, ps, v, i, a, b, rfl, hO, hV, hdl, hpl, hB⟩ := hr
  repeat (first | refine T_move rfl rfl ?_ | refine T_extract rfl rfl rfl ?_)
  refine T_new (us := relC x u) zL sL rfl (fun _ => rfl) rfl rfl (relC_one hO.recs.rlen) (fun b3 w2 hn3 hx3 hb => ?_)
  have hI := (hO.later hb).recs
  have hJ := (hV.later hb).recs
  have hB := hB.step hB.size hb
  have hE := Below.refl w2.heap.size w2
  clear hO hV hb
  repeat (first | refine T_move rfl rfl ?_ | refine T_assign rfl rfl ?_ | refine T_nil0 ?_ | refine E_seq ?_ | refine E_region ?_ | refine T_loadBoxAB aL sL rfl rfl (by assumption) (by assumption) (by rfl) ?_)
  refine T_call rfl rfl (ReelAt_spec x u ps v i a b w2 hI hJ) (fun r w3 hr => ?_)
  obtain ⟨rfl, hb⟩ := hr
  have hB := hB.step hB.size hb
  have hE := hE.step hE.size hb
  have hI := hI.later hb
  have hJ := hJ.later hb
  clear hb
  repeat (first | refine T_move rfl rfl ?_ | refine T_assign rfl rfl ?_ | refine T_nil0 ?_ | refine E_seq ?_ | refine E_region ?_ | refine T_extract rfl rfl rfl ?_ | refine T_loadBoxAB aL sL rfl rfl (by assumption) (by assumption) (by rfl) ?_)
  refine T_call rfl rfl (sReelAt_spec x u ps v i a b w3 hI hJ (by omega) (by omega)) (fun r w4 hr => ?_)
  obtain ⟨rfl, hb⟩ := hr
  have hB := hB.step hB.size hb
  have hE := hE.step hE.size hb
  have hI := hI.later hb
  have hJ := hJ.later hb
  clear hb
  repeat (first | refine T_move rfl rfl ?_ | refine T_assign rfl rfl ?_ | refine T_nil0 ?_ | refine E_seq ?_ | refine E_region ?_ | refine T_cmp rfl rfl rfl rfl ?_ | refine T_extract rfl rfl rfl ?_)
  refine T_guard rfl rfl (fun h1 => ?_) (fun h1 => ?_)
  · exact absurd rfl h1
  repeat (first | refine T_move rfl rfl ?_ | refine T_cmp rfl rfl rfl rfl ?_ | refine T_on rfl rfl ?_ | refine T_pick_false rfl rfl rfl ?_)
  refine T_guard rfl rfl (fun h1 => ?_) (fun h1 => ?_)
  · exact absurd rfl h1
  repeat (first | refine T_move rfl rfl ?_ | refine T_nil0 ?_ | refine T_cmp rfl rfl rfl rfl ?_ | refine T_on rfl rfl ?_ | refine T_pick_false rfl rfl rfl ?_)
  refine E_cond_if rfl (fun h2 => ?_) (fun h2 => ?_)
  · repeat (first | refine T_move rfl rfl ?_ | refine E_seq ?_ | refine E_region ?_ | refine T_cmp rfl rfl rfl rfl ?_)
    refine T_guard rfl rfl (fun h1 => ?_) (fun h1 => ?_)
    case refine_2 => exact absurd rfl h1
    repeat (first | refine T_move rfl rfl ?_ | refine T_assign rfl rfl ?_ | refine T_nil0 ?_ | refine T_cmp rfl rfl rfl rfl ?_ | refine T_on rfl rfl ?_ | refine T_pick_true rfl rfl rfl ?_)
    repeat' (first | refine E_ret1 rfl rfl ?_)
    exact ⟨by simp, hB⟩
  have hk : okAt x ps i a b := by
    apply Decidable.byContradiction
    intro hn
    apply h2
    unfold reelF
    rw [if_neg hn]
    decide
  have e := roll_reel hk
  repeat (first | refine T_move rfl rfl ?_ | refine E_seq ?_ | refine E_region ?_ | refine E_skip ?_ | refine T_loadBoxAB aL sL rfl rfl (by assumption) (by assumption) (by rfl) ?_)
  refine T_call rfl rfl (RollAt_spec x u ps v (reelF x ps i a b).1 (reelF x ps i a b).2 w4 hI hJ) (fun r w5 hr => ?_)
  obtain ⟨rfl, hb⟩ := hr
  have hB := hB.step hB.size hb
  have hE := hE.step hE.size hb
  have hI := hI.later hb
  have hJ := hJ.later hb
  clear hb
  rw [e]
  repeat (first | refine T_move rfl rfl ?_ | refine T_assign rfl rfl ?_ | refine T_nil0 ?_ | refine E_seq ?_ | refine E_region ?_ | refine T_cmp rfl rfl rfl rfl ?_ | refine T_extract rfl rfl rfl ?_)
  refine T_guard rfl rfl (fun h1 => ?_) (fun h1 => ?_)
  case refine_2 => exact absurd rfl h1
  repeat (first | refine T_move rfl rfl ?_ | refine T_cmp rfl rfl rfl rfl ?_ | refine T_on rfl rfl ?_ | refine T_pick_true rfl rfl rfl ?_)
  refine T_guard rfl rfl (fun h1 => ?_) (fun h1 => ?_)
  case refine_2 => exact absurd rfl h1
  repeat (first | refine T_move rfl rfl ?_ | refine T_assign rfl rfl ?_ | refine T_nil0 ?_ | refine T_cmp rfl rfl rfl rfl ?_ | refine T_on rfl rfl ?_ | refine T_pick_true rfl rfl rfl ?_)
  repeat' (first | refine E_ret1 rfl rfl ?_)
  exact ⟨by simp, hB⟩
end Go.Proofs.Ytnecmchcemnopaa
