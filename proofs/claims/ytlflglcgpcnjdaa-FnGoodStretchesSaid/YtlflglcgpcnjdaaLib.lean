/-
  Contracts of the small functions on lists of numbers: copies, comparisons, marks, sums. Conditions: the arguments lie in memory as the contract says.
-/
import Derived.Test.YtlflglcgpcnjdaaTy
import Derived.Test.YtlflglcgpcnjdaaPlain
namespace Go.Proofs.Ytlflglcgpcnjdaa
open Go Go.PR Go.RowKit attribute [local irreducible] T E Ints Sl Bools OwnI OwnB OwnR Recs Box Ret










theorem inRange_spec (n low high : Int) (w : World) :
    Ret Try.prog 41 #[.int .i64 n, .int .i64 low, .int .i64 high] w (fun v w' => v = .bool (decide (low ≤ n ∧ n ≤ high)) ∧ w = w') := by
  refine Ret_of (args := [_, _, _]) Try.call41 Try.func41 rfl _ Try.ntmps41 rfl ?_
  repeat' (first | (first | refine T_move rfl rfl ?_ | refine T_assign rfl rfl ?_ | refine T_nil0 ?_ | refine T_nil1 ?_ | refine T_nil3 ?_ | refine T_nil4 ?_ | refine E_seq ?_ | refine E_region ?_ | refine T_cmp rfl rfl rfl rfl ?_ | refine T_on rfl rfl ?_ | refine T_off rfl rfl rfl ?_ | refine T_offU rfl rfl rfl ?_ | refine T_add rfl rfl rfl (by omega) ?_ | refine T_sub rfl rfl rfl (by omega) ?_ | refine T_pick_true rfl rfl rfl ?_ | refine T_pick_false rfl rfl rfl ?_ | refine E_cond_true rfl ?_ | refine E_cond_false rfl ?_ | refine E_skip ?_ | refine E_blockS ?_ | refine E_blockR ?_ | refine E_blockC ?_ | refine E_blockB ?_ | refine E_inBlock ?_ | refine E_exit rfl ?_ | refine T_not rfl rfl ?_ | refine T_notB rfl rfl ?_ | refine T_max rfl rfl rfl ?_ | refine T_min rfl rfl rfl ?_ | refine T_extract rfl rfl rfl ?_) | (first | refine T_guard rfl rfl (fun hp => ?_) (fun hp => ?_) | refine T_guardB rfl rfl (fun hp => ?_) (fun hp => ?_) | refine E_cond_if rfl (fun hp => ?_) (fun hp => ?_) | refine E_cond_bool rfl (fun hp => ?_) (fun hp => ?_)) | (first | refine E_ret1 rfl rfl ?_ | refine E_ret2 rfl rfl rfl ?_ | refine E_ret3 rfl rfl rfl rfl ?_))
  · exact ⟨vb_iff (by omega), rfl⟩
  · exact ⟨vb_f (by omega), rfl⟩
end Go.Proofs.Ytlflglcgpcnjdaa
