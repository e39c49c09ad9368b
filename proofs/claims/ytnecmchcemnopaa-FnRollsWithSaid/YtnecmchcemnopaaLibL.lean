/-
  Contracts of the laws' own helpers: isIn, ascends. Conditions: the arguments lie in memory as the contract says.
-/
import Derived.Test.YtnecmchcemnopaaLib
namespace Go.PR
/-- each number is more than the one before it -/
def ascU (xs : List Int) : Prop := ∀ j, j < xs.length - 1 → xs.getD j 0 < xs.getD (j + 1) 0
instance (xs : List Int) : Decidable (ascU xs) := by unfold ascU; infer_instance
end Go.PR
namespace Go.Proofs.Ytnecmchcemnopaa
open Go Go.PR Go.RowKit attribute [local irreducible] T E Ints Sl Bools OwnI OwnB OwnR Recs Box Ret

theorem lisIn_spec (v : Value) (xs : List Int) (a : Int) (w : World) (hI : Ints w.heap v xs) (hl : xs.length ≤ 1000000000) :
    Ret Try.prog 21 #[v, .int .i64 a] w (fun u w' => u = .bool (decide (a ∈ xs)) ∧ w = w') := by
  refine Ret_of (args := [_, _]) Try.call21 Try.func21 rfl _ Try.ntmps21 rfl ?_
  repeat (first | refine T_assign rfl rfl ?_ | refine T_nil0 ?_ | refine E_seq ?_ | refine E_region ?_)
  refine E_loop (σ := Nat) (fun k => [(0, v), (1, .int .i64 a), (5, .int .i64 k)]) (fun k w' => w = w' ∧ k ≤ xs.length ∧ ∀ j, j < k → xs.getD j 0 ≠ a) (fun k => xs.length - k) 0 ⟨rfl, by omega, by omega⟩ ⟨rfl, rfl, rfl, trivial⟩ ?_
  rintro k w' ⟨rfl, hk, hall⟩ IH
  repeat (first | refine T_move rfl rfl ?_ | refine T_nil0 ?_ | refine E_seq ?_ | refine E_region ?_ | refine T_cmp rfl rfl rfl rfl ?_ | refine T_len tyI rfl rfl (Ints.len (by assumption)) ?_)
  refine E_cond_if rfl (fun hp => ?_) (fun hp => ?_)
  · repeat (first | refine T_move rfl rfl ?_ | refine T_nil0 ?_ | refine E_seq ?_ | refine E_region ?_ | refine T_cmp rfl rfl rfl rfl ?_ | refine E_skip ?_ | refine E_blockS ?_ | refine T_indexN tyI rfl rfl rfl (by assumption) (by omega) ?_ | refine T_loadI Try.isAgg3 rfl rfl (by assumption) (by omega) ?_)
    refine E_cond_if rfl (fun hq => ?_) (fun hq => ?_)
    · repeat' (first | refine T_assign rfl rfl ?_ | refine T_nil0 ?_ | refine E_seq ?_ | refine E_region ?_ | refine E_ret1 rfl rfl ?_)
      exact ⟨vb_t (by rw [← hq]; exact getD_mem (by omega)), rfl⟩
    · repeat (first | refine T_move rfl rfl ?_ | refine T_assign rfl rfl ?_ | refine T_nil0 ?_ | refine E_region ?_ | refine T_add rfl rfl rfl (by omega) ?_ | refine E_skip ?_ | refine E_inBlock ?_)
      refine IH (k + 1) w _ ⟨rfl, by omega, ?_⟩ (by omega) ⟨rfl, rfl, rfl, trivial⟩
      intro j hj
      by_cases e : j = k
      · subst e; exact hq
      · exact hall j (by omega)
  · repeat' (first | refine T_assign rfl rfl ?_ | refine T_nil0 ?_ | refine E_seq ?_ | refine E_region ?_ | refine E_exit rfl ?_ | refine E_ret1 rfl rfl ?_)
    exact ⟨vb_f (fun h => all_of_getD (p := fun x => x ≠ a) (fun j hj => hall j (by omega)) a h rfl), rfl⟩

theorem lascends_spec (v : Value) (xs : List Int) (w : World) (hI : Ints w.heap v xs) (hl : xs.length ≤ 1000000000) :
    Ret Try.prog 22 #[v] w (fun u w' => u = .bool (decide (ascU xs)) ∧ Below w.heap.size w w') := by
  refine Ret_of (args := [_]) Try.call22 Try.func22 rfl _ Try.ntmps22 rfl ?_
  repeat (first | refine T_assign rfl rfl ?_ | refine T_nil0 ?_ | refine E_seq ?_ | refine E_region ?_)
  refine E_loop (σ := Nat) (fun k => [(0, v), (3, .int .i64 k)]) (fun k w' => Below w.heap.size w w' ∧ 1 ≤ k ∧ (k ≤ xs.length ∨ k = 1) ∧ ∀ j, j + 1 < k → xs.getD j 0 < xs.getD (j + 1) 0) (fun k => xs.length - k) 1 ⟨Below.refl _ _, by omega, .inr rfl, by omega⟩ ⟨rfl, rfl, trivial⟩ ?_
  rintro k w1 ⟨hB, hk1, hk, hall⟩ IH
  have hI := hI.later hB
  repeat (first | refine T_move rfl rfl ?_ | refine T_nil0 ?_ | refine E_seq ?_ | refine E_region ?_ | refine T_cmp rfl rfl rfl rfl ?_ | refine T_len tyI rfl rfl (Ints.len (by assumption)) ?_)
  refine E_cond_if rfl (fun hp => ?_) (fun hp => ?_)
  · have e1 : ((k : Int) - 1).toNat = k - 1 := by omega
    repeat (first | refine E_seq ?_ | refine E_skip ?_ | refine E_blockS ?_)
    refine E_region_still follows (by kernel_rfl) ?_
    repeat (first | refine T_move rfl rfl ?_ | refine T_nil1 ?_ | refine T_cmp rfl rfl rfl rfl ?_ | refine T_sub rfl rfl rfl (by omega) ?_ | refine T_indexN tyI rfl rfl rfl (by assumption) (by omega) ?_ | refine T_indexI tyI rfl rfl rfl (by assumption) (by omega) ?_ | refine T_loadI Try.isAgg3 rfl rfl (by assumption) (by omega) ?_)
    refine E_cond_if rfl (fun hq => ?_) (fun hq => ?_)
    · repeat' (first | refine T_assign rfl rfl ?_ | refine T_nil0 ?_ | refine E_seq ?_ | refine E_region ?_ | refine E_ret1 rfl rfl ?_)
      rw [e1] at hq
      exact ⟨vb_f (fun h => by have := h (k - 1) (by omega); rw [show k - 1 + 1 = k by omega] at this; omega), hB.drew⟩
    · repeat (first | refine T_move rfl rfl ?_ | refine T_assign rfl rfl ?_ | refine T_nil0 ?_ | refine E_region ?_ | refine T_add rfl rfl rfl (by omega) ?_ | refine E_skip ?_ | refine E_inBlock ?_)
      rw [e1] at hq
      refine IH (k + 1) _ _ ⟨hB.drew, by omega, .inl (by omega), ?_⟩ (by omega) ⟨rfl, rfl, trivial⟩
      intro j hj
      by_cases e : j + 1 = k
      · subst e; simp only [Nat.add_sub_cancel] at hq; omega
      · exact hall j (by omega)
  · repeat' (first | refine T_assign rfl rfl ?_ | refine T_nil0 ?_ | refine E_seq ?_ | refine E_region ?_ | refine E_exit rfl ?_ | refine E_ret1 rfl rfl ?_)
    exact ⟨vb_t (fun j hj => hall j (by omega)), hB⟩
end Go.Proofs.Ytnecmchcemnopaa
