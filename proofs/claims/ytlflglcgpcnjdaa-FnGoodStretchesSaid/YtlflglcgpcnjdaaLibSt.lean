/-
  Equality of stretches that are the same. Conditions: the arguments lie in memory as the contract says.
-/
import Derived.Test.YtlflglcgpcnjdaaLibR3
namespace Go.PR
instance : DecidableEq Str := fun a b => decidable_of_iff (a.f = b.f ∧ a.t = b.t) ⟨fun h => Str.ext' h.1 h.2, fun h => by subst h; simp⟩
end Go.PR
namespace Go.Proofs.Ytlflglcgpcnjdaa
open Go Go.PR Go.RowKit attribute [local irreducible] T E Ints Sl Bools OwnI OwnB OwnR Recs Box Ret
theorem eqSt : EqTy Try.prog 32 recS := by
  refine ⟨by kernel_rfl, ?_⟩
  rintro ⟨a1, a2⟩ ⟨b1, b2⟩ w
  have hS : Try.prog.underlying 32 = some (.struct (Try.prog.fieldsOf 32)) := by kernel_rfl
  rw [show (10000 : Nat) = 9999 + 1 from rfl, run_equalIn_struct w 9999 32 _ _ hS (by kernel_rfl)]
  have hI : ∀ x y : Int, (Op.equalIn 9999 3 (.int .i64 x) (.int .i64 y)).run Try.prog w = .ok (x == y) w := fun x y => run_equalIn_int w 9998 3 .i64 .i64 x y Try.underlying3
  simp only [Program.fieldsOf, Try.underlying32, recS]
  simp [Op.eqFields, part, Try.isAgg3, hI]
  by_cases h1 : a1 = b1 <;> by_cases h2 : a2 = b2 <;> simp [h1, h2]
theorem equalStretches_same (xs ys : List Str) (v u : Value) (w : World) (e : xs = ys) (hI : Recs recS w.heap v xs) (hJ : Recs recS w.heap u ys) (hl : xs.length ≤ 1048576) :
    Ret Try.prog 22 #[v, u] w (fun r w' => r = .bool true ∧ Below w.heap.size w w') := by
  subst e
  refine Ret_of (args := [_, _]) Try.call22 Try.func22 rfl _ Try.ntmps22 rfl ?_
  repeat (first | refine T_move rfl rfl ?_ | refine T_assign rfl rfl ?_ | refine T_nil0 ?_ | refine E_seq ?_ | refine E_region ?_ | refine T_cmp rfl rfl rfl rfl ?_ | refine T_len tySt rfl rfl (Recs.rlen (r := recS) (by assumption)) ?_)
  refine E_cond_if rfl (fun h => absurd rfl h) (fun _ => ?_)
  have hC := Below.refl w.heap.size w
  repeat (first | refine T_assign rfl rfl ?_ | refine T_nil0 ?_ | refine E_seq ?_ | refine E_region ?_ | refine E_skip ?_)
  refine E_loop (σ := Nat) (fun k => [(0, v), (1, u), (5, .int .i64 k)]) (fun k w' => k ≤ xs.length ∧ Below w.heap.size w w') (fun k => xs.length - k) 0 ⟨by omega, hC⟩ ⟨rfl, rfl, rfl, trivial⟩ ?_
  clear hC
  rintro k w3 ⟨hk, hC⟩ IH
  repeat (first | refine T_move rfl rfl ?_ | refine T_nil0 ?_ | refine E_seq ?_ | refine E_region ?_ | refine T_cmp rfl rfl rfl rfl ?_ | refine T_len tySt rfl rfl (Recs.rlen (r := recS) (by assumption)) ?_)
  refine E_cond_if rfl (fun hp => ?_) (fun hp => ?_)
  case refine_2 =>
    repeat' (first | refine T_assign rfl rfl ?_ | refine T_nil0 ?_ | refine E_seq ?_ | refine E_region ?_ | refine E_exit rfl ?_ | refine E_ret1 rfl rfl ?_)
    exact ⟨rfl, hC⟩
  have hkl : k < xs.length := by omega
  repeat (first | refine E_seq ?_ | refine E_skip ?_ | refine E_blockS ?_)
  refine E_region_still follows (by kernel_rfl) ?_
  repeat (first | refine T_move rfl rfl ?_ | refine T_indexSt tySt rfl rfl rfl (by assumption) (by omega) ?_ | refine T_loadSA' aSt sSt rfl rfl (by assumption) (by assumption) (by omega) ?_)
  refine T_neqR (r := recS) eqSt rfl rfl rfl ?_
  have hC := hC.drew
  repeat (first | refine T_nil1 ?_)
  refine E_cond_if rfl (fun h => absurd rfl h) (fun _ => ?_)
  repeat (first | refine T_move rfl rfl ?_ | refine T_assign rfl rfl ?_ | refine T_nil0 ?_ | refine E_region ?_ | refine T_add rfl rfl rfl (by omega) ?_ | refine E_skip ?_ | refine E_inBlock ?_)
  exact IH (k + 1) _ _ ⟨by omega, hC⟩ (by omega) ⟨rfl, rfl, rfl, trivial⟩
end Go.Proofs.Ytlflglcgpcnjdaa
