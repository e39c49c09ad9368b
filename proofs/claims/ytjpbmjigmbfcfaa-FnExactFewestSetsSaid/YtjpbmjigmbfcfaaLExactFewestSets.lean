/-
  The walk of laws.FnExactFewestSets: it returns true, and writes nothing that was there. Conditions: the arguments lie in memory as the contract says.
-/
import Derived.Test.YtjpbmjigmbfcfaaC3X
import Derived.Test.YtjpbmjigmbfcfaaC3Z
namespace Go.Proofs.Ytjpbmjigmbfcfaa
open Go Go.PR Go.RowKit attribute [local irreducible] T E Ints Sl Bools OwnI OwnB OwnR Recs Box Ret

theorem FnExactFewestSets_walk (v1 : Value) (v2 : Value) (n0 : Int) (l1 : List Int) (l2 : List Int) (w : World) (i1 : Ints w.heap v1 l1) (i2 : Ints w.heap v2 l2) :
    Ret Try.prog 11 #[.int .i64 n0, v1, v2] w (fun r w' => r = .bool true ∧ Below w.heap.size w w') := by
  refine Ret_of (args := [_, _, _]) Try.call11 Try.func11 rfl _ Try.ntmps11 rfl ?_
  repeat (first | refine T_move rfl rfl ?_ | refine T_assign rfl rfl ?_ | refine T_nil0 ?_ | refine E_seq ?_ | refine E_region ?_ | refine T_cmp rfl rfl rfl rfl ?_ | refine T_len tyI rfl rfl (Ints.len (by assumption)) ?_)
  refine E_cond_if rfl (fun hp1 => ?_) (fun hp1 => ?_)
  · repeat' (first | refine T_assign rfl rfl ?_ | refine T_nil0 ?_ | refine E_seq ?_ | refine E_region ?_ | refine E_ret1 rfl rfl ?_)
    exact ⟨rfl, Below.refl _ _⟩
  repeat (first | refine T_move rfl rfl ?_ | refine T_nil0 ?_ | refine E_seq ?_ | refine E_region ?_ | refine T_cmp rfl rfl rfl rfl ?_ | refine E_skip ?_ | refine T_len tyI rfl rfl (Ints.len (by assumption)) ?_)
  refine E_cond_if rfl (fun hp2 => ?_) (fun hp2 => ?_)
  · repeat' (first | refine T_assign rfl rfl ?_ | refine T_nil0 ?_ | refine E_seq ?_ | refine E_region ?_ | refine E_ret1 rfl rfl ?_)
    exact ⟨rfl, Below.refl _ _⟩
  repeat (first | refine T_move rfl rfl ?_ | refine E_seq ?_ | refine E_region ?_ | refine E_skip ?_)
  refine T_call rfl rfl (toIntS_spec v1 l1 w i1 (by omega)) (fun p1 w1 hr => ?_)
  obtain ⟨hp1, hb⟩ := hr
  have hB := hb
  repeat (first | refine T_move rfl rfl ?_)
  refine T_call rfl rfl (toIntS_spec v2 l2 w1 (i2.later hB) (by omega)) (fun p2 w2 hr => ?_)
  obtain ⟨hp2, hb⟩ := hr
  have hB := hB.step hB.size hb
  have hp1 := hp1.later hb
  skip
  refine T_call rfl rfl (sFewestSets_spec p1 p2 n0 l1 l2 w2 hp1.ints hp2.ints (by omega)) (fun s0 w3 hr => ?_)
  obtain ⟨q, rfl, hq, hb⟩ := hr
  have hB := hB.step hB.size hb
  repeat (first | refine T_move rfl rfl ?_ | refine T_assign rfl rfl ?_ | refine T_nil0 ?_ | refine E_seq ?_ | refine E_region ?_)
  refine T_call rfl rfl (toIntS_spec v1 l1 w3 (i1.later hB) (by omega)) (fun x1 w4 hr => ?_)
  obtain ⟨hx1, hb⟩ := hr
  have hB := hB.step hB.size hb
  repeat (first | refine T_move rfl rfl ?_ | refine T_assign rfl rfl ?_ | refine T_nil0 ?_ | refine E_seq ?_ | refine E_region ?_)
  refine T_call rfl rfl (toIntS_spec v2 l2 w4 (i2.later hB) (by omega)) (fun x2 w5 hr => ?_)
  obtain ⟨hx2, hb⟩ := hr
  have hB := hB.step hB.size hb
  have hx1 := hx1.later hb
  repeat (first | refine T_move rfl rfl ?_ | refine T_assign rfl rfl ?_ | refine T_nil0 ?_ | refine E_seq ?_ | refine E_region ?_)
  refine T_call rfl rfl (FewestSets_spec x1 x2 n0 l1 l2 w5 hx1.ints hx2.ints) (fun g0 w6 hr => ?_)
  obtain ⟨q', rfl, hq', hb⟩ := hr
  have e := isFew_one hq' hq
  subst e
  have hB := hB.step hB.size hb
  have hx1 := hx1.later hb
  have hx2 := hx2.later hb
  repeat (first | refine T_move rfl rfl ?_ | refine T_assign rfl rfl ?_ | refine T_nil0 ?_ | refine E_seq ?_ | refine E_region ?_ | refine T_cmp rfl rfl rfl rfl ?_)
  refine E_cond_if rfl (fun hk => ?_) (fun hk => ?_)
  · exact absurd rfl hk
  repeat (first | refine T_move rfl rfl ?_ | refine E_seq ?_ | refine E_region ?_ | refine E_skip ?_)
  refine T_call rfl rfl (toIntS_spec v1 l1 w6 (i1.later hB) (by omega)) (fun y1 w7 hr => ?_)
  obtain ⟨hy1, hb⟩ := hr
  have hB := hB.step hB.size hb
  have hx1 := hx1.later hb
  have hx2 := hx2.later hb
  skip
  refine T_call rfl rfl (eqIntS_yes x1 y1 _ w7 hx1.ints hy1.ints (by omega)) (fun r w8 hr => ?_)
  obtain ⟨rfl, hb⟩ := hr
  have hB := hB.step hB.size hb
  have hx2 := hx2.later hb
  repeat (first | refine T_move rfl rfl ?_ | refine T_nil0 ?_ | refine E_seq ?_ | refine E_region ?_ | refine E_cond_false rfl ?_ | refine E_skip ?_ | refine T_notB rfl rfl ?_)
  refine T_call rfl rfl (toIntS_spec v2 l2 w8 (i2.later hB) (by omega)) (fun y2 w9 hr => ?_)
  obtain ⟨hy2, hb⟩ := hr
  have hB := hB.step hB.size hb
  have hx2 := hx2.later hb
  skip
  refine T_call rfl rfl (eqIntS_yes x2 y2 _ w9 hx2.ints hy2.ints (by omega)) (fun r w10 hr => ?_)
  obtain ⟨rfl, hb⟩ := hr
  have hB := hB.step hB.size hb
  repeat' (first | refine T_assign rfl rfl ?_ | refine T_nil0 ?_ | refine E_seq ?_ | refine E_region ?_ | refine E_cond_false rfl ?_ | refine E_skip ?_ | refine T_notB rfl rfl ?_ | refine E_ret1 rfl rfl ?_)
  exact ⟨rfl, hB⟩
end Go.Proofs.Ytjpbmjigmbfcfaa
