/-
  The walk of laws.FnRollAtArea: it returns true, and writes nothing that was there. Conditions: the arguments lie in memory as the contract says.
-/
import Derived.Test.YtnecmchcemnopaaC7b
import Derived.Test.YtnecmchcemnopaaG2e
import Derived.Test.YtnecmchcemnopaaRowY
namespace Go.Proofs.Ytnecmchcemnopaa
open Go Go.PR Go.RowKit attribute [local irreducible] T E Ints Sl Bools OwnI OwnB OwnR Recs Box Ret
attribute [local irreducible] Bytes X

set_option maxHeartbeats 1000000 in
theorem FnRollAtArea_walk (cv : Value) (cs : List Int) (w : World) (hY : Bytes w.heap cv cs ∧ ∀ c ∈ cs, 0 ≤ c ∧ c ≤ 255) :
    Ret Try.prog 7 #[cv] w (fun r w' => r = .bool true ∧ Below w.heap.size w w') := by
  obtain ⟨hY, hby⟩ := hY
  refine Ret_of (args := [_]) Try.call7 Try.func7 rfl _ Try.ntmps7 rfl ?_
  repeat (first | refine T_move rfl rfl ?_ | refine T_assign rfl rfl ?_ | refine T_nil0 ?_ | refine E_seq ?_ | refine E_region ?_)
  refine T_len tyY rfl rfl hY.len ?_
  repeat (first | refine T_nil0 ?_ | refine T_cmp rfl rfl rfl rfl ?_)
  refine E_cond_if rfl (fun hp => ?_) (fun hp => ?_)
  · repeat' (first | refine T_assign rfl rfl ?_ | refine T_nil0 ?_ | refine E_seq ?_ | refine E_region ?_ | refine E_ret1 rfl rfl ?_)
    exact ⟨rfl, Below.refl _ _⟩
  repeat (first | refine T_move rfl rfl ?_ | refine E_seq ?_ | refine E_region ?_ | refine E_skip ?_)
  refine T_call rfl rfl (DrawAreaLeft_spec cv cs w hY hby) (fun r w1 hr => ?_)
  obtain ⟨x, u, ps, v, rfl, hO, hV, hdl, hpl, hB⟩ := hr
  repeat (first | refine T_move rfl rfl ?_ | refine T_extract rfl rfl rfl ?_)
  refine T_new (us := relC x u) zL sL rfl (fun _ => rfl) rfl rfl (relC_one hO.recs.rlen) (fun b3 w2 hn3 hx3 hb => ?_)
  have hI := (hO.later hb).recs
  have hJ := (hV.later hb).recs
  have hB := hB.step hB.size hb
  have hE := Below.refl w2.heap.size w2
  clear hO hV hb
  repeat (first | refine T_move rfl rfl ?_ | refine T_assign rfl rfl ?_ | refine T_nil0 ?_ | refine E_seq ?_ | refine E_region ?_ | refine T_loadBoxAB aL sL rfl rfl (by assumption) (by assumption) (by rfl) ?_)
  refine T_call rfl rfl (AreaLeft_spec x u ps v w2 hI hJ) (fun r w3 hr => ?_)
  obtain ⟨rfl, hb⟩ := hr
  have hB := hB.step hB.size hb
  have hE := hE.step hE.size hb
  have hI := hI.later hb
  have hJ := hJ.later hb
  clear hb
  repeat (first | refine T_move rfl rfl ?_ | refine T_assign rfl rfl ?_ | refine T_nil0 ?_ | refine E_seq ?_ | refine E_region ?_ | refine T_loadBoxAB aL sL rfl rfl (by assumption) (by assumption) (by rfl) ?_)
  refine T_call rfl rfl (sAreaLeft_spec x u ps v w3 hI hJ (by omega) (by omega)) (fun r w4 hr => ?_)
  obtain ⟨rfl, hb⟩ := hr
  have hB := hB.step hB.size hb
  have hE := hE.step hE.size hb
  have hI := hI.later hb
  have hJ := hJ.later hb
  clear hb
  repeat (first | refine T_move rfl rfl ?_ | refine T_cmp rfl rfl rfl rfl ?_)
  refine T_guard rfl rfl (fun h1 => ?_) (fun h1 => ?_)
  · exact absurd rfl h1
  repeat (first | refine T_move rfl rfl ?_ | refine T_nil0 ?_ | refine T_cmp rfl rfl rfl rfl ?_ | refine T_on rfl rfl ?_ | refine T_pick_false rfl rfl rfl ?_)
  refine E_cond_if rfl (fun h2 => ?_) (fun h2 => ?_)
  · repeat (first | refine T_move rfl rfl ?_ | refine E_seq ?_ | refine E_region ?_ | refine T_loadBoxAB aL sL rfl rfl (by assumption) (by assumption) (by rfl) ?_)
    refine T_call rfl rfl (sAreaLeft_spec x u ps v w4 hI hJ (by omega) (by omega)) (fun r w5 hr => ?_)
    obtain ⟨rfl, hb⟩ := hr
    repeat' (first | refine T_assign rfl rfl ?_ | refine T_nil0 ?_ | refine T_cmp rfl rfl rfl rfl ?_ | refine E_ret1 rfl rfl ?_)
    exact ⟨by simp, hB.step hB.size hb⟩
  have hk : okC x ps := by
    apply Decidable.byContradiction
    intro hn
    apply h2
    unfold leftF
    rw [if_neg hn]
    decide
  have hw1 := hk.1.1
  have hn1 := hk.1.2.1
  have hgrid := grid_all hk.1 ps hk
  have hleft : leftF x ps = x.w * x.n - cutA ps := by unfold leftF; rw [if_pos hk]
  rw [← hgrid] at hleft
  rw [hleft]
  have hfr : ∀ a b, 0 ≤ freeN ps a b ∧ freeN ps a b ≤ 1 := fun a b => by unfold freeN; split <;> omega
  have hfs : ∀ a k, 0 ≤ smN (freeN ps a) k ∧ smN (freeN ps a) k ≤ k := fun a k => by
    have := smN_bound (f := freeN ps a) (lo := 0) (hi := 1) (n := k) (fun j _ => hfr a j)
    omega
  have hgs : ∀ k, 0 ≤ smN (gridN ps x.n.toNat) k ∧ smN (gridN ps x.n.toNat) k ≤ 400 * k := fun k => by
    have := smN_bound (f := gridN ps x.n.toNat) (lo := 0) (hi := 400) (n := k) (fun j _ => by have := hfs j x.n.toNat; unfold gridN; omega)
    omega
  have hx3 := hx3.later hE
  have hC := Below.refl w4.heap.size w4
  clear hE hgrid hleft
  repeat (first | refine T_assign rfl rfl ?_ | refine T_nil0 ?_ | refine E_seq ?_ | refine E_region ?_ | refine E_skip ?_)
  refine E_loop (σ := Nat) (fun i => [(3, bPtr b3 0), (4, v), (5, .int .i64 (smN (gridN ps x.n.toNat) x.w.toNat)), (6, .int .i64 (smN (gridN ps x.n.toNat) i)), (7, .int .i64 (i : Int))])
    (fun i w' => (i : Int) ≤ x.w ∧ Below w4.heap.size w4 w') (fun i => x.w.toNat - i) 0
    ⟨by omega, hC⟩ ⟨rfl, rfl, rfl, rfl, rfl, trivial⟩ ?_
  clear hC
  rintro i w5 ⟨hi, hC⟩ IH
  have hgi := hgs i
  repeat (first | refine T_move rfl rfl ?_ | refine T_nil0 ?_ | refine E_seq ?_ | refine E_region ?_ | refine T_cmp rfl rfl rfl rfl ?_ | refine T_fieldBoxF (fun _ _ => by kernel_rfl) rfl rfl ?_ | refine T_loadBoxB Try.isAgg3 rfl rfl (by assumption) (by assumption) (by rfl) ?_)
  refine E_cond_if rfl (fun hp1 => ?_) (fun hp1 => ?_)
  case refine_2 =>
    have e : x.w.toNat = i := by omega
    rw [e]
    repeat' (first | refine T_move rfl rfl ?_ | refine T_assign rfl rfl ?_ | refine T_nil0 ?_ | refine E_seq ?_ | refine E_region ?_ | refine T_cmp rfl rfl rfl rfl ?_ | refine E_exit rfl ?_ | refine E_ret1 rfl rfl ?_)
    exact ⟨by simp, hB.step hB.size hC⟩
  repeat (first | refine T_assign rfl rfl ?_ | refine T_nil0 ?_ | refine E_seq ?_ | refine E_region ?_ | refine E_skip ?_ | refine E_blockS ?_)
  refine E_loop (σ := Nat) (fun k => [(3, bPtr b3 0), (4, v), (5, .int .i64 (smN (gridN ps x.n.toNat) x.w.toNat)), (6, .int .i64 (smN (gridN ps x.n.toNat) i + smN (freeN ps i) k)), (7, .int .i64 (i : Int)), (8, .int .i64 (k : Int))])
    (fun k w' => (k : Int) ≤ x.n ∧ Below w4.heap.size w4 w') (fun k => x.n.toNat - k) 0
    ⟨by omega, hC⟩ ⟨rfl, rfl, rfl, slotI rfl (by simp [smN]), rfl, rfl, trivial⟩ ?_
  clear hC
  rintro k w6 ⟨hk2, hC⟩ IH2
  have hfk := hfs i k
  have hfk1 : smN (freeN ps i) (k + 1) = smN (freeN ps i) k + freeN ps i k := rfl
  have hg1 : smN (gridN ps x.n.toNat) (i + 1) = smN (gridN ps x.n.toNat) i + smN (freeN ps i) x.n.toNat := rfl
  repeat (first | refine T_move rfl rfl ?_ | refine T_nil0 ?_ | refine E_seq ?_ | refine E_region ?_ | refine T_cmp rfl rfl rfl rfl ?_ | refine T_fieldBoxF (fun _ _ => by kernel_rfl) rfl rfl ?_ | refine T_loadBoxB Try.isAgg3 rfl rfl (by assumption) (by assumption) (by rfl) ?_)
  refine E_cond_if rfl (fun hp2 => ?_) (fun hp2 => ?_)
  case refine_2 =>
    have e : x.n.toNat = k := by omega
    rw [e] at hg1
    repeat (first | refine T_move rfl rfl ?_ | refine T_assign rfl rfl ?_ | refine T_nil0 ?_ | refine E_region ?_ | refine T_add rfl rfl rfl (by omega) ?_ | refine E_inBlock ?_ | refine E_exit rfl ?_)
    exact IH (i + 1) w6 _ ⟨by omega, hC⟩ (by omega) ⟨rfl, rfl, rfl, slotI rfl (by rw [e]; omega), rfl, trivial⟩
  have hsg : ((rollF x ps i k).1 < 0) ↔ whichF ps i k < 0 := by
    unfold rollF
    by_cases h : okC x ps ∧ 0 ≤ whichF ps i k
    · rw [if_pos h]
    · rw [if_neg h]
      have : ¬ 0 ≤ whichF ps i k := fun h' => h ⟨hk, h'⟩
      constructor <;> intro _ <;> first | omega | decide
  repeat (first | refine T_move rfl rfl ?_ | refine E_seq ?_ | refine E_region ?_ | refine E_skip ?_ | refine E_blockS ?_ | refine T_loadBoxAB aL sL rfl rfl (by assumption) (by assumption) (by rfl) ?_)
  refine T_call rfl rfl (RollAt_spec x u ps v i k w6 (hI.later hC) (hJ.later hC)) (fun r w7 hr => ?_)
  obtain ⟨rfl, hb⟩ := hr
  have hC := hC.step hC.size hb
  repeat (first | refine T_move rfl rfl ?_ | refine T_assign rfl rfl ?_ | refine T_nil0 ?_ | refine E_seq ?_ | refine E_region ?_ | refine T_cmp rfl rfl rfl rfl ?_ | refine T_extract rfl rfl rfl ?_)
  refine E_cond_if rfl (fun h3 => ?_) (fun h3 => ?_)
  · have e1 : freeN ps i k = 1 := by unfold freeN; rw [if_pos (hsg.1 h3)]
    repeat (first | refine T_move rfl rfl ?_ | refine T_assign rfl rfl ?_ | refine T_nil0 ?_ | refine E_region ?_ | refine T_add rfl rfl rfl (by omega) ?_ | refine E_inBlock ?_)
    exact IH2 (k + 1) w7 _ ⟨by omega, hC⟩ (by omega) ⟨rfl, rfl, rfl, slotI rfl (by omega), rfl, rfl, trivial⟩
  · have e1 : freeN ps i k = 0 := by unfold freeN; rw [if_neg (fun h => h3 (hsg.2 h))]
    repeat (first | refine T_move rfl rfl ?_ | refine T_assign rfl rfl ?_ | refine T_nil0 ?_ | refine E_region ?_ | refine T_add rfl rfl rfl (by omega) ?_ | refine E_skip ?_ | refine E_inBlock ?_)
    exact IH2 (k + 1) w7 _ ⟨by omega, hC⟩ (by omega) ⟨rfl, rfl, rfl, slotI rfl (by omega), rfl, rfl, trivial⟩
end Go.Proofs.Ytnecmchcemnopaa
