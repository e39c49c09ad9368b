/-
  The walk of laws.FnAreaLeft: it returns true, and writes nothing that was there. Conditions: the arguments lie in memory as the contract says.
-/
import Derived.Test.YtnecmchcemnopaaC7b
import Derived.Test.YtnecmchcemnopaaG2e
import Derived.Test.YtnecmchcemnopaaLibT
import Derived.Test.YtnecmchcemnopaaRowY
namespace Go.Proofs.Ytnecmchcemnopaa
open Go Go.PR Go.RowKit attribute [local irreducible] T E Ints Sl Bools OwnI OwnB OwnR Recs Box Ret
attribute [local irreducible] Bytes X

set_option maxHeartbeats 2000000 in
theorem FnAreaLeft_walk (cv : Value) (cs : List Int) (w : World) (hY : Bytes w.heap cv cs ∧ ∀ c ∈ cs, 0 ≤ c ∧ c ≤ 255) :
    Ret Try.prog 6 #[cv] w (fun r w' => r = .bool true ∧ Below w.heap.size w w') := by
  obtain ⟨hY, hby⟩ := hY
  refine Ret_of (args := [_]) Try.call6 Try.func6 rfl _ Try.ntmps6 rfl ?_
  repeat (first | refine T_move rfl rfl ?_ | refine T_assign rfl rfl ?_ | refine T_nil0 ?_ | refine E_seq ?_ | refine E_region ?_)
  refine T_len tyY rfl rfl hY.len ?_
  repeat (first | refine T_nil0 ?_ | refine T_cmp rfl rfl rfl rfl ?_)
  refine E_cond_if rfl (fun hp => ?_) (fun hp => ?_)
  · repeat' (first | refine T_assign rfl rfl ?_ | refine T_nil0 ?_ | refine E_seq ?_ | refine E_region ?_ | refine E_ret1 rfl rfl ?_)
    exact ⟨rfl, Below.refl _ _⟩
  repeat (first | refine T_move rfl rfl ?_ | refine E_seq ?_ | refine E_region ?_ | refine E_skip ?_)
  refine T_call rfl rfl (DrawAreaLeft_spec cv cs w hY hby) (fun r w1 hr => ?_)
  obtain ⟨x, u, ps, v, rfl, hO, hV, hdl, hpl, hB⟩ := hr
  repeat (first | refine T_move rfl rfl ?_ | refine T_extract rfl rfl rfl ?_)
  refine T_new (us := relC x u) zL sL rfl (fun _ => rfl) rfl rfl (relC_one hO.recs.rlen) (fun b3 w2 hn3 hx3 hb => ?_)
  have hI := (hO.later hb).recs
  have hJ := (hV.later hb).recs
  have hB := hB.step hB.size hb
  have hE := Below.refl w2.heap.size w2
  clear hO hV hb
  repeat (first | refine T_move rfl rfl ?_ | refine T_assign rfl rfl ?_ | refine T_nil0 ?_ | refine E_seq ?_ | refine E_region ?_ | refine T_loadBoxAB aL sL rfl rfl (by assumption) (by assumption) (by rfl) ?_)
  refine T_call rfl rfl (AreaLeft_spec x u ps v w2 hI hJ) (fun r w3 hr => ?_)
  obtain ⟨rfl, hb⟩ := hr
  have hB := hB.step hB.size hb
  have hE := hE.step hE.size hb
  have hI := hI.later hb
  have hJ := hJ.later hb
  clear hb
  repeat (first | refine T_move rfl rfl ?_ | refine T_assign rfl rfl ?_ | refine T_nil0 ?_ | refine E_seq ?_ | refine E_region ?_ | refine T_loadBoxAB aL sL rfl rfl (by assumption) (by assumption) (by rfl) ?_)
  refine T_call rfl rfl (sAreaLeft_spec x u ps v w3 hI hJ (by omega) (by omega)) (fun r w4 hr => ?_)
  obtain ⟨rfl, hb⟩ := hr
  have hB := hB.step hB.size hb
  have hE := hE.step hE.size hb
  have hI := hI.later hb
  have hJ := hJ.later hb
  clear hb
  repeat (first | refine T_move rfl rfl ?_ | refine T_cmp rfl rfl rfl rfl ?_)
  refine T_guard rfl rfl (fun h1 => ?_) (fun h1 => ?_)
  · exact absurd rfl h1
  repeat (first | refine T_move rfl rfl ?_ | refine T_nil0 ?_ | refine T_cmp rfl rfl rfl rfl ?_ | refine T_on rfl rfl ?_ | refine T_pick_false rfl rfl rfl ?_)
  refine E_cond_if rfl (fun h2 => ?_) (fun h2 => ?_)
  · repeat (first | refine T_move rfl rfl ?_ | refine E_seq ?_ | refine E_region ?_ | refine T_loadBoxAB aL sL rfl rfl (by assumption) (by assumption) (by rfl) ?_)
    refine T_call rfl rfl (sAreaLeft_spec x u ps v w4 hI hJ (by omega) (by omega)) (fun r w5 hr => ?_)
    obtain ⟨rfl, hb⟩ := hr
    repeat' (first | refine T_assign rfl rfl ?_ | refine T_nil0 ?_ | refine T_cmp rfl rfl rfl rfl ?_ | refine E_ret1 rfl rfl ?_)
    exact ⟨by simp, hB.step hB.size hb⟩
  have hk : okC x ps := by
    apply Decidable.byContradiction
    intro hn
    apply h2
    unfold leftF
    rw [if_neg hn]
    decide
  have hw1 := hk.1.1
  have hn1 := hk.1.2.1
  have hmul0 : 0 ≤ x.w * x.n := Int.mul_nonneg (by omega) (by omega)
  have hmul : x.w * x.n ≤ 60 * 400 := Int.mul_le_mul (by omega) (by omega) (by omega) (by omega)
  have hleft : leftF x ps = x.w * x.n - cutA ps := by unfold leftF; rw [if_pos hk]
  have hcut := cutA_bound hk.1 hk.2.2.1
  generalize hlf : leftF x ps = lf at *
  have hx3 := hx3.later hE
  have hC := Below.refl w4.heap.size w4
  clear hE
  repeat (first | refine T_assign rfl rfl ?_ | refine T_nil0 ?_ | refine E_seq ?_ | refine E_region ?_ | refine E_skip ?_)
  refine E_loop (σ := Nat) (fun i => [(3, bPtr b3 0), (4, v), (5, .int .i64 lf), (6, .int .i64 (i : Int))])
    (fun i w' => i ≤ ps.length ∧ Below w4.heap.size w4 w') (fun i => ps.length - i) 0
    ⟨by omega, hC⟩ ⟨rfl, rfl, rfl, rfl, trivial⟩ ?_
  clear hC
  rintro i w5 ⟨hi, hC⟩ IH
  repeat (first | refine T_move rfl rfl ?_ | refine T_nil0 ?_ | refine E_seq ?_ | refine E_region ?_ | refine T_cmp rfl rfl rfl rfl ?_ | refine T_len tyT rfl rfl (Recs.rlen (r := recT) (by assumption)) ?_)
  refine E_cond_if rfl (fun hp1 => ?_) (fun hp1 => ?_)
  case refine_2 =>
    repeat (first | refine E_seq ?_ | refine E_exit rfl ?_)
    refine E_region_held 8 w5.drew follows (by kernel_rfl) ?_
    have hdr : Below w5.heap.size w5 w5.drew := (Below.refl _ _).drew
    have hC := hC.step hC.size hdr
    generalize w5.drew = w6 at *
    have hS := Below.refl w6.heap.size w6
    refine X_run 0 1 (by kernel_rfl) hS ?_
    repeat (first | refine T_nil3 ?_ | refine T_loadBoxAB aL sL rfl rfl (by assumption) (by assumption) (by rfl) ?_)
    refine X_run 2 5 (by kernel_rfl) hS ?_
    repeat (first | refine T_fieldBoxF (fun _ _ => by kernel_rfl) rfl rfl ?_ | refine T_loadBoxB Try.isAgg3 rfl rfl (by assumption) (by assumption) (by rfl) ?_)
    refine T_mul rfl rfl rfl (by omega) ?_
    repeat (first | refine T_nil3 ?_)
    refine X_one 1 (by kernel_rfl) ?_
    refine T_call rfl rfl (AreaLeft_spec x u [] (.slice none 0 0) w6 (hI.later hC) (Recs.nil _ _)) (fun r w7 hr => ?_)
    obtain ⟨rfl, hb⟩ := hr
    have hS := hS.step hS.size hb
    repeat (first | refine T_nil0 ?_)
    refine ⟨hS, ?_⟩
    have e0 : leftF x [] = x.w * x.n := by
      unfold leftF; rw [if_pos (okC_nil hk.1)]
      show x.w * x.n - 0 = _
      omega
    refine X_run 7 1 (by kernel_rfl) hS ?_
    repeat (first | refine T_nil3 ?_ | refine T_cmp rfl rfl rfl rfl ?_)
    rw [decide_eq_true e0]
    refine X_tail (by kernel_rfl) ?_
    repeat' (first | refine T_assign rfl rfl ?_ | refine T_nil0 ?_ | refine E_ret1 rfl rfl ?_)
    exact ⟨rfl, hB.step hB.size (hC.step hC.size hS)⟩
  have hil : i < ps.length := by omega
  have hpt := hk.at hil
  have hab := areaT_bound hk.1 hpt
  unfold areaT at hab
  unfold okT at hpt
  have hls := cutA_less hil
  unfold areaT at hls
  have hkl := okC_less hk i
  have hll : leftF x (less ps i) = x.w * x.n - cutA (less ps i) := by unfold leftF; rw [if_pos hkl]
  have hcl := cutA_bound hkl.1 hkl.2.2.1
  repeat (first | refine E_seq ?_ | refine E_skip ?_ | refine E_blockS ?_)
  refine E_region_still follows (by kernel_rfl) ?_
  repeat (first | refine T_move rfl rfl ?_ | refine T_sub rfl rfl rfl (by omega) ?_ | refine T_indexT tyT rfl rfl rfl (by assumption) (by omega) ?_ | refine T_fieldT (fun _ _ => by kernel_rfl) rfl rfl (by assumption) (by omega) ?_ | refine T_loadT Try.isAgg3 rfl rfl (by assumption) (by assumption) (by omega) (by rfl) ?_)
  refine T_mul rfl rfl rfl (by omega) ?_
  repeat (first | refine T_assign rfl rfl ?_ | refine T_nil1 ?_ | refine E_seq ?_)
  have hdr : Below w5.heap.size w5 w5.drew := (Below.refl _ _).drew
  have hC := hC.step hC.size hdr
  generalize w5.drew = w6 at *
  clear hdr
  skip
  refine E_region_held 15 w6.drew follows (by kernel_rfl) ?_
  have hdr : Below w6.heap.size w6 w6.drew := (Below.refl _ _).drew
  have hC := hC.step hC.size hdr
  generalize w6.drew = w7 at *
  have hI7 := hI.later hC
  have hJ7 := hJ.later hC
  have hS := Below.refl w7.heap.size w7
  refine X_run 0 1 (by kernel_rfl) hS ?_
  repeat (first | refine T_nil3 ?_ | refine T_loadBoxAB aL sL rfl rfl (by assumption) (by assumption) (by rfl) ?_)
  refine X_run 2 3 (by kernel_rfl) hS ?_
  repeat (first | refine T_move rfl rfl ?_)
  refine T_sliceHiR (r := recT) tyT rfl rfl rfl hJ7 (by omega) ?_
  repeat (first | refine T_nil3 ?_)
  refine X_run 6 4 (by kernel_rfl) hS ?_
  repeat (first | refine T_move rfl rfl ?_ | refine T_add rfl rfl rfl (by omega) ?_)
  refine T_sliceLoR (r := recT) (lo := i + 1) tyT rfl rfl rfl hJ7 (by omega) (by omega) ?_
  repeat (first | refine T_nil3 ?_)
  refine X_run 12 3 (by kernel_rfl) hS ?_
  repeat (first | refine T_move rfl rfl ?_ | refine T_nil3 ?_ | refine T_add rfl rfl rfl (by omega) ?_)
  refine X_one 1 (by kernel_rfl) ?_
  refine T_lit0R (r := recT) tyT rfl (fun ov w8 hO _ _ hb => ?_)
  have hS := hb
  have hTk := (hJ7.later hS).cutHi (hi := i) (by omega)
  repeat (first | refine T_nil0 ?_)
  refine ⟨hS, ?_⟩
  refine X_one 5 (by kernel_rfl) ?_
  have hbo := hO.blk
  have hz8 := hS.size
  refine T_appendR (r := recT) tyT rfl rfl rfl hO hTk (by omega) (by simp; omega) (by simp; omega) (fun ov1 w9 hO hg _ => ?_)
  have hS := hS.own hg hbo (Nat.le_refl _) hS.size
  rw [List.nil_append] at hO
  have hDr := (hJ7.later hS).cutLo (lo := i + 1) (by omega)
  repeat (first | refine T_nil0 ?_)
  refine ⟨hS, ?_⟩
  refine X_one 10 (by kernel_rfl) ?_
  have hbo := hO.blk
  have hz9 := hS.size
  refine T_appendR (r := recT) tyT rfl rfl rfl hO hDr (by omega) (by simp; omega) (by simp; omega) (fun ov2 w10 hO hg _ => ?_)
  have hS := hS.own hg hbo (Nat.le_refl _) hS.size
  repeat (first | refine T_nil0 ?_)
  refine ⟨hS, ?_⟩
  refine X_one 11 (by kernel_rfl) ?_
  refine T_call rfl rfl (AreaLeft_spec x u (less ps i) ov2 w10 (hI7.later hS) hO.recs) (fun r w11 hr => ?_)
  obtain ⟨rfl, hb⟩ := hr
  have hS := hS.step hS.size hb
  repeat (first | refine T_nil0 ?_)
  refine ⟨hS, ?_⟩
  refine X_tail (by kernel_rfl) ?_
  repeat (first | refine T_nil0 ?_ | refine T_cmp rfl rfl rfl rfl ?_)
  refine E_cond_if rfl (fun h4 => ?_) (fun h4 => ?_)
  · exact absurd (by omega) h4
  have hC := hC.step hC.size hS
  repeat (first | refine T_move rfl rfl ?_ | refine T_assign rfl rfl ?_ | refine T_nil0 ?_ | refine E_region ?_ | refine T_add rfl rfl rfl (by omega) ?_ | refine E_skip ?_ | refine E_inBlock ?_)
  exact IH (i + 1) w11 _ ⟨by omega, hC⟩ (by omega) ⟨rfl, rfl, rfl, rfl, trivial⟩
end Go.Proofs.Ytnecmchcemnopaa
