/-
  The walk of laws.FnBadArea: it returns true, and writes nothing that was there. Conditions: the arguments lie in memory as the contract says.
-/
import Derived.Test.YtlflglcgpcnjdaaC2e
import Derived.Test.YtlflglcgpcnjdaaG2d
import Derived.Test.YtlflglcgpcnjdaaRowY
namespace Go.Proofs.Ytlflglcgpcnjdaa
open Go Go.PR Go.RowKit attribute [local irreducible] T E Ints Sl Bools OwnI OwnB OwnR Recs Box Ret
attribute [local irreducible] Bytes X

set_option maxHeartbeats 1000000 in
theorem FnBadArea_walk (cv : Value) (cs : List Int) (w : World) (hY : Bytes w.heap cv cs ∧ ∀ c ∈ cs, 0 ≤ c ∧ c ≤ 255) :
    Ret Try.prog 3 #[cv] w (fun r w' => r = .bool true ∧ Below w.heap.size w w') := by
  obtain ⟨hY, hby⟩ := hY
  refine Ret_of (args := [_]) Try.call3 Try.func3 rfl _ Try.ntmps3 rfl ?_
  repeat (first | refine T_move rfl rfl ?_ | refine T_assign rfl rfl ?_ | refine T_nil0 ?_ | refine E_seq ?_ | refine E_region ?_)
  refine T_len tyY rfl rfl hY.len ?_
  repeat (first | refine T_nil0 ?_ | refine T_cmp rfl rfl rfl rfl ?_)
  refine E_cond_if rfl (fun hp => ?_) (fun hp => ?_)
  · repeat' (first | refine T_assign rfl rfl ?_ | refine T_nil0 ?_ | refine E_seq ?_ | refine E_region ?_ | refine E_ret1 rfl rfl ?_)
    exact ⟨rfl, Below.refl _ _⟩
  repeat (first | refine T_move rfl rfl ?_ | refine E_seq ?_ | refine E_region ?_ | refine E_skip ?_)
  refine T_call rfl rfl (DrawBadArea_spec cv cs w hY hby) (fun r w1 hr => ?_)
  obtain ⟨x, u, m, rfl, hO, hdl, hB⟩ := hr
  repeat (first | refine T_move rfl rfl ?_ | refine T_extract rfl rfl rfl ?_)
  refine T_new (us := relC x u) zL sL rfl (fun _ => rfl) rfl rfl (relC_one hO.recs.rlen) (fun b3 w2 hn3 hx3 hb => ?_)
  have hI := (hO.later hb).recs
  have hB := hB.step hB.size hb
  have hE := Below.refl w2.heap.size w2
  clear hO hb
  repeat (first | refine T_move rfl rfl ?_ | refine T_assign rfl rfl ?_ | refine T_nil0 ?_ | refine E_seq ?_ | refine E_region ?_ | refine T_loadBoxAB aL sL rfl rfl (by assumption) (by assumption) (by rfl) ?_)
  refine T_call rfl rfl (BadArea_spec x u m w2 hI) (fun r w3 hr => ?_)
  obtain ⟨rfl, hb⟩ := hr
  have hB := hB.step hB.size hb
  have hE := hE.step hE.size hb
  have hI := hI.later hb
  clear hb
  repeat (first | refine T_move rfl rfl ?_ | refine T_assign rfl rfl ?_ | refine T_nil0 ?_ | refine E_seq ?_ | refine E_region ?_ | refine T_loadBoxAB aL sL rfl rfl (by assumption) (by assumption) (by rfl) ?_)
  refine T_call rfl rfl (sBadArea_spec x u m w3 hI (by omega)) (fun r w4 hr => ?_)
  obtain ⟨rfl, hb⟩ := hr
  have hB := hB.step hB.size hb
  have hE := hE.step hE.size hb
  have hI := hI.later hb
  clear hb
  repeat (first | refine T_move rfl rfl ?_ | refine T_cmp rfl rfl rfl rfl ?_)
  refine T_guard rfl rfl (fun h1 => ?_) (fun h1 => ?_)
  · exact absurd rfl h1
  repeat (first | refine T_move rfl rfl ?_ | refine T_nil0 ?_ | refine T_cmp rfl rfl rfl rfl ?_ | refine T_on rfl rfl ?_ | refine T_pick_false rfl rfl rfl ?_)
  refine E_cond_if rfl (fun h2 => ?_) (fun h2 => ?_)
  · repeat (first | refine T_move rfl rfl ?_ | refine E_seq ?_ | refine E_region ?_ | refine T_loadBoxAB aL sL rfl rfl (by assumption) (by assumption) (by rfl) ?_)
    refine T_call rfl rfl (sBadArea_spec x u m w4 hI (by omega)) (fun r w5 hr => ?_)
    obtain ⟨rfl, hb⟩ := hr
    repeat' (first | refine T_assign rfl rfl ?_ | refine T_nil0 ?_ | refine T_cmp rfl rfl rfl rfl ?_ | refine E_ret1 rfl rfl ?_)
    exact ⟨by simp, hB.step hB.size hb⟩
  have hokr : okR x := by
    apply Decidable.byContradiction
    intro hn
    apply h2
    unfold areaF
    rw [if_neg hn]
    decide
  have hw1 := hokr.1
  have hn1 := hokr.2.1
  have e0 : areaF x m = areaN x m x.w.toNat := by unfold areaF; rw [if_pos hokr]
  have hab := fun k hk => areaN_bound hokr m k hk
  have habw := hab x.w.toNat (by omega)
  rw [e0]
  have hx3 := hx3.later hE
  have hC := Below.refl w4.heap.size w4
  clear hE
  repeat (first | refine T_assign rfl rfl ?_ | refine T_nil0 ?_ | refine E_seq ?_ | refine E_region ?_ | refine E_skip ?_)
  refine E_loop (σ := Nat) (fun i => [(3, bPtr b3 0), (4, .int .i64 m), (5, .int .i64 (areaN x m x.w.toNat)), (6, .int .i64 (areaN x m i)), (7, .int .i64 (i : Int))])
    (fun i w' => (i : Int) ≤ x.w ∧ Below w4.heap.size w4 w') (fun i => x.w.toNat - i) 0
    ⟨by omega, hC⟩ ⟨rfl, rfl, rfl, rfl, rfl, trivial⟩ ?_
  clear hC
  rintro i w5 ⟨hi, hC⟩ IH
  have habi := hab i (by omega)
  repeat (first | refine T_move rfl rfl ?_ | refine T_nil0 ?_ | refine E_seq ?_ | refine E_region ?_ | refine T_cmp rfl rfl rfl rfl ?_ | refine T_fieldBoxF (fun _ _ => by kernel_rfl) rfl rfl ?_ | refine T_loadBoxB Try.isAgg3 rfl rfl (by assumption) (by assumption) (by rfl) ?_)
  refine E_cond_if rfl (fun hp1 => ?_) (fun hp1 => ?_)
  case refine_2 =>
    have e : x.w.toNat = i := by omega
    have hmul0 : 0 ≤ x.w * x.n := Int.mul_nonneg (by omega) (by omega)
    have hmul : x.w * x.n ≤ 60 * 400 := Int.mul_le_mul (by omega) (by omega) (by omega) (by omega)
    have e2 : x.n * (i : Int) = x.w * x.n := by rw [show (i : Int) = x.w by omega, Int.mul_comm]
    rw [e] at habw ⊢
    repeat (first | refine T_move rfl rfl ?_ | refine E_seq ?_ | refine E_region ?_ | refine T_cmp rfl rfl rfl rfl ?_ | refine E_exit rfl ?_)
    rw [decide_eq_true (show areaN x m i = areaN x m i from rfl)]
    repeat (first | refine T_move rfl rfl ?_ | refine T_on rfl rfl ?_ | refine T_fieldBoxF (fun _ _ => by kernel_rfl) rfl rfl ?_ | refine T_loadBoxB Try.isAgg3 rfl rfl (by assumption) (by assumption) (by rfl) ?_)
    refine T_mul rfl rfl rfl (by omega) ?_
    repeat' (first | refine T_assign rfl rfl ?_ | refine T_nil0 ?_ | refine T_cmp rfl rfl rfl rfl ?_ | refine T_on rfl rfl ?_ | refine T_pick_true rfl rfl rfl ?_ | refine E_ret1 rfl rfl ?_)
    exact ⟨by simp; omega, hB.step hB.size hC⟩
  have hstep := areaN_step x m i
  have hsF : strF x i (i + 1) m = strL (badL x.ds i (i + 1) m x.n) := by unfold strF; rw [if_pos ⟨hokr, by omega, by omega, by omega⟩]
  have hsum := sumS_opN (badL x.ds i (i + 1) m x.n) (badL x.ds i (i + 1) m x.n).length
  rw [badL_length] at hsum
  have hsl := strF_len (x := x) i (i + 1) m
  have hlb := laneN_bound x m i
  repeat (first | refine T_move rfl rfl ?_ | refine E_seq ?_ | refine E_region ?_ | refine T_add rfl rfl rfl (by omega) ?_ | refine E_skip ?_ | refine E_blockS ?_ | refine T_loadBoxAB aL sL rfl rfl (by assumption) (by assumption) (by rfl) ?_)
  refine T_call rfl rfl (GoodStretches_spec x u i (i + 1) m w5 (hI.later hC)) (fun g w6 hr => ?_)
  obtain ⟨hO, hb⟩ := hr
  have hC := hC.step hC.size hb
  rw [hsF] at hO hsl
  have hrng := fun s hs => opN_range (badL x.ds i (i + 1) m x.n) (badL x.ds i (i + 1) m x.n).length s hs
  rw [badL_length] at hrng
  have hJ := hO.recs
  have hLs : strL (badL x.ds i (i + 1) m x.n) = opN (badL x.ds i (i + 1) m x.n) x.n.toNat := by unfold strL; rw [badL_length]
  have hlane : sumS (strL (badL x.ds i (i + 1) m x.n)) = x.n - laneN x m i := by rw [hLs, hsum]; unfold laneN; omega
  rw [← hLs] at hrng
  clear hLs hsum
  generalize strL (badL x.ds i (i + 1) m x.n) = L at *
  have hpart : ∀ k, k ≤ L.length → 0 ≤ sumS (L.take k) ∧ sumS (L.take k) ≤ 400 * k := fun k => by
    induction k with
    | zero => intro _; simp [sumS]
    | succ k ih =>
      intro hk
      have h3 := ih (by omega)
      have h4 := hrng _ (getM (z := sz0) (show k < L.length by omega))
      rw [sumS_step (by omega)]
      omega
  have hCC := Below.refl w6.heap.size w6
  repeat (first | refine T_move rfl rfl ?_ | refine T_assign rfl rfl ?_ | refine T_nil0 ?_ | refine E_seq ?_ | refine E_region ?_ | refine T_add rfl rfl rfl (by omega) ?_ | refine T_fieldBoxF (fun _ _ => by kernel_rfl) rfl rfl ?_ | refine T_loadBoxB Try.isAgg3 rfl rfl (by assumption) (by assumption) (by rfl) ?_)
  refine E_loop (σ := Nat) (fun k => [(3, bPtr b3 0), (4, .int .i64 m), (5, .int .i64 (areaN x m x.w.toNat)), (6, .int .i64 (areaN x m i + x.n - sumS (L.take k))), (7, .int .i64 (i : Int)), (8, g), (9, .int .i64 (k : Int))])
    (fun k w' => k ≤ L.length ∧ Below w6.heap.size w6 w') (fun k => L.length - k) 0
    ⟨by omega, hCC⟩ ⟨rfl, rfl, rfl, slotI rfl (by simp [sumS]), rfl, rfl, rfl, trivial⟩ ?_
  clear hCC
  rintro k w7 ⟨hk, hCC⟩ IH2
  have hpk := hpart k hk
  repeat (first | refine T_move rfl rfl ?_ | refine T_nil0 ?_ | refine E_seq ?_ | refine E_region ?_ | refine T_cmp rfl rfl rfl rfl ?_ | refine T_len tySt rfl rfl (Recs.rlen (r := recS) (by assumption)) ?_)
  refine E_cond_if rfl (fun hp2 => ?_) (fun hp2 => ?_)
  case refine_2 =>
    have e : k = L.length := by omega
    subst e
    rw [List.take_length] at *
    repeat (first | refine T_move rfl rfl ?_ | refine T_assign rfl rfl ?_ | refine T_nil0 ?_ | refine E_region ?_ | refine T_add rfl rfl rfl (by omega) ?_ | refine E_inBlock ?_ | refine E_exit rfl ?_)
    exact IH (i + 1) w7 _ ⟨by omega, hC.step hC.size hCC⟩ (by omega) ⟨rfl, rfl, rfl, slotI rfl (by omega), rfl, trivial⟩
  have hkl : k < L.length := by omega
  have hs := hrng _ (getM (z := sz0) hkl)
  have hst := sumS_step hkl
  have hpk1 := hpart (k + 1) (by omega)
  repeat (first | refine E_seq ?_ | refine E_skip ?_ | refine E_blockR ?_)
  refine E_region_still follows (by kernel_rfl) ?_
  repeat (first | refine T_move rfl rfl ?_ | refine T_assign rfl rfl ?_ | refine T_nil0 ?_ | refine T_nil1 ?_ | refine E_region ?_ | refine T_add rfl rfl rfl (by omega) ?_ | refine T_sub rfl rfl rfl (by omega) ?_ | refine E_inBlock ?_ | refine T_indexSt tySt rfl rfl rfl (by assumption) (by omega) ?_ | refine T_fieldSt (fun _ _ => by kernel_rfl) rfl rfl (by assumption) (by omega) ?_ | refine T_loadSt Try.isAgg3 rfl rfl (by assumption) (by assumption) (by omega) (by rfl) ?_)
  have hdr : Below w7.heap.size w7 w7.drew := (Below.refl _ _).drew
  exact IH2 (k + 1) _ _ ⟨by omega, hCC.step hCC.size hdr⟩ (by omega) ⟨rfl, rfl, rfl, slotI rfl (by omega), rfl, rfl, rfl, trivial⟩
end Go.Proofs.Ytlflglcgpcnjdaa
