/-
  Contracts: the reference's FewestSets. Conditions: the arguments lie in memory as the contract says.
-/
import Derived.Test.YtjpbmjigmbfcfaaC3Y
namespace Go.Proofs.Ytjpbmjigmbfcfaa
open Go Go.PR Go.RowKit attribute [local irreducible] T E Ints Sl Bools OwnI OwnB OwnR Recs Box Ret

set_option maxHeartbeats 1000000 in
theorem fewest_spec (v u : Value) (width : Int) (ws ns : List Int) (w : World) (hI : Ints w.heap v ws) (hJ : Ints w.heap u ns) (hok : okN width ws ns) (h24 : width ≤ 24) (h8 : ns.sum ≤ 8) :
    Ret Try.prog 68 #[.int .i64 width, v, u] w (fun r w' => ∃ k : Nat, r = .int .i64 (k : Int) ∧ least width ws k (wantF ns) ∧ Below w.heap.size w w') := by
  have hW := hok.1
  have hw1 := hW.1
  have hwl := hW.2.1
  have hnl := hok.2.1
  have hnb := hok.2.2.1
  have hwb : ∀ x ∈ ws, 1 ≤ x ∧ x ≤ 60 := fun x hx => by have := hW.2.2.1 x hx; omega
  have hn0 : ∀ x ∈ ns, 0 ≤ x := fun x hx => (hnb x hx).1
  have hsum := sumF_list ns
  have hcov : cov width ws 8 (wantF ns) := cov_total hW (fun i => by
      by_cases hi : i < ns.length
      · exact hn0 _ (getD_mem hi)
      · rw [wantF_out (by omega)]; exact Int.le_refl _) (fun i hi => wantF_out (by omega)) (by
      rw [← hnl]
      show sumF (fun i => ns.getD i 0) ns.length ≤ _
      omega)
  obtain ⟨N, hN8, hN⟩ := exists_least hcov
  have hwid := cov_width hW hN.1
  have hdot : dotN ns ws ns.length ≤ N * width := by
    rw [← sumF_dot, hnl]
    exact hwid
  have hd0 := dotN_bound (a := ns) (b := ws) (A := 20) (B := 60) (by omega) (by omega) hnb (fun x hx => by have := hwb x hx; omega) ns.length
  have hmulN : ((N : Int) + 1) * width = N * width + width := by rw [Int.add_mul, Int.one_mul]
  have hn0le : (dotN ns ws ns.length + width - 1) / width < N + 1 := Int.ediv_lt_of_lt_mul (by omega) (by omega)
  have hn00 : 0 ≤ (dotN ns ws ns.length + width - 1) / width := Int.ediv_nonneg (by omega) (by omega)
  refine Ret_of (args := [_, _, _]) Try.call68 Try.func68 rfl _ Try.ntmps68 rfl ?_
  repeat (first | refine T_move rfl rfl ?_ | refine T_assign rfl rfl ?_ | refine T_nil0 ?_ | refine E_seq ?_ | refine E_region ?_)
  refine T_litI tyI rfl rfl rfl rfl (fun bv w1 hU _ _ hB => ?_)
  skip
  refine T_call rfl rfl (patterns_spec ws hwb (by omega) ws.length v bv [] width w1 (by simp) (hI.later hB) hU.ints (by simp) (by omega)) (fun av w2 hr => ?_)
  obtain ⟨rs, hO, hb⟩ := hr
  have hR := hO.rows
  have hB := hB.step hB.size hb
  clear hb hO hU
  have hF : patsF ws (ws.drop ([] : List Int).length) width [] = fullF width ws := by
    unfold fullF; rw [if_pos ⟨hW, h24⟩]; rfl
  rw [hF] at hR
  have hall : ∀ p ∈ fullF width ws, okP width ws p := fun p hp => ((mem_fullF hW h24).1 hp).1
  have hab : ∀ c, okP width ws c → ∃ p ∈ fullF width ws, ∀ i, c.getD i 0 ≤ p.getD i 0 := fun c hc => fullF_above hc h24
  have hal := fullF_len width ws
  repeat (first | refine T_move rfl rfl ?_ | refine T_assign rfl rfl ?_ | refine T_nil0 ?_ | refine E_seq ?_ | refine E_region ?_)
  refine T_call rfl rfl (used_spec v u ws ns w2 (hI.later hB) (hJ.later hB) (by omega) (by omega) (fun x hx => by have := hnb x hx; omega) (fun x hx => by have := hwb x hx; omega)) (fun r w3 hr => ?_)
  obtain ⟨rfl, hb⟩ := hr
  have hB := hB.step hB.size hb
  have hR := hR.later hb
  clear hb
  repeat (first | refine T_move rfl rfl ?_ | refine T_add rfl rfl rfl (by omega) ?_ | refine T_sub rfl rfl rfl (by omega) ?_)
  refine T_quo rfl rfl rfl (by omega) ?_
  have hE := Below.refl w3.heap.size w3
  have hJ3 := hJ.later hB
  repeat (first | refine T_assign rfl rfl ?_ | refine T_nil0 ?_ | refine E_seq ?_)
  refine E_loop (σ := Nat) (fun n => [(0, .int .i64 width), (2, u), (7, av), (8, .int .i64 (n : Int))])
    (fun n w' => n ≤ N ∧ Below w3.heap.size w3 w') (fun n => N - n) ((dotN ns ws ns.length + width - 1) / width).toNat
    ⟨by omega, hE⟩ ⟨rfl, rfl, rfl, slotI rfl (by omega), trivial⟩ ?_
  clear hE
  rintro n w4 ⟨hn, hE⟩ IH
  repeat (first | refine T_move rfl rfl ?_ | refine E_seq ?_ | refine E_region ?_)
  refine T_call rfl rfl (sets_spec width ws (fullF width ws) hW hall hab (by omega) n av u rs ns w4 (by omega) (hR.later hE) (hJ3.later hE) hnl hnb) (fun r w5 hr => ?_)
  obtain ⟨k, rfl, hk1, hk2, hk3, hb⟩ := hr
  have hE := hE.step hE.size hb
  repeat (first | refine T_move rfl rfl ?_ | refine T_nil0 ?_ | refine T_cmp rfl rfl rfl rfl ?_)
  refine E_cond_if rfl (fun g1 => ?_) (fun g1 => ?_)
  · have hnN : n ≠ N := fun e => hk3 N (by omega) hN.1
    repeat (first | refine T_move rfl rfl ?_ | refine T_assign rfl rfl ?_ | refine T_nil0 ?_ | refine E_region ?_ | refine T_add rfl rfl rfl (by omega) ?_ | refine E_skip ?_ | refine E_blockR ?_ | refine E_inBlock ?_)
    exact IH (n + 1) w5 _ ⟨by omega, hE⟩ (by omega) ⟨rfl, rfl, rfl, rfl, trivial⟩
  · have hkN : ¬ k < N := fun h => hN.2 k h (hk2 (by omega))
    have e : n = N := by omega
    repeat' (first | refine T_move rfl rfl ?_ | refine T_assign rfl rfl ?_ | refine T_nil0 ?_ | refine E_seq ?_ | refine E_region ?_ | refine E_exit rfl ?_ | refine E_ret1 rfl rfl ?_)
    exact ⟨n, rfl, by rw [e]; exact hN, hB.step hB.size hE⟩

theorem sFewestSets_spec (v u : Value) (width : Int) (ws ns : List Int) (w : World) (hI : Ints w.heap v ws) (hJ : Ints w.heap u ns) (hl : ws.length ≤ 1048576) :
    Ret Try.prog 44 #[.int .i64 width, v, u] w (fun r w' => ∃ q, r = .int .i64 q ∧ isFew width ws ns q ∧ Below w.heap.size w w') := by
  have no : ¬ (okN width ws ns ∧ width ≤ 24 ∧ ns.sum ≤ 8) → isFew width ws ns (-1) := fun h => ⟨fun c => absurd c h, fun _ => rfl⟩
  refine Ret_of (args := [_, _, _]) Try.call44 Try.func44 rfl _ Try.ntmps44 rfl ?_
  repeat (first | refine T_move rfl rfl ?_ | refine T_assign rfl rfl ?_ | refine T_nil0 ?_ | refine E_seq ?_ | refine E_region ?_)
  refine T_call rfl rfl (svalidWants_spec v u width ws ns w hI hJ hl) (fun r w1 hr => ?_)
  obtain ⟨rfl, hB⟩ := hr
  have hI := hI.later hB
  have hJ := hJ.later hB
  repeat (first | refine T_move rfl rfl ?_ | refine T_not rfl rfl ?_)
  refine T_guard rfl rfl (fun g1 => ?_) (fun g1 => ?_)
  · repeat' (first | refine T_move rfl rfl ?_ | refine T_assign rfl rfl ?_ | refine T_nil0 ?_ | refine E_seq ?_ | refine E_region ?_ | refine T_off rfl rfl rfl ?_ | refine T_pick_true rfl rfl rfl ?_ | refine E_cond_true rfl ?_ | refine E_ret1 rfl rfl ?_)
    exact ⟨_, rfl, no (fun h => g1 h.1), hB⟩
  have hok := Decidable.not_not.1 g1
  have hwl := hok.1.2.1
  have hnl := hok.2.1
  have hnb := hok.2.2.1
  repeat (first | refine T_move rfl rfl ?_ | refine T_on rfl rfl ?_)
  refine T_call rfl rfl (stotal_spec u ns w1 hJ (by omega) (fun x hx => by have := hnb x hx; omega)) (fun r w2 hr => ?_)
  obtain ⟨rfl, rfl⟩ := hr
  repeat (first | refine T_move rfl rfl ?_ | refine T_cmp rfl rfl rfl rfl ?_ | refine T_on rfl rfl ?_ | refine T_pick_false rfl rfl rfl ?_)
  refine T_guard rfl rfl (fun g2 => ?_) (fun g2 => ?_)
  · repeat' (first | refine T_assign rfl rfl ?_ | refine T_nil0 ?_ | refine E_seq ?_ | refine E_region ?_ | refine T_off rfl rfl rfl ?_ | refine T_pick_true rfl rfl rfl ?_ | refine E_cond_true rfl ?_ | refine E_ret1 rfl rfl ?_)
    exact ⟨_, rfl, no (fun h => by have := h.2.2; omega), hB⟩
  repeat (first | refine T_move rfl rfl ?_ | refine T_nil0 ?_ | refine T_cmp rfl rfl rfl rfl ?_ | refine T_on rfl rfl ?_ | refine T_pick_false rfl rfl rfl ?_)
  refine E_cond_if rfl (fun g3 => ?_) (fun g3 => ?_)
  · repeat' (first | refine T_assign rfl rfl ?_ | refine T_nil0 ?_ | refine E_seq ?_ | refine E_region ?_ | refine E_ret1 rfl rfl ?_)
    exact ⟨_, rfl, no (fun h => by have := h.2.1; omega), hB⟩
  repeat (first | refine T_move rfl rfl ?_ | refine E_seq ?_ | refine E_region ?_ | refine E_skip ?_)
  refine T_call rfl rfl (fewest_spec v u width ws ns w1 hI hJ hok (by omega) (by omega)) (fun r w3 hr => ?_)
  obtain ⟨k, rfl, hk, hb⟩ := hr
  repeat' (first | refine T_assign rfl rfl ?_ | refine T_nil0 ?_ | refine E_ret1 rfl rfl ?_)
  exact ⟨_, rfl, ⟨fun _ => ⟨k, rfl, hk⟩, fun h => absurd ⟨hok, by omega, by omega⟩ h⟩, hB.step hB.size hb⟩
end Go.Proofs.Ytjpbmjigmbfcfaa
