/-
  Contracts: the reference's least number of sets. Conditions: the arguments lie in memory as the contract says.
-/
import Derived.Test.YtjpbmjigmbfcfaaC3U
import Derived.Test.YtjpbmjigmbfcfaaC3d
import Derived.Test.YtjpbmjigmbfcfaaC3f
import Derived.Test.YtjpbmjigmbfcfaaLibS
import Derived.Test.YtjpbmjigmbfcfaaHeld
namespace Go.PR
theorem leftF_take {w p : List Int} {i : Nat} (h : i < w.length) : (leftF w p).take (i + 1) = (leftF w p).take i ++ [max 0 (w.getD i 0 - p.getD i 0)] := by
  rw [take_snoc (by rw [leftF_length]; exact h), leftF_getD h]
theorem leftF_bound {w p : List Int} (hw : ∀ x ∈ w, 0 ≤ x ∧ x ≤ 20) (hp : ∀ i, 0 ≤ p.getD i 0) : ∀ x ∈ leftF w p, 0 ≤ x ∧ x ≤ 20 := fun x hx => by
  simp only [leftF, List.mem_map, List.mem_range] at hx
  obtain ⟨i, hi, rfl⟩ := hx
  have h1 := hw _ (getD_mem hi)
  have h2 := hp i
  omega
end Go.PR
namespace Go.Proofs.Ytjpbmjigmbfcfaa
open Go Go.PR Go.RowKit attribute [local irreducible] T E Ints Sl Bools OwnI OwnB OwnR Recs Box Ret
attribute [local irreducible] X

set_option maxHeartbeats 2000000 in
theorem sets_spec (width : Int) (ws : List Int) (all : List (List Int)) (hok : okW width ws) (hall : ∀ p ∈ all, okP width ws p) (hab : ∀ c, okP width ws c → ∃ p ∈ all, ∀ i, c.getD i 0 ≤ p.getD i 0) (hal : all.length ≤ 1000000000) :
    ∀ (most : Nat) (u v : Value) (us : List Value) (ns : List Int) (w : World), most ≤ 1000 → Rws w.heap u us all → Ints w.heap v ns → ns.length = ws.length → (∀ x ∈ ns, 0 ≤ x ∧ x ≤ 20) →
    Ret Try.prog 80 #[.int .i64 width, u, v, .int .i64 (most : Int)] w (fun r w' => ∃ k : Nat, r = .int .i64 (k : Int) ∧ k ≤ most + 1 ∧ (k ≤ most → cov width ws k (wantF ns)) ∧ (∀ j, j < k → ¬ cov width ws j (wantF ns)) ∧ Below w.heap.size w w') := by
  intro most
  induction most using Nat.strongRecOn with
  | ind most ih =>
  intro u v us ns w hm hR hI hnl hnb
  have hwl := hok.2.1
  have hn0 : ∀ x ∈ ns, 0 ≤ x := fun x hx => (hnb x hx).1
  have hcz := cov_zero (width := width) (ws := ws) hn0
  refine Ret_of (args := [_, _, _, _]) Try.call80 Try.func80 rfl _ Try.ntmps80 rfl ?_
  repeat (first | refine T_move rfl rfl ?_ | refine T_assign rfl rfl ?_ | refine T_nil0 ?_ | refine E_seq ?_ | refine E_region ?_)
  refine T_call rfl rfl (stotal_spec v ns w hI (by omega) (fun x hx => by have := hnb x hx; omega)) (fun r w1 hr => ?_)
  obtain ⟨rfl, rfl⟩ := hr
  repeat (first | refine T_nil0 ?_ | refine T_cmp rfl rfl rfl rfl ?_)
  refine E_cond_if rfl (fun g1 => ?_) (fun g1 => ?_)
  · repeat' (first | refine T_assign rfl rfl ?_ | refine T_nil0 ?_ | refine E_seq ?_ | refine E_region ?_ | refine E_ret1 rfl rfl ?_)
    exact ⟨0, rfl, by omega, fun _ => hcz.2 g1, by omega, Below.refl _ _⟩
  have hnc0 : ¬ cov width ws 0 (wantF ns) := fun h => g1 (hcz.1 h)
  repeat (first | refine T_move rfl rfl ?_ | refine T_nil0 ?_ | refine E_seq ?_ | refine E_region ?_ | refine T_cmp rfl rfl rfl rfl ?_ | refine E_skip ?_)
  refine E_cond_if rfl (fun g2 => ?_) (fun g2 => ?_)
  · repeat' (first | refine T_assign rfl rfl ?_ | refine T_nil0 ?_ | refine E_seq ?_ | refine E_region ?_ | refine E_ret1 rfl rfl ?_)
    exact ⟨1, rfl, by omega, fun h => by omega, fun j hj => by rw [show j = 0 by omega]; exact hnc0, Below.refl _ _⟩
  have hm1 : 1 ≤ most := by omega
  repeat (first | refine T_move rfl rfl ?_ | refine T_assign rfl rfl ?_ | refine T_nil0 ?_ | refine E_seq ?_ | refine E_region ?_ | refine T_add rfl rfl rfl (by omega) ?_ | refine E_skip ?_)
  refine E_loop (σ := Nat) (fun i => [(0, .int .i64 width), (1, u), (2, v), (3, .int .i64 (most : Int)), (9, .int .i64 ((most : Int) + 1)), (10, .int .i64 (i : Int))])
    (fun i w' => i ≤ ns.length ∧ (∀ j, j < i → ns.getD j 0 = 0) ∧ w = w') (fun i => ns.length - i) 0
    ⟨by omega, by omega, rfl⟩ ⟨rfl, rfl, rfl, rfl, rfl, rfl, trivial⟩ ?_
  rintro first w1 ⟨hf, hz, rfl⟩ IH
  have hfl : first < ns.length := by
    apply Classical.byContradiction
    intro h
    apply g1
    apply hcz.1
    intro i
    by_cases hi : i < ns.length
    · have : ns.getD i 0 = 0 := hz i (by omega)
      show ns.getD i 0 ≤ 0
      omega
    · rw [wantF_out (by omega)]; exact Int.le_refl _
  repeat (first | refine T_move rfl rfl ?_ | refine T_nil0 ?_ | refine E_seq ?_ | refine E_region ?_ | refine T_cmp rfl rfl rfl rfl ?_ | refine T_indexN tyI rfl rfl rfl (by assumption) (by omega) ?_ | refine T_loadI Try.isAgg3 rfl rfl (by assumption) (by omega) ?_)
  refine E_cond_if rfl (fun g3 => ?_) (fun g3 => ?_)
  · repeat (first | refine T_move rfl rfl ?_ | refine T_assign rfl rfl ?_ | refine T_nil0 ?_ | refine E_region ?_ | refine T_add rfl rfl rfl (by omega) ?_ | refine E_skip ?_ | refine E_blockR ?_ | refine E_inBlock ?_)
    refine IH (first + 1) w _ ⟨by omega, fun j hj => ?_, rfl⟩ (by omega) ⟨rfl, rfl, rfl, rfl, rfl, rfl, trivial⟩
    by_cases e : j = first
    · subst e; exact g3
    · exact hz j (by omega)
  have hpos : 0 < wantF ns first := by
    have h1 := hnb _ (getD_mem (xs := ns) (k := first) hfl)
    show 0 < ns.getD first 0
    omega
  have hnx := fun k => cov_next (k := k) hall hab hpos
  clear IH hz
  repeat (first | refine T_assign rfl rfl ?_ | refine T_nil0 ?_ | refine E_seq ?_ | refine E_region ?_ | refine E_exit rfl ?_)
  refine E_loop (σ := Nat × Nat) (fun ⟨q, b⟩ => [(0, .int .i64 width), (1, u), (2, v), (9, .int .i64 (b : Int)), (10, .int .i64 (first : Int)), (11, .int .i64 (q : Int))])
    (fun ⟨q, b⟩ w' => q ≤ all.length ∧ 1 ≤ b ∧ b ≤ most + 1 ∧ (b ≤ most → cov width ws b (wantF ns)) ∧ (∀ q', q' < q → (all.getD q' []).getD first 0 ≠ 0 → ∀ j, j + 1 < b → ¬ cov width ws j (wantF (leftF ns (all.getD q' [])))) ∧ Below w.heap.size w w') (fun ⟨q, _⟩ => all.length - q) (0, most + 1)
    ⟨by omega, by omega, by omega, by omega, by omega, Below.refl _ _⟩ ⟨rfl, rfl, rfl, slotI rfl (by omega), rfl, rfl, trivial⟩ ?_
  rintro ⟨q, b⟩ w2 ⟨hq, hb1, hbm, hbc, hbn, hB⟩ IH
  have hI2 := hI.later hB
  have hR2 := hR.later hB
  have fin : (q = all.length ∨ b ≤ 1) → ∀ j, j < b → ¬ cov width ws j (wantF ns) := fun h j hj hc => by
    cases j with
    | zero => exact hnc0 hc
    | succ j =>
      obtain ⟨p, hp, hp0, hc'⟩ := (hnx j).1 hc
      obtain ⟨q', hq', rfl⟩ := List.getElem_of_mem hp
      have e : all.getD q' [] = all[q'] := by rw [List.getD_eq_getElem?_getD, List.getElem?_eq_getElem hq']; rfl
      rcases h with h | h
      · refine hbn q' (by omega) ?_ j (by omega) ?_ <;> rw [e]
        · exact hp0
        · exact hc'
      · omega
  repeat (first | refine T_move rfl rfl ?_ | refine E_seq ?_ | refine E_region ?_ | refine T_cmp rfl rfl rfl rfl ?_ | refine T_lenS tySS rfl rfl (by assumption) ?_)
  refine T_guard rfl rfl (fun g4 => ?_) (fun g4 => ?_)
  case refine_2 =>
    repeat' (first | refine T_move rfl rfl ?_ | refine T_assign rfl rfl ?_ | refine T_nil0 ?_ | refine E_seq ?_ | refine E_region ?_ | refine T_off rfl rfl rfl ?_ | refine T_pick_false rfl rfl rfl ?_ | refine E_cond_false rfl ?_ | refine E_exit rfl ?_ | refine E_ret1 rfl rfl ?_)
    exact ⟨b, rfl, hbm, hbc, fin (.inl (by omega)), hB⟩
  repeat (first | refine T_move rfl rfl ?_ | refine T_nil0 ?_ | refine T_cmp rfl rfl rfl rfl ?_ | refine T_on rfl rfl ?_ | refine T_pick_true rfl rfl rfl ?_)
  refine E_cond_if rfl (fun g5 => ?_) (fun g5 => ?_)
  case refine_2 =>
    repeat' (first | refine T_move rfl rfl ?_ | refine T_assign rfl rfl ?_ | refine T_nil0 ?_ | refine E_seq ?_ | refine E_region ?_ | refine E_exit rfl ?_ | refine E_ret1 rfl rfl ?_)
    exact ⟨b, rfl, hbm, hbc, fin (.inr (by omega)), hB⟩
  have hql : q < all.length := by omega
  have hrow := hR2.row q hql
  have hpm : all.getD q [] ∈ all := by
    rw [List.getD_eq_getElem?_getD, List.getElem?_eq_getElem hql]
    exact List.getElem_mem hql
  have hpo := hall _ hpm
  have hpl : (all.getD q []).length = ns.length := by rw [hpo.2.1, hnl]
  repeat (first | refine T_move rfl rfl ?_ | refine T_nil0 ?_ | refine E_seq ?_ | refine E_region ?_ | refine T_cmp rfl rfl rfl rfl ?_ | refine E_skip ?_ | refine E_blockS ?_ | refine T_indexN tyI rfl rfl rfl (by assumption) (by omega) ?_ | refine T_loadI Try.isAgg3 rfl rfl (by assumption) (by omega) ?_ | refine T_indexS tySS rfl rfl rfl (by assumption) (by omega) ?_ | refine T_loadRow Try.isAgg22 rfl rfl (by assumption) (by omega) ?_)
  refine E_cond_if rfl (fun g6 => ?_) (fun g6 => ?_)
  · repeat (first | refine T_move rfl rfl ?_ | refine T_assign rfl rfl ?_ | refine T_nil0 ?_ | refine E_region ?_ | refine T_add rfl rfl rfl (by omega) ?_ | refine E_exit rfl ?_)
    refine IH (q + 1, b) w2 _ ⟨by omega, hb1, hbm, hbc, fun q' hq' h0 => ?_, hB⟩ (by show all.length - (q + 1) < all.length - q; omega) ⟨rfl, rfl, rfl, rfl, rfl, rfl, trivial⟩
    by_cases e : q' = q
    · subst e; exact absurd g6 h0
    · exact hbn q' (by omega) h0
  repeat (first | refine E_seq ?_ | refine E_region ?_ | refine E_skip ?_)
  refine T_litI tyI rfl rfl rfl rfl (fun lv w3 hL _ _ hb3 => ?_)
  have hC := hb3
  repeat (first | refine T_assign rfl rfl ?_ | refine T_nil0 ?_ | refine E_seq ?_ | refine E_region ?_)
  refine E_loop (σ := Nat × Value) (fun ⟨i, lv⟩ => [(0, .int .i64 width), (1, u), (2, v), (9, .int .i64 (b : Int)), (10, .int .i64 (first : Int)), (11, .int .i64 (q : Int)), (12, lv), (13, .int .i64 (i : Int))])
    (fun ⟨i, lv⟩ w' => i ≤ ns.length ∧ OwnI w' w2.heap.size 3 lv ((leftF ns (all.getD q [])).take i) ∧ Below w2.heap.size w2 w') (fun ⟨i, _⟩ => ns.length - i) (0, lv)
    ⟨by omega, hL, hC⟩ ⟨rfl, rfl, rfl, rfl, rfl, rfl, rfl, rfl, trivial⟩ ?_
  clear hL hC hb3
  rintro ⟨i, lv⟩ w4 ⟨hi, hL, hC⟩ IH2
  have hI4 := hI2.later hC
  have hR4 := hR2.later hC
  have hrow4 := hrow.later hC
  have hB4 := hB.step hB.size hC
  repeat (first | refine T_move rfl rfl ?_ | refine T_nil0 ?_ | refine E_seq ?_ | refine E_region ?_ | refine T_cmp rfl rfl rfl rfl ?_ | refine T_len tyI rfl rfl (Ints.len (by assumption)) ?_)
  refine E_cond_if rfl (fun g7 => ?_) (fun g7 => ?_)
  case refine_2 =>
    have e : i = ns.length := by omega
    subst e
    rw [show ns.length = (leftF ns (all.getD q [])).length by rw [leftF_length], List.take_length] at hL
    have hb2 : ((b : Int) - 2) = ((b - 2 : Nat) : Int) := by omega
    repeat (first | refine T_move rfl rfl ?_ | refine E_region ?_ | refine T_sub rfl rfl rfl (by omega) ?_ | refine E_exit rfl ?_)
    rw [hb2]
    refine T_call rfl rfl (ih (b - 2) (by omega) u lv us (leftF ns (all.getD q [])) w4 (by omega) hR4 hL.ints (by rw [leftF_length, hnl]) (leftF_bound hnb hpo.getD)) (fun r w5 hr => ?_)
    obtain ⟨k, rfl, hk1, hk2, hk3, hb5⟩ := hr
    have hmin : min (b : Int) (1 + (k : Int)) = ((k + 1 : Nat) : Int) := by omega
    repeat (first | refine T_move rfl rfl ?_ | refine T_assign rfl rfl ?_ | refine T_nil0 ?_ | refine E_region ?_ | refine T_add rfl rfl rfl (by omega) ?_ | refine E_inBlock ?_ | refine T_min rfl rfl rfl ?_)
    refine IH (q + 1, k + 1) w5 _ ⟨by omega, by omega, by omega, fun h => ?_, fun q' hq' h0 j hj => ?_, hB4.step hB4.size hb5⟩ (by show all.length - (q + 1) < all.length - q; omega) ⟨rfl, rfl, rfl, slotI rfl hmin, rfl, rfl, trivial⟩
    · by_cases e : k ≤ b - 2
      · exact (hnx k).2 ⟨_, hpm, g6, hk2 e⟩
      · rw [show k + 1 = b by omega]
        exact hbc (by omega)
    · by_cases e : q' = q
      · subst e; exact hk3 j (by omega)
      · exact hbn q' (by omega) h0 j (by omega)
  have hil : i < ns.length := by omega
  have hst := leftF_take (p := all.getD q []) hil
  have htl : ((leftF ns (all.getD q [])).take i).length = i := by rw [List.length_take, leftF_length]; omega
  have h1 := hnb _ (getD_mem (xs := ns) (k := i) hil)
  have h2 := hpo.count _ (getD_mem (xs := all.getD q []) (k := i) (by omega))
  have hw1 := hok.1
  generalize (leftF ns (all.getD q [])).take i = M at *
  repeat (first | refine E_seq ?_ | refine E_skip ?_ | refine E_blockR ?_)
  refine E_region_held 15 w4.drew follows (by kernel_rfl) ?_
  have hdr : Below w4.heap.size w4 w4.drew := (Below.refl _ _).drew
  have hL := hL.later hdr
  have hC := hC.step hC.size hdr
  have hI4 := hI4.later hdr
  have hR4 := hR4.later hdr
  have hrow4 := hrow4.later hdr
  generalize w4.drew = w5 at *
  have hS := Below.refl w5.heap.size w5
  refine X_run 0 14 (by kernel_rfl) hS ?_
  repeat (first | refine T_move rfl rfl ?_ | refine T_nil3 ?_ | refine T_sub rfl rfl rfl (by omega) ?_ | refine T_max rfl rfl rfl ?_ | refine T_indexN tyI rfl rfl rfl (by assumption) (by omega) ?_ | refine T_loadI Try.isAgg3 rfl rfl (by assumption) (by omega) ?_ | refine T_indexS tySS rfl rfl rfl (by assumption) (by omega) ?_ | refine T_loadRow Try.isAgg22 rfl rfl (by assumption) (by omega) ?_)
  refine X_one 14 (by kernel_rfl) ?_
  refine T_litI tyI rfl rfl rfl rfl (fun tv w6 hT _ _ hb6 => ?_)
  have hL := hL.later hb6
  have hC := hC.step hC.size hb6
  have hlb := hL.blk
  have hz6 := hC.size
  repeat (first | refine T_nil0 ?_)
  refine ⟨hb6, ?_⟩
  refine X_tail (by kernel_rfl) ?_
  clear hS
  refine T_appendI tyI rfl rfl rfl hL hT.ints (by omega) (by simp only [List.length_singleton]; omega) (by simp only [List.length_singleton]; omega) (fun lv' w7 hL hg _ => ?_)
  have hC := hC.own hg hlb (Nat.le_refl _) hC.size
  rw [← hst] at hL
  repeat (first | refine T_move rfl rfl ?_ | refine T_assign rfl rfl ?_ | refine T_nil0 ?_ | refine E_region ?_ | refine T_add rfl rfl rfl (by omega) ?_ | refine E_inBlock ?_)
  exact IH2 (i + 1, lv') w7 _ ⟨by omega, hL, hC⟩ (by show ns.length - (i + 1) < ns.length - i; omega) ⟨rfl, rfl, rfl, rfl, rfl, rfl, rfl, rfl, trivial⟩
end Go.Proofs.Ytjpbmjigmbfcfaa
