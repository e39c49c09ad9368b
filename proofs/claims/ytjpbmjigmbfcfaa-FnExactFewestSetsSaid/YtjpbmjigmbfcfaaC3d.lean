/-
  Contracts: sums of products, wants, prices, patterns. Conditions: the arguments lie in memory as the contract says.
-/
import Derived.Test.YtjpbmjigmbfcfaaC3b
import Derived.Test.YtjpbmjigmbfcfaaC3R
namespace Go.Proofs.Ytjpbmjigmbfcfaa
open Go Go.PR Go.RowKit attribute [local irreducible] T E Ints Sl Bools OwnI OwnB OwnR Recs Box Ret

theorem used_spec (v u : Value) (ws cs : List Int) (w : World) (hI : Ints w.heap v ws) (hJ : Ints w.heap u cs) (hl : cs.length ≤ ws.length) (hc : cs.length ≤ 1000) (ha : ∀ x ∈ cs, 0 ≤ x ∧ x ≤ 1000) (hb : ∀ x ∈ ws, 0 ≤ x ∧ x ≤ 1000) :
    Ret Try.prog 53 #[v, u] w (fun r w' => r = .int .i64 (dotN cs ws cs.length) ∧ Below w.heap.size w w') := by
  refine Ret_of (args := [_, _]) Try.call53 Try.func53 rfl _ Try.ntmps53 rfl ?_
  repeat (first | refine T_assign rfl rfl ?_ | refine T_nil0 ?_ | refine E_seq ?_ | refine E_region ?_)
  refine E_loop (σ := Nat) (fun k => [(0, v), (1, u), (5, .int .i64 (dotN cs ws k)), (6, .int .i64 k)]) (fun k w' => Below w.heap.size w w' ∧ k ≤ cs.length) (fun k => cs.length - k) 0 ⟨Below.refl _ _, by omega⟩ ⟨rfl, rfl, rfl, rfl, trivial⟩ ?_
  rintro k w1 ⟨hB, hk⟩ IH
  have hI1 := hI.later hB
  have hJ1 := hJ.later hB
  repeat (first | refine T_move rfl rfl ?_ | refine T_nil0 ?_ | refine E_seq ?_ | refine E_region ?_ | refine T_cmp rfl rfl rfl rfl ?_ | refine T_len tyI rfl rfl (Ints.len (by assumption)) ?_)
  refine E_cond_if rfl (fun hp => ?_) (fun hp => ?_)
  case refine_2 =>
    repeat' (first | refine T_move rfl rfl ?_ | refine T_assign rfl rfl ?_ | refine T_nil0 ?_ | refine E_seq ?_ | refine E_region ?_ | refine E_exit rfl ?_ | refine E_ret1 rfl rfl ?_)
    have : k = cs.length := by omega
    subst this
    exact ⟨rfl, hB⟩
  have h1 := dotN_bound (by omega) (by omega) ha hb k
  have h2 := mul_bound (ha _ (getD_mem (xs := cs) (k := k) (by omega))) (hb _ (getD_mem (xs := ws) (k := k) (by omega)))
  repeat (first | refine E_seq ?_ | refine E_skip ?_ | refine E_blockR ?_)
  refine E_region_still follows (by kernel_rfl) ?_
  repeat (first | refine T_move rfl rfl ?_ | refine T_indexN tyI rfl rfl rfl (by assumption) (by omega) ?_ | refine T_loadI Try.isAgg3 rfl rfl (by assumption) (by omega) ?_)
  refine T_mul rfl rfl rfl (by omega) ?_
  repeat (first | refine T_move rfl rfl ?_ | refine T_assign rfl rfl ?_ | refine T_nil0 ?_ | refine T_nil1 ?_ | refine E_region ?_ | refine T_add rfl rfl rfl (by omega) ?_ | refine E_inBlock ?_)
  exact IH (k + 1) _ _ ⟨hB.drew, by omega⟩ (by omega) ⟨rfl, rfl, slotI rfl (by rw [dotN]), rfl, trivial⟩

theorem product_spec (v u : Value) (xs ys : List Int) (w : World) (hI : Ints w.heap v xs) (hJ : Ints w.heap u ys) (hl : xs.length = ys.length) (hc : xs.length ≤ 1000) (ha : ∀ x ∈ xs, 0 ≤ x ∧ x ≤ 1000) (hb : ∀ x ∈ ys, 0 ≤ x ∧ x ≤ 1000) :
    Ret Try.prog 23 #[v, u] w (fun r w' => r = .int .i64 (dotN xs ys xs.length) ∧ Below w.heap.size w w') := by
  refine Ret_of (args := [_, _]) Try.call23 Try.func23 rfl _ Try.ntmps23 rfl ?_
  repeat (first | refine T_assign rfl rfl ?_ | refine T_nil0 ?_ | refine E_seq ?_ | refine E_region ?_)
  refine E_loop (σ := Nat) (fun k => [(0, v), (1, u), (5, .int .i64 (dotN xs ys k)), (6, .int .i64 k)]) (fun k w' => Below w.heap.size w w' ∧ k ≤ xs.length) (fun k => xs.length - k) 0 ⟨Below.refl _ _, by omega⟩ ⟨rfl, rfl, rfl, rfl, trivial⟩ ?_
  rintro k w1 ⟨hB, hk⟩ IH
  have hI1 := hI.later hB
  have hJ1 := hJ.later hB
  repeat (first | refine T_move rfl rfl ?_ | refine E_seq ?_ | refine E_region ?_ | refine T_cmp rfl rfl rfl rfl ?_ | refine T_len tyI rfl rfl (Ints.len (by assumption)) ?_)
  refine T_guard rfl rfl (fun hp => ?_) (fun hp => ?_)
  case refine_2 =>
    repeat' (first | refine T_move rfl rfl ?_ | refine T_assign rfl rfl ?_ | refine T_nil0 ?_ | refine E_seq ?_ | refine E_region ?_ | refine T_off rfl rfl rfl ?_ | refine T_pick_false rfl rfl rfl ?_ | refine E_cond_false rfl ?_ | refine E_exit rfl ?_ | refine E_ret1 rfl rfl ?_)
    have : k = xs.length := by omega
    subst this
    exact ⟨rfl, hB⟩
  have h1 := dotN_bound (by omega) (by omega) ha hb k
  have h2 := mul_bound (ha _ (getD_mem (xs := xs) (k := k) (by omega))) (hb _ (getD_mem (xs := ys) (k := k) (by omega)))
  repeat (first | refine T_move rfl rfl ?_ | refine T_nil0 ?_ | refine T_cmp rfl rfl rfl rfl ?_ | refine T_on rfl rfl ?_ | refine T_pick_true rfl rfl rfl ?_ | refine T_len tyI rfl rfl (Ints.len (by assumption)) ?_)
  refine E_cond_if rfl (fun hp2 => ?_) (fun hp2 => ?_)
  case refine_2 => omega
  repeat (first | refine E_seq ?_ | refine E_skip ?_ | refine E_blockR ?_)
  refine E_region_still follows (by kernel_rfl) ?_
  repeat (first | refine T_move rfl rfl ?_ | refine T_indexN tyI rfl rfl rfl (by assumption) (by omega) ?_ | refine T_loadI Try.isAgg3 rfl rfl (by assumption) (by omega) ?_)
  refine T_mul rfl rfl rfl (by omega) ?_
  repeat (first | refine T_move rfl rfl ?_ | refine T_assign rfl rfl ?_ | refine T_nil0 ?_ | refine T_nil1 ?_ | refine E_region ?_ | refine T_add rfl rfl rfl (by omega) ?_ | refine E_inBlock ?_)
  exact IH (k + 1) _ _ ⟨hB.drew, by omega⟩ (by omega) ⟨rfl, rfl, slotI rfl (by rw [dotN]), rfl, trivial⟩

theorem ValidWants_spec (v u : Value) (width : Int) (ws ns : List Int) (w : World) (hI : Ints w.heap v ws) (hJ : Ints w.heap u ns) :
    Ret Try.prog 55 #[.int .i64 width, v, u] w (fun r w' => r = .bool (decide (okN width ws ns)) ∧ w = w') := by
  refine Ret_of (args := [_, _, _]) Try.call55 Try.func55 rfl _ Try.ntmps55 rfl ?_
  repeat (first | refine T_move rfl rfl ?_ | refine T_assign rfl rfl ?_ | refine T_nil0 ?_ | refine E_seq ?_ | refine E_region ?_)
  refine T_call rfl rfl (ValidWidths_spec v width ws w hI) (fun r w1 hr => ?_)
  obtain ⟨rfl, rfl⟩ := hr
  repeat (first | refine T_move rfl rfl ?_ | refine T_not rfl rfl ?_)
  refine T_guard rfl rfl (fun h1 => ?_) (fun h1 => ?_)
  · repeat' (first | refine T_assign rfl rfl ?_ | refine T_nil0 ?_ | refine E_seq ?_ | refine E_region ?_ | refine T_off rfl rfl rfl ?_ | refine T_pick_true rfl rfl rfl ?_ | refine E_cond_true rfl ?_ | refine E_ret1 rfl rfl ?_)
    exact ⟨vb_f fun h => h1 h.1, rfl⟩
  have hok : okW width ws := Decidable.not_not.1 h1
  have hwl := hok.2.1
  repeat (first | refine T_move rfl rfl ?_ | refine T_nil0 ?_ | refine T_cmp rfl rfl rfl rfl ?_ | refine T_on rfl rfl ?_ | refine T_pick_false rfl rfl rfl ?_ | refine T_len tyI rfl rfl (Ints.len (by assumption)) ?_)
  refine E_cond_if rfl (fun h2 => ?_) (fun h2 => ?_)
  · repeat' (first | refine T_assign rfl rfl ?_ | refine T_nil0 ?_ | refine E_seq ?_ | refine E_region ?_ | refine E_ret1 rfl rfl ?_)
    exact ⟨vb_f fun h => h2 (by rw [h.2.1]), rfl⟩
  have hlen : ns.length = ws.length := by omega
  repeat (first | refine T_move rfl rfl ?_ | refine T_assign rfl rfl ?_ | refine T_nil0 ?_ | refine E_seq ?_ | refine E_region ?_ | refine E_skip ?_ | refine T_len tyI rfl rfl (Ints.len (by assumption)) ?_)
  refine E_loop (σ := Nat) (fun k => [(7, .int .i64 (psum ns k)), (21, u), (22, .int .i64 ns.length), (23, .int .i64 k)]) (fun k w' => w = w' ∧ k ≤ ns.length ∧ (∀ j, j < k → 0 ≤ ns.getD j 0 ∧ ns.getD j 0 ≤ 20) ∧ 0 ≤ psum ns k ∧ psum ns k ≤ 20 * k) (fun k => ns.length - k) 0 ⟨rfl, by omega, by omega, by simp [psum]⟩ ⟨rfl, rfl, rfl, rfl, trivial⟩ ?_
  rintro k w' ⟨rfl, hk, hall, hs⟩ IH
  repeat (first | refine T_nil0 ?_ | refine E_seq ?_ | refine E_region ?_ | refine T_cmp rfl rfl rfl rfl ?_)
  refine E_cond_if rfl (fun hp => ?_) (fun hp => ?_)
  case refine_2 =>
    have hke : k = ns.length := by omega
    subst hke
    repeat' (first | refine T_move rfl rfl ?_ | refine T_assign rfl rfl ?_ | refine T_nil0 ?_ | refine E_seq ?_ | refine E_region ?_ | refine T_cmp rfl rfl rfl rfl ?_ | refine E_exit rfl ?_ | refine E_ret1 rfl rfl ?_)
    rw [psum_all]
    exact ⟨vb_iff ⟨fun h => ⟨hok, hlen, all_of_getD hall, h⟩, fun h => h.2.2.2⟩, rfl⟩
  have h3 := psum_succ (xs := ns) (k := k) (by omega)
  repeat (first | refine T_move rfl rfl ?_ | refine T_assign rfl rfl ?_ | refine T_nil0 ?_ | refine E_seq ?_ | refine E_region ?_ | refine T_cmp rfl rfl rfl rfl ?_ | refine E_skip ?_ | refine E_blockS ?_ | refine T_indexN tyI rfl rfl rfl (by assumption) (by omega) ?_ | refine T_loadI Try.isAgg3 rfl rfl (by assumption) (by omega) ?_)
  refine T_guard rfl rfl (fun h5 => ?_) (fun h5 => ?_)
  · repeat' (first | refine T_assign rfl rfl ?_ | refine T_nil0 ?_ | refine E_seq ?_ | refine E_region ?_ | refine T_off rfl rfl rfl ?_ | refine T_pick_true rfl rfl rfl ?_ | refine E_cond_true rfl ?_ | refine E_ret1 rfl rfl ?_)
    exact ⟨vb_f fun h => by have := h.2.2.1 _ (getD_mem (xs := ns) (k := k) (by omega)); omega, rfl⟩
  repeat (first | refine T_move rfl rfl ?_ | refine T_nil0 ?_ | refine T_cmp rfl rfl rfl rfl ?_ | refine T_on rfl rfl ?_ | refine T_pick_false rfl rfl rfl ?_)
  refine E_cond_if rfl (fun h6 => ?_) (fun h6 => ?_)
  · repeat' (first | refine T_assign rfl rfl ?_ | refine T_nil0 ?_ | refine E_seq ?_ | refine E_region ?_ | refine E_ret1 rfl rfl ?_)
    exact ⟨vb_f fun h => by have := h.2.2.1 _ (getD_mem (xs := ns) (k := k) (by omega)); omega, rfl⟩
  repeat (first | refine T_move rfl rfl ?_ | refine T_assign rfl rfl ?_ | refine T_nil0 ?_ | refine E_region ?_ | refine T_add rfl rfl rfl (by omega) ?_ | refine E_skip ?_ | refine E_inBlock ?_)
  refine IH (k + 1) w _ ⟨rfl, by omega, ?_, by omega, by omega⟩ (by omega) ⟨slotI rfl (by omega), rfl, rfl, rfl, trivial⟩
  intro j hj
  by_cases e : j = k
  · subst e; omega
  · exact hall j (by omega)

theorem svalidWants_spec (v u : Value) (width : Int) (ws ns : List Int) (w : World) (hI : Ints w.heap v ws) (hJ : Ints w.heap u ns) (hl : ws.length ≤ 1048576) :
    Ret Try.prog 54 #[.int .i64 width, v, u] w (fun r w' => r = .bool (decide (okN width ws ns)) ∧ Below w.heap.size w w') := by
  refine Ret_of (args := [_, _, _]) Try.call54 Try.func54 rfl _ Try.ntmps54 rfl ?_
  repeat (first | refine T_move rfl rfl ?_ | refine T_assign rfl rfl ?_ | refine T_nil0 ?_ | refine E_seq ?_ | refine E_region ?_)
  refine T_call rfl rfl (validWidths_spec v width ws w hI hl) (fun r w1 hr => ?_)
  obtain ⟨rfl, hB⟩ := hr
  have hI := hI.later hB
  have hJ := hJ.later hB
  repeat (first | refine T_move rfl rfl ?_)
  refine T_guard rfl rfl (fun h1 => ?_) (fun h1 => ?_)
  case refine_2 =>
    repeat' (first | refine T_move rfl rfl ?_ | refine T_assign rfl rfl ?_ | refine T_nil0 ?_ | refine T_off rfl rfl rfl ?_ | refine T_pick_false rfl rfl rfl ?_ | refine E_ret1 rfl rfl ?_)
    exact ⟨vb_f fun h => h1 h.1, hB⟩
  have hwl := h1.2.1
  repeat (first | refine T_move rfl rfl ?_ | refine T_cmp rfl rfl rfl rfl ?_ | refine T_on rfl rfl ?_ | refine T_pick_true rfl rfl rfl ?_ | refine T_len tyI rfl rfl (Ints.len (by assumption)) ?_)
  refine T_guard rfl rfl (fun h2 => ?_) (fun h2 => ?_)
  case refine_2 =>
    repeat' (first | refine T_move rfl rfl ?_ | refine T_assign rfl rfl ?_ | refine T_nil0 ?_ | refine T_off rfl rfl rfl ?_ | refine T_pick_false rfl rfl rfl ?_ | refine E_ret1 rfl rfl ?_)
    exact ⟨vb_f fun h => h2 (by rw [h.2.1]), hB⟩
  repeat (first | refine T_move rfl rfl ?_ | refine T_on rfl rfl ?_)
  refine T_call rfl rfl (allIn_spec u ns 0 20 w1 hJ (by omega)) (fun r w2 hr => ?_)
  obtain ⟨rfl, rfl⟩ := hr
  repeat (first | refine T_move rfl rfl ?_ | refine T_pick_true rfl rfl rfl ?_)
  refine T_guard rfl rfl (fun h3 => ?_) (fun h3 => ?_)
  case refine_2 =>
    repeat' (first | refine T_assign rfl rfl ?_ | refine T_nil0 ?_ | refine T_off rfl rfl rfl ?_ | refine T_pick_false rfl rfl rfl ?_ | refine E_ret1 rfl rfl ?_)
    exact ⟨vb_f fun h => h3 h.2.2.1, hB⟩
  repeat (first | refine T_move rfl rfl ?_ | refine T_on rfl rfl ?_)
  refine T_call rfl rfl (stotal_spec u ns w1 hJ (by omega) (fun x hx => by have := h3 x hx; omega)) (fun r w2 hr => ?_)
  obtain ⟨rfl, rfl⟩ := hr
  repeat' (first | refine T_assign rfl rfl ?_ | refine T_nil0 ?_ | refine T_cmp rfl rfl rfl rfl ?_ | refine T_on rfl rfl ?_ | refine T_pick_true rfl rfl rfl ?_ | refine E_ret1 rfl rfl ?_)
  exact ⟨vb_iff ⟨fun h => ⟨h1, by omega, h3, h⟩, fun h => h.2.2.2⟩, hB⟩

theorem BestUse_spec (v u : Value) (width : Int) (ws vs : List Int) (w : World) (hI : Ints w.heap v ws) (hJ : Ints w.heap u vs) :
    Ret Try.prog 42 #[.int .i64 width, v, u] w (fun r w' => r = .int .i64 (useF width ws vs) ∧ Below w.heap.size w w') := by
  refine Ret_of (args := [_, _, _]) Try.call42 Try.func42 rfl _ Try.ntmps42 rfl ?_
  repeat (first | refine T_move rfl rfl ?_ | refine T_assign rfl rfl ?_ | refine T_nil0 ?_ | refine E_seq ?_ | refine E_region ?_)
  refine T_call rfl rfl (validValues_spec v u width ws vs w hI hJ) (fun r w1 hr => ?_)
  obtain ⟨rfl, rfl⟩ := hr
  repeat (first | refine T_nil0 ?_ | refine T_not rfl rfl ?_)
  refine E_cond_if rfl (fun hp => ?_) (fun hp => ?_)
  · repeat' (first | refine T_assign rfl rfl ?_ | refine T_nil0 ?_ | refine E_seq ?_ | refine E_region ?_ | refine E_ret1 rfl rfl ?_)
    exact ⟨by unfold useF; rw [if_neg hp], Below.refl _ _⟩
  have hok : okV width ws vs := Decidable.not_not.1 hp
  have hw1 := hok.1.1
  repeat (first | refine T_move rfl rfl ?_ | refine E_seq ?_ | refine E_region ?_ | refine E_skip ?_)
  refine T_call rfl rfl (bestValues_spec v u width ws vs w hI hJ hok) (fun r w1 hr => ?_)
  obtain ⟨hT, hB⟩ := hr
  have hTI := hT.ints
  have hlen := bestT_length ws vs (width.toNat + 1)
  have hbv := bestT_bv ws vs (n := width.toNat + 1) (k := width.toNat) (by omega)
  repeat' (first | refine T_move rfl rfl ?_ | refine T_assign rfl rfl ?_ | refine T_nil0 ?_ | refine T_indexI tyI rfl rfl rfl (by assumption) (by omega) ?_ | refine T_loadI Try.isAgg3 rfl rfl (by assumption) (by omega) ?_ | refine E_ret1 rfl rfl ?_)
  exact ⟨by unfold useF; rw [if_pos hok, hbv], hB⟩

theorem sBestUse_spec (v u : Value) (width : Int) (ws vs : List Int) (w : World) (hI : Ints w.heap v ws) (hJ : Ints w.heap u vs) (hl : ws.length ≤ 1048576) :
    Ret Try.prog 43 #[.int .i64 width, v, u] w (fun r w' => r = .int .i64 (useF width ws vs) ∧ Below w.heap.size w w') := by
  refine Ret_of (args := [_, _, _]) Try.call43 Try.func43 rfl _ Try.ntmps43 rfl ?_
  repeat (first | refine T_move rfl rfl ?_ | refine T_assign rfl rfl ?_ | refine T_nil0 ?_ | refine E_seq ?_ | refine E_region ?_)
  refine T_call rfl rfl (svalidValues_spec v u width ws vs w hI hJ hl) (fun r w1 hr => ?_)
  obtain ⟨rfl, hB0⟩ := hr
  repeat (first | refine T_nil0 ?_ | refine T_not rfl rfl ?_)
  refine E_cond_if rfl (fun hp => ?_) (fun hp => ?_)
  · repeat' (first | refine T_assign rfl rfl ?_ | refine T_nil0 ?_ | refine E_seq ?_ | refine E_region ?_ | refine E_ret1 rfl rfl ?_)
    exact ⟨by unfold useF; rw [if_neg hp], hB0⟩
  have hok : okV width ws vs := Decidable.not_not.1 hp
  have hw1 := hok.1.1
  repeat (first | refine T_move rfl rfl ?_ | refine E_seq ?_ | refine E_region ?_ | refine E_skip ?_)
  refine T_call rfl rfl (bestUse_spec v u width ws vs w1 (hI.later hB0) (hJ.later hB0) hok) (fun r w2 hr => ?_)
  obtain ⟨hT, hB⟩ := hr
  have hTI := hT.ints
  have hlen := bestT_length ws vs (width.toNat + 1)
  have hbv := bestT_bv ws vs (n := width.toNat + 1) (k := width.toNat) (by omega)
  repeat' (first | refine T_move rfl rfl ?_ | refine T_assign rfl rfl ?_ | refine T_nil0 ?_ | refine T_indexI tyI rfl rfl rfl (by assumption) (by omega) ?_ | refine T_loadI Try.isAgg3 rfl rfl (by assumption) (by omega) ?_ | refine E_ret1 rfl rfl ?_)
  exact ⟨by unfold useF; rw [if_pos hok, hbv], hB0.step hB0.size hB⟩

theorem PriceBound_spec (v u q : Value) (width : Int) (ws ns vs : List Int) (w : World) (hI : Ints w.heap v ws) (hJ : Ints w.heap u ns) (hK : Ints w.heap q vs) :
    Ret Try.prog 25 #[.int .i64 width, v, u, q] w (fun r w' => r = .int .i64 (priceF width ws ns vs) ∧ Below w.heap.size w w') := by
  refine Ret_of (args := [_, _, _, _]) Try.call25 Try.func25 rfl _ Try.ntmps25 rfl ?_
  repeat (first | refine T_move rfl rfl ?_ | refine T_assign rfl rfl ?_ | refine T_nil0 ?_ | refine E_seq ?_ | refine E_region ?_)
  refine T_call rfl rfl (ValidWants_spec v u width ws ns w hI hJ) (fun r w1 hr => ?_)
  obtain ⟨rfl, rfl⟩ := hr
  repeat (first | refine T_move rfl rfl ?_ | refine T_not rfl rfl ?_)
  refine T_guard rfl rfl (fun h1 => ?_) (fun h1 => ?_)
  · repeat' (first | refine T_assign rfl rfl ?_ | refine T_nil0 ?_ | refine E_seq ?_ | refine E_region ?_ | refine T_off rfl rfl rfl ?_ | refine T_pick_true rfl rfl rfl ?_ | refine E_cond_true rfl ?_ | refine E_ret1 rfl rfl ?_)
    exact ⟨by unfold priceF; rw [if_neg (fun h => h1 h.1)], Below.refl _ _⟩
  have hN : okN width ws ns := Decidable.not_not.1 h1
  repeat (first | refine T_move rfl rfl ?_ | refine T_on rfl rfl ?_)
  refine T_call rfl rfl (validValues_spec v q width ws vs w hI hK) (fun r w1 hr => ?_)
  obtain ⟨rfl, rfl⟩ := hr
  repeat (first | refine T_nil0 ?_ | refine T_on rfl rfl ?_ | refine T_pick_false rfl rfl rfl ?_ | refine T_not rfl rfl ?_)
  refine E_cond_if rfl (fun h2 => ?_) (fun h2 => ?_)
  · repeat' (first | refine T_assign rfl rfl ?_ | refine T_nil0 ?_ | refine E_seq ?_ | refine E_region ?_ | refine E_ret1 rfl rfl ?_)
    exact ⟨by unfold priceF; rw [if_neg (fun h => h2 h.2)], Below.refl _ _⟩
  have hV : okV width ws vs := Decidable.not_not.1 h2
  have hw := hV.1.2.1
  have hn := hN.2.2.1
  have hv := hV.2.2
  have hln := hN.2.1
  have hlv := hV.2.1
  have hF : priceF width ws ns vs = if dotN ns vs ns.length = 0 then 0 else (dotN ns vs ns.length + bv ws vs width.toNat - 1) / bv ws vs width.toNat := by unfold priceF; rw [if_pos ⟨hN, hV⟩]
  have hdb := fun k => dotN_bound (by omega) (by omega) hn hv k
  repeat (first | refine T_move rfl rfl ?_ | refine T_assign rfl rfl ?_ | refine T_nil0 ?_ | refine E_seq ?_ | refine E_region ?_ | refine E_skip ?_ | refine T_len tyI rfl rfl (Ints.len (by assumption)) ?_)
  refine E_loop (σ := Nat) (fun k => [(0, .int .i64 width), (1, v), (3, q), (9, .int .i64 (dotN ns vs k)), (25, u), (26, .int .i64 ns.length), (27, .int .i64 k)]) (fun k w' => w = w' ∧ k ≤ ns.length) (fun k => ns.length - k) 0 ⟨rfl, by omega⟩ ⟨rfl, rfl, rfl, rfl, rfl, rfl, rfl, trivial⟩ ?_
  rintro k w' ⟨rfl, hk⟩ IH
  have h1 := hdb k
  repeat (first | refine T_nil0 ?_ | refine E_seq ?_ | refine E_region ?_ | refine T_cmp rfl rfl rfl rfl ?_)
  refine E_cond_if rfl (fun hp => ?_) (fun hp => ?_)
  case refine_1 =>
    have h2 := mul_bound (hn _ (getD_mem (xs := ns) (k := k) (by omega))) (hv _ (getD_mem (xs := vs) (k := k) (by omega)))
    repeat (first | refine T_move rfl rfl ?_ | refine T_assign rfl rfl ?_ | refine T_nil0 ?_ | refine E_seq ?_ | refine E_region ?_ | refine E_skip ?_ | refine E_blockS ?_ | refine T_indexN tyI rfl rfl rfl (by assumption) (by omega) ?_ | refine T_loadI Try.isAgg3 rfl rfl (by assumption) (by omega) ?_)
    refine T_mul rfl rfl rfl (by omega) ?_
    repeat (first | refine T_move rfl rfl ?_ | refine T_assign rfl rfl ?_ | refine T_nil0 ?_ | refine E_region ?_ | refine T_add rfl rfl rfl (by omega) ?_ | refine E_inBlock ?_)
    exact IH (k + 1) w _ ⟨rfl, by omega⟩ (by omega) ⟨rfl, rfl, rfl, slotI rfl (by rw [dotN]), rfl, rfl, rfl, trivial⟩
  have hke : k = ns.length := by omega
  subst hke
  repeat (first | refine T_move rfl rfl ?_ | refine T_nil0 ?_ | refine E_seq ?_ | refine E_region ?_ | refine T_cmp rfl rfl rfl rfl ?_ | refine E_exit rfl ?_)
  refine E_cond_if rfl (fun h5 => ?_) (fun h5 => ?_)
  · repeat' (first | refine T_assign rfl rfl ?_ | refine T_nil0 ?_ | refine E_seq ?_ | refine E_region ?_ | refine E_ret1 rfl rfl ?_)
    exact ⟨by rw [hF, if_pos h5], Below.refl _ _⟩
  repeat (first | refine T_move rfl rfl ?_ | refine E_seq ?_ | refine E_region ?_ | refine E_skip ?_)
  refine T_call rfl rfl (BestUse_spec v q width ws vs w hI hK) (fun r w1 hr => ?_)
  obtain ⟨rfl, hB⟩ := hr
  have hu : useF width ws vs = bv ws vs width.toNat := by unfold useF; rw [if_pos hV]
  rw [hu]
  obtain ⟨i, hi1, hi2⟩ := dotN_pos (fun x hx => (hn x hx).1) (fun x hx => (hv x hx).1) _ h5
  have hb0 := bv_pos hV (by omega) hi2
  have hb1 := bv_bound hv hlv width.toNat
  have hw1 := hV.1.1
  generalize bv ws vs width.toNat = b at *
  repeat (first | refine T_move rfl rfl ?_ | refine T_assign rfl rfl ?_ | refine T_nil0 ?_ | refine E_seq ?_ | refine E_region ?_ | refine T_add rfl rfl rfl (by omega) ?_ | refine T_sub rfl rfl rfl (by omega) ?_)
  refine T_quo rfl rfl rfl (by omega) ?_
  repeat' (first | refine T_assign rfl rfl ?_ | refine T_nil0 ?_ | refine E_ret1 rfl rfl ?_)
  exact ⟨by rw [hF, if_neg h5], hB⟩

theorem sPriceBound_spec (v u q : Value) (width : Int) (ws ns vs : List Int) (w : World) (hI : Ints w.heap v ws) (hJ : Ints w.heap u ns) (hK : Ints w.heap q vs) (hl : ws.length ≤ 1048576) :
    Ret Try.prog 24 #[.int .i64 width, v, u, q] w (fun r w' => r = .int .i64 (priceF width ws ns vs) ∧ Below w.heap.size w w') := by
  refine Ret_of (args := [_, _, _, _]) Try.call24 Try.func24 rfl _ Try.ntmps24 rfl ?_
  repeat (first | refine T_move rfl rfl ?_ | refine T_assign rfl rfl ?_ | refine T_nil0 ?_ | refine E_seq ?_ | refine E_region ?_)
  refine T_call rfl rfl (svalidWants_spec v u width ws ns w hI hJ hl) (fun r w1 hr => ?_)
  obtain ⟨rfl, hB⟩ := hr
  repeat (first | refine T_move rfl rfl ?_ | refine T_not rfl rfl ?_)
  refine T_guard rfl rfl (fun h1 => ?_) (fun h1 => ?_)
  · repeat' (first | refine T_assign rfl rfl ?_ | refine T_nil0 ?_ | refine E_seq ?_ | refine E_region ?_ | refine T_off rfl rfl rfl ?_ | refine T_pick_true rfl rfl rfl ?_ | refine E_cond_true rfl ?_ | refine E_ret1 rfl rfl ?_)
    exact ⟨by unfold priceF; rw [if_neg (fun h => h1 h.1)], hB⟩
  have hN : okN width ws ns := Decidable.not_not.1 h1
  repeat (first | refine T_move rfl rfl ?_ | refine T_on rfl rfl ?_)
  refine T_call rfl rfl (svalidValues_spec v q width ws vs w1 (hI.later hB) (hK.later hB) hl) (fun r w2 hr => ?_)
  obtain ⟨rfl, hb⟩ := hr
  have hB := hB.step hB.size hb
  repeat (first | refine T_nil0 ?_ | refine T_on rfl rfl ?_ | refine T_pick_false rfl rfl rfl ?_ | refine T_not rfl rfl ?_)
  refine E_cond_if rfl (fun h2 => ?_) (fun h2 => ?_)
  · repeat' (first | refine T_assign rfl rfl ?_ | refine T_nil0 ?_ | refine E_seq ?_ | refine E_region ?_ | refine E_ret1 rfl rfl ?_)
    exact ⟨by unfold priceF; rw [if_neg (fun h => h2 h.2)], hB⟩
  have hV : okV width ws vs := Decidable.not_not.1 h2
  have hw := hV.1.2.1
  have hn := hN.2.2.1
  have hv := hV.2.2
  have hln := hN.2.1
  have hlv := hV.2.1
  have hF : priceF width ws ns vs = if dotN ns vs ns.length = 0 then 0 else (dotN ns vs ns.length + bv ws vs width.toNat - 1) / bv ws vs width.toNat := by unfold priceF; rw [if_pos ⟨hN, hV⟩]
  have hdb := dotN_bound (by omega) (by omega) hn hv ns.length
  repeat (first | refine T_move rfl rfl ?_ | refine E_seq ?_ | refine E_region ?_ | refine E_skip ?_)
  refine T_call rfl rfl (used_spec q u vs ns w2 (hK.later hB) (hJ.later hB) (by omega) (by omega) (fun x hx => by have := hn x hx; omega) (fun x hx => by have := hv x hx; omega)) (fun r w3 hr => ?_)
  obtain ⟨rfl, hb⟩ := hr
  have hB := hB.step hB.size hb
  repeat (first | refine T_move rfl rfl ?_ | refine T_assign rfl rfl ?_ | refine T_nil0 ?_ | refine E_seq ?_ | refine E_region ?_ | refine T_cmp rfl rfl rfl rfl ?_)
  refine E_cond_if rfl (fun h5 => ?_) (fun h5 => ?_)
  · repeat' (first | refine T_assign rfl rfl ?_ | refine T_nil0 ?_ | refine E_seq ?_ | refine E_region ?_ | refine E_ret1 rfl rfl ?_)
    exact ⟨by rw [hF, if_pos h5], hB⟩
  repeat (first | refine T_move rfl rfl ?_ | refine E_seq ?_ | refine E_region ?_ | refine E_skip ?_)
  refine T_call rfl rfl (bestUse_spec v q width ws vs w3 (hI.later hB) (hK.later hB) hV) (fun r w4 hr => ?_)
  obtain ⟨hT, hb⟩ := hr
  have hB := hB.step hB.size hb
  have hTI := hT.ints
  have hlen := bestT_length ws vs (width.toNat + 1)
  have hbv := bestT_bv ws vs (n := width.toNat + 1) (k := width.toNat) (by omega)
  obtain ⟨i, hi1, hi2⟩ := dotN_pos (fun x hx => (hn x hx).1) (fun x hx => (hv x hx).1) _ h5
  have hb0 := bv_pos hV (by omega) hi2
  have hb1 := bv_bound hv hlv width.toNat
  have hw1 := hV.1.1
  generalize bv ws vs width.toNat = b at *
  generalize bestT ws vs (width.toNat + 1) = tb at *
  repeat (first | refine T_move rfl rfl ?_ | refine T_assign rfl rfl ?_ | refine T_nil0 ?_ | refine E_seq ?_ | refine E_region ?_ | refine T_add rfl rfl rfl (by omega) ?_ | refine T_sub rfl rfl rfl (by omega) ?_ | refine T_indexI tyI rfl rfl rfl (by assumption) (by omega) ?_ | refine T_loadI Try.isAgg3 rfl rfl (by assumption) (by omega) ?_)
  refine T_quo rfl rfl rfl (by omega) ?_
  repeat' (first | refine T_assign rfl rfl ?_ | refine T_nil0 ?_ | refine E_ret1 rfl rfl ?_)
  exact ⟨by rw [hF, if_neg h5, hbv], hB⟩

theorem ValidPattern_spec (v u : Value) (width : Int) (ws cs : List Int) (w : World) (hI : Ints w.heap v ws) (hJ : Ints w.heap u cs) :
    Ret Try.prog 32 #[.int .i64 width, v, u] w (fun r w' => r = .bool (decide (okP width ws cs)) ∧ w = w') := by
  refine Ret_of (args := [_, _, _]) Try.call32 Try.func32 rfl _ Try.ntmps32 rfl ?_
  repeat (first | refine T_move rfl rfl ?_ | refine T_assign rfl rfl ?_ | refine T_nil0 ?_ | refine E_seq ?_ | refine E_region ?_)
  refine T_call rfl rfl (ValidWidths_spec v width ws w hI) (fun r w1 hr => ?_)
  obtain ⟨rfl, rfl⟩ := hr
  repeat (first | refine T_move rfl rfl ?_ | refine T_not rfl rfl ?_)
  refine T_guard rfl rfl (fun h1 => ?_) (fun h1 => ?_)
  · repeat' (first | refine T_assign rfl rfl ?_ | refine T_nil0 ?_ | refine E_seq ?_ | refine E_region ?_ | refine T_off rfl rfl rfl ?_ | refine T_pick_true rfl rfl rfl ?_ | refine E_cond_true rfl ?_ | refine E_ret1 rfl rfl ?_)
    exact ⟨vb_f fun h => h1 h.1, rfl⟩
  have hok : okW width ws := Decidable.not_not.1 h1
  have hwl := hok.2.1
  have hw := hok.1
  have hw3 := hok.2.2.1
  repeat (first | refine T_move rfl rfl ?_ | refine T_nil0 ?_ | refine T_cmp rfl rfl rfl rfl ?_ | refine T_on rfl rfl ?_ | refine T_pick_false rfl rfl rfl ?_ | refine T_len tyI rfl rfl (Ints.len (by assumption)) ?_)
  refine E_cond_if rfl (fun h2 => ?_) (fun h2 => ?_)
  · repeat' (first | refine T_assign rfl rfl ?_ | refine T_nil0 ?_ | refine E_seq ?_ | refine E_region ?_ | refine E_ret1 rfl rfl ?_)
    exact ⟨vb_f fun h => h2 (by rw [h.2.1]), rfl⟩
  have hlen : cs.length = ws.length := by omega
  repeat (first | refine T_move rfl rfl ?_ | refine T_assign rfl rfl ?_ | refine T_nil0 ?_ | refine E_seq ?_ | refine E_region ?_ | refine E_skip ?_ | refine T_len tyI rfl rfl (Ints.len (by assumption)) ?_)
  refine E_loop (σ := Nat) (fun k => [(1, v), (7, .int .i64 (width - dotN cs ws k)), (22, u), (23, .int .i64 cs.length), (24, .int .i64 k)]) (fun k w' => w = w' ∧ k ≤ cs.length ∧ (∀ j, j < k → 0 ≤ cs.getD j 0) ∧ 0 ≤ dotN cs ws k ∧ dotN cs ws k ≤ width) (fun k => cs.length - k) 0 ⟨rfl, by omega, by omega, by simp [dotN], by simp [dotN]; omega⟩ ⟨rfl, slotI rfl (by simp [dotN]), rfl, rfl, rfl, trivial⟩ ?_
  rintro k w' ⟨rfl, hk, hall, hs⟩ IH
  repeat (first | refine T_nil0 ?_ | refine E_seq ?_ | refine E_region ?_ | refine T_cmp rfl rfl rfl rfl ?_)
  refine E_cond_if rfl (fun hp => ?_) (fun hp => ?_)
  case refine_2 =>
    have hke : k = cs.length := by omega
    subst hke
    repeat' (first | refine T_assign rfl rfl ?_ | refine T_nil0 ?_ | refine E_seq ?_ | refine E_region ?_ | refine E_exit rfl ?_ | refine E_ret1 rfl rfl ?_)
    exact ⟨vb_t ⟨hok, hlen, all_of_getD hall, hs.2⟩, rfl⟩
  have hx := hw3 _ (getD_mem (xs := ws) (k := k) (by omega))
  have hq := Int.le_ediv_iff_mul_le (a := cs.getD k 0) (b := width - dotN cs ws k) (c := ws.getD k 0) (by omega)
  have hd : dotN cs ws (k + 1) = dotN cs ws k + cs.getD k 0 * ws.getD k 0 := rfl
  repeat (first | refine T_move rfl rfl ?_ | refine T_assign rfl rfl ?_ | refine T_nil0 ?_ | refine E_seq ?_ | refine E_region ?_ | refine T_cmp rfl rfl rfl rfl ?_ | refine E_skip ?_ | refine E_blockS ?_ | refine T_indexN tyI rfl rfl rfl (by assumption) (by omega) ?_ | refine T_loadI Try.isAgg3 rfl rfl (by assumption) (by omega) ?_)
  refine T_guard rfl rfl (fun h5 => ?_) (fun h5 => ?_)
  · repeat' (first | refine T_assign rfl rfl ?_ | refine T_nil0 ?_ | refine E_seq ?_ | refine E_region ?_ | refine T_off rfl rfl rfl ?_ | refine T_pick_true rfl rfl rfl ?_ | refine E_cond_true rfl ?_ | refine E_ret1 rfl rfl ?_)
    exact ⟨vb_f fun h => by have := h.2.2.1 _ (getD_mem (xs := cs) (k := k) (by omega)); omega, rfl⟩
  have hm0 : 0 ≤ cs.getD k 0 * ws.getD k 0 := Int.mul_nonneg (by omega) (by omega)
  repeat (first | refine T_move rfl rfl ?_ | refine T_on rfl rfl ?_ | refine T_indexN tyI rfl rfl rfl (by assumption) (by omega) ?_ | refine T_loadI Try.isAgg3 rfl rfl (by assumption) (by omega) ?_)
  refine T_quo rfl rfl rfl (by omega) ?_
  repeat (first | refine T_nil0 ?_ | refine T_cmp rfl rfl rfl rfl ?_ | refine T_on rfl rfl ?_ | refine T_pick_false rfl rfl rfl ?_)
  refine E_cond_if rfl (fun h6 => ?_) (fun h6 => ?_)
  · repeat' (first | refine T_assign rfl rfl ?_ | refine T_nil0 ?_ | refine E_seq ?_ | refine E_region ?_ | refine E_ret1 rfl rfl ?_)
    exact ⟨vb_f fun h => by have := h.part (k := k + 1) (by omega); omega, rfl⟩
  have hm1 := hq.1 (by omega)
  repeat (first | refine T_move rfl rfl ?_ | refine E_region ?_ | refine E_skip ?_ | refine T_indexN tyI rfl rfl rfl (by assumption) (by omega) ?_ | refine T_loadI Try.isAgg3 rfl rfl (by assumption) (by omega) ?_)
  refine T_mul rfl rfl rfl (by omega) ?_
  repeat (first | refine T_move rfl rfl ?_ | refine T_assign rfl rfl ?_ | refine T_nil0 ?_ | refine E_region ?_ | refine T_add rfl rfl rfl (by omega) ?_ | refine T_sub rfl rfl rfl (by omega) ?_ | refine E_inBlock ?_)
  refine IH (k + 1) w _ ⟨rfl, by omega, ?_, by omega, by omega⟩ (by omega) ⟨rfl, slotI rfl (by omega), rfl, rfl, rfl, trivial⟩
  intro j hj
  by_cases e : j = k
  · subst e; omega
  · exact hall j (by omega)

theorem validPattern_spec (v u : Value) (width : Int) (ws cs : List Int) (w : World) (hI : Ints w.heap v ws) (hJ : Ints w.heap u cs) (hl : ws.length ≤ 1048576) :
    Ret Try.prog 52 #[.int .i64 width, v, u] w (fun r w' => r = .bool (decide (okP width ws cs)) ∧ Below w.heap.size w w') := by
  refine Ret_of (args := [_, _, _]) Try.call52 Try.func52 rfl _ Try.ntmps52 rfl ?_
  repeat (first | refine T_move rfl rfl ?_ | refine T_assign rfl rfl ?_ | refine T_nil0 ?_ | refine E_seq ?_ | refine E_region ?_)
  refine T_call rfl rfl (validWidths_spec v width ws w hI hl) (fun r w1 hr => ?_)
  obtain ⟨rfl, hB⟩ := hr
  have hI := hI.later hB
  have hJ := hJ.later hB
  repeat (first | refine T_move rfl rfl ?_)
  refine T_guard rfl rfl (fun h1 => ?_) (fun h1 => ?_)
  case refine_2 =>
    repeat' (first | refine T_move rfl rfl ?_ | refine T_assign rfl rfl ?_ | refine T_nil0 ?_ | refine T_off rfl rfl rfl ?_ | refine T_pick_false rfl rfl rfl ?_ | refine E_ret1 rfl rfl ?_)
    exact ⟨vb_f fun h => h1 h.1, hB⟩
  have hwl := h1.2.1
  have hw := h1.1
  repeat (first | refine T_move rfl rfl ?_ | refine T_cmp rfl rfl rfl rfl ?_ | refine T_on rfl rfl ?_ | refine T_pick_true rfl rfl rfl ?_ | refine T_len tyI rfl rfl (Ints.len (by assumption)) ?_)
  refine T_guard rfl rfl (fun h2 => ?_) (fun h2 => ?_)
  case refine_2 =>
    repeat' (first | refine T_move rfl rfl ?_ | refine T_assign rfl rfl ?_ | refine T_nil0 ?_ | refine T_off rfl rfl rfl ?_ | refine T_pick_false rfl rfl rfl ?_ | refine E_ret1 rfl rfl ?_)
    exact ⟨vb_f fun h => h2 (by rw [h.2.1]), hB⟩
  repeat (first | refine T_move rfl rfl ?_ | refine T_on rfl rfl ?_)
  refine T_call rfl rfl (allIn_spec u cs 0 width w1 hJ (by omega)) (fun r w2 hr => ?_)
  obtain ⟨rfl, rfl⟩ := hr
  repeat (first | refine T_move rfl rfl ?_ | refine T_pick_true rfl rfl rfl ?_)
  refine T_guard rfl rfl (fun h3 => ?_) (fun h3 => ?_)
  case refine_2 =>
    repeat' (first | refine T_assign rfl rfl ?_ | refine T_nil0 ?_ | refine T_off rfl rfl rfl ?_ | refine T_pick_false rfl rfl rfl ?_ | refine E_ret1 rfl rfl ?_)
    exact ⟨vb_f fun h => h3 h.count, hB⟩
  repeat (first | refine T_move rfl rfl ?_ | refine T_on rfl rfl ?_)
  refine T_call rfl rfl (used_spec v u ws cs w1 hI hJ (by omega) (by omega) (fun x hx => by have := h3 x hx; omega) (fun x hx => by have := h1.2.2.1 x hx; omega)) (fun r w2 hr => ?_)
  obtain ⟨rfl, hb⟩ := hr
  repeat' (first | refine T_move rfl rfl ?_ | refine T_assign rfl rfl ?_ | refine T_nil0 ?_ | refine T_cmp rfl rfl rfl rfl ?_ | refine T_on rfl rfl ?_ | refine T_pick_true rfl rfl rfl ?_ | refine E_ret1 rfl rfl ?_)
  exact ⟨vb_iff ⟨fun h => ⟨h1, by omega, fun x hx => (h3 x hx).1, h⟩, fun h => h.2.2.2⟩, hB.step hB.size hb⟩

theorem sValidPattern_spec (v u : Value) (width : Int) (ws cs : List Int) (w : World) (hI : Ints w.heap v ws) (hJ : Ints w.heap u cs) (hl : ws.length ≤ 1048576) :
    Ret Try.prog 33 #[.int .i64 width, v, u] w (fun r w' => r = .bool (decide (okP width ws cs)) ∧ Below w.heap.size w w') := by
  refine Ret_of (args := [_, _, _]) Try.call33 Try.func33 rfl _ Try.ntmps33 rfl ?_
  repeat (first | refine T_move rfl rfl ?_ | refine T_assign rfl rfl ?_ | refine T_nil0 ?_ | refine E_seq ?_ | refine E_region ?_)
  refine T_call rfl rfl (validPattern_spec v u width ws cs w hI hJ hl) (fun r w1 hr => ?_)
  obtain ⟨rfl, hB⟩ := hr
  repeat' (first | refine T_assign rfl rfl ?_ | refine T_nil0 ?_ | refine E_ret1 rfl rfl ?_)
  exact ⟨rfl, hB⟩

theorem TrimOf_spec (v u : Value) (width : Int) (ws cs : List Int) (w : World) (hI : Ints w.heap v ws) (hJ : Ints w.heap u cs) :
    Ret Try.prog 21 #[.int .i64 width, v, u] w (fun r w' => r = .int .i64 (trimF width ws cs) ∧ w = w') := by
  refine Ret_of (args := [_, _, _]) Try.call21 Try.func21 rfl _ Try.ntmps21 rfl ?_
  repeat (first | refine T_move rfl rfl ?_ | refine T_assign rfl rfl ?_ | refine T_nil0 ?_ | refine E_seq ?_ | refine E_region ?_)
  refine T_call rfl rfl (ValidPattern_spec v u width ws cs w hI hJ) (fun r w1 hr => ?_)
  obtain ⟨rfl, rfl⟩ := hr
  repeat (first | refine T_nil0 ?_ | refine T_not rfl rfl ?_)
  refine E_cond_if rfl (fun h1 => ?_) (fun h1 => ?_)
  · repeat' (first | refine T_assign rfl rfl ?_ | refine T_nil0 ?_ | refine E_seq ?_ | refine E_region ?_ | refine E_ret1 rfl rfl ?_)
    exact ⟨by unfold trimF; rw [if_neg h1], rfl⟩
  have hok : okP width ws cs := Decidable.not_not.1 h1
  have hwl := hok.1.2.1
  have hw := hok.1.1
  have hlen := hok.2.1
  have hF : trimF width ws cs = width - dotN cs ws cs.length := by unfold trimF; rw [if_pos hok]
  repeat (first | refine T_move rfl rfl ?_ | refine T_assign rfl rfl ?_ | refine T_nil0 ?_ | refine E_seq ?_ | refine E_region ?_ | refine E_skip ?_ | refine T_len tyI rfl rfl (Ints.len (by assumption)) ?_)
  refine E_loop (σ := Nat) (fun k => [(1, v), (7, .int .i64 (width - dotN cs ws k)), (16, u), (17, .int .i64 cs.length), (18, .int .i64 k)]) (fun k w' => w = w' ∧ k ≤ cs.length) (fun k => cs.length - k) 0 ⟨rfl, by omega⟩ ⟨rfl, slotI rfl (by simp [dotN]), rfl, rfl, rfl, trivial⟩ ?_
  rintro k w' ⟨rfl, hk⟩ IH
  repeat (first | refine T_nil0 ?_ | refine E_seq ?_ | refine E_region ?_ | refine T_cmp rfl rfl rfl rfl ?_)
  refine E_cond_if rfl (fun hp => ?_) (fun hp => ?_)
  case refine_2 =>
    have hke : k = cs.length := by omega
    subst hke
    repeat' (first | refine T_move rfl rfl ?_ | refine T_assign rfl rfl ?_ | refine T_nil0 ?_ | refine E_seq ?_ | refine E_region ?_ | refine E_exit rfl ?_ | refine E_ret1 rfl rfl ?_)
    exact ⟨by rw [hF], rfl⟩
  have h1 := hok.part (k := k) (by omega)
  have h2 := hok.part (k := k + 1) (by omega)
  have hd : dotN cs ws (k + 1) = dotN cs ws k + cs.getD k 0 * ws.getD k 0 := rfl
  have h3 := dotN_nonneg hok.2.2.1 hok.pos k
  repeat (first | refine T_move rfl rfl ?_ | refine T_assign rfl rfl ?_ | refine T_nil0 ?_ | refine E_seq ?_ | refine E_region ?_ | refine E_skip ?_ | refine E_blockS ?_ | refine T_indexN tyI rfl rfl rfl (by assumption) (by omega) ?_ | refine T_loadI Try.isAgg3 rfl rfl (by assumption) (by omega) ?_)
  refine T_mul rfl rfl rfl (by omega) ?_
  repeat (first | refine T_move rfl rfl ?_ | refine T_assign rfl rfl ?_ | refine T_nil0 ?_ | refine E_region ?_ | refine T_add rfl rfl rfl (by omega) ?_ | refine T_sub rfl rfl rfl (by omega) ?_ | refine E_inBlock ?_)
  exact IH (k + 1) w _ ⟨rfl, by omega⟩ (by omega) ⟨rfl, slotI rfl (by omega), rfl, rfl, rfl, trivial⟩

theorem sTrimOf_spec (v u : Value) (width : Int) (ws cs : List Int) (w : World) (hI : Ints w.heap v ws) (hJ : Ints w.heap u cs) (hl : ws.length ≤ 1048576) :
    Ret Try.prog 22 #[.int .i64 width, v, u] w (fun r w' => r = .int .i64 (trimF width ws cs) ∧ Below w.heap.size w w') := by
  refine Ret_of (args := [_, _, _]) Try.call22 Try.func22 rfl _ Try.ntmps22 rfl ?_
  repeat (first | refine T_move rfl rfl ?_ | refine T_assign rfl rfl ?_ | refine T_nil0 ?_ | refine E_seq ?_ | refine E_region ?_)
  refine T_call rfl rfl (validPattern_spec v u width ws cs w hI hJ hl) (fun r w1 hr => ?_)
  obtain ⟨rfl, hB⟩ := hr
  repeat (first | refine T_nil0 ?_ | refine T_not rfl rfl ?_)
  refine E_cond_if rfl (fun h1 => ?_) (fun h1 => ?_)
  · repeat' (first | refine T_assign rfl rfl ?_ | refine T_nil0 ?_ | refine E_seq ?_ | refine E_region ?_ | refine E_ret1 rfl rfl ?_)
    exact ⟨by unfold trimF; rw [if_neg h1], hB⟩
  have hok : okP width ws cs := Decidable.not_not.1 h1
  have hwl := hok.1.2.1
  have hw := hok.1.1
  have hlen := hok.2.1
  have hF : trimF width ws cs = width - dotN cs ws cs.length := by unfold trimF; rw [if_pos hok]
  have hpt := hok.part (k := cs.length) (Nat.le_refl _)
  repeat (first | refine T_move rfl rfl ?_ | refine E_seq ?_ | refine E_region ?_ | refine E_skip ?_)
  refine T_call rfl rfl (used_spec v u ws cs w1 (hI.later hB) (hJ.later hB) (by omega) (by omega) (fun x hx => by have := hok.count x hx; omega) (fun x hx => by have := hok.1.2.2.1 x hx; omega)) (fun r w2 hr => ?_)
  obtain ⟨rfl, hb⟩ := hr
  repeat' (first | refine T_assign rfl rfl ?_ | refine T_nil0 ?_ | refine T_sub rfl rfl rfl (by omega) ?_ | refine E_ret1 rfl rfl ?_)
  exact ⟨by rw [hF], hB.step hB.size hb⟩
end Go.Proofs.Ytjpbmjigmbfcfaa
