/-
  Contracts: the program's least number of sets. Conditions: the arguments lie in memory as the contract says.
-/
import Derived.Test.YtjpbmjigmbfcfaaC3U
import Derived.Test.YtjpbmjigmbfcfaaC3d
import Derived.Test.YtjpbmjigmbfcfaaLibS
namespace Go.Proofs.Ytjpbmjigmbfcfaa
open Go Go.PR Go.RowKit attribute [local irreducible] T E Ints Sl Bools OwnI OwnB OwnR Recs Box Ret

theorem countsAt_spec (v : Value) (x : Int) (ns : List Int) (w : World) (hI : Ints w.heap v ns) (hn : ∀ n ∈ ns, 0 ≤ n ∧ n ≤ 20) (hx : 0 ≤ x ∧ x ≤ 100000000) (hl : ns.length ≤ 1000) :
    Ret Try.prog 70 #[.int .i64 x, v] w (fun r w' => OwnI w' w.heap.size 3 r (digN ns x) ∧ Below w.heap.size w w') := by
  refine Ret_of (args := [_, _]) Try.call70 Try.func70 rfl _ Try.ntmps70 rfl ?_
  repeat (first | refine T_move rfl rfl ?_ | refine T_assign rfl rfl ?_ | refine T_nil0 ?_ | refine E_seq ?_ | refine E_region ?_ | refine T_len tyI rfl rfl (Ints.len (by assumption)) ?_)
  refine T_makeI tyI rfl rfl rfl (by omega) (fun ov w1 hO _ _ hB => ?_)
  simp only [Int.toNat_natCast] at hO
  have hI1 := hI.later hB
  repeat (first | refine T_move rfl rfl ?_ | refine T_assign rfl rfl ?_ | refine T_nil0 ?_ | refine E_seq ?_ | refine E_region ?_ | refine T_len tyI rfl rfl (Ints.len (by assumption)) ?_)
  refine E_loop (σ := Nat × List Int × Int) (fun ⟨i, cs, y⟩ => [(0, .int .i64 y), (1, v), (5, ov), (11, v), (12, .int .i64 ns.length), (13, .int .i64 (i : Int))])
    (fun ⟨i, cs, y⟩ w' => i ≤ ns.length ∧ cs.length = ns.length ∧ (0 ≤ y ∧ y ≤ 100000000) ∧ digN ns x = cs.take i ++ digN (ns.drop i) y ∧ OwnI w' w.heap.size 3 ov cs ∧ Below w.heap.size w w') (fun ⟨i, _⟩ => ns.length - i) (0, _, x)
    ⟨by omega, by simp, hx, by simp, hO, hB⟩ ⟨rfl, rfl, rfl, rfl, rfl, rfl, trivial⟩ ?_
  clear hO hB hI1
  rintro ⟨i, cs, y⟩ w2 ⟨hi, hcl, hy, hd, hO, hB⟩ IH
  have hI2 := hI.later hB
  have hOI := hO.ints
  repeat (first | refine T_nil0 ?_ | refine E_seq ?_ | refine E_region ?_ | refine T_cmp rfl rfl rfl rfl ?_)
  refine E_cond_if rfl (fun hp => ?_) (fun hp => ?_)
  case refine_2 =>
    have e : i = ns.length := by omega
    subst e
    have e2 : digN ns x = cs := by rw [hd, List.drop_length, ← hcl, List.take_length]; simp [digN]
    repeat' (first | refine T_move rfl rfl ?_ | refine T_assign rfl rfl ?_ | refine T_nil0 ?_ | refine E_seq ?_ | refine E_region ?_ | refine E_exit rfl ?_ | refine E_ret1 rfl rfl ?_)
    rw [e2]
    exact ⟨hO, hB⟩
  have hil : i < ns.length := by omega
  have hni := hn _ (getD_mem (xs := ns) (k := i) hil)
  have hm0 := Int.emod_nonneg y (show ns.getD i 0 + 1 ≠ 0 by omega)
  have hq0 : 0 ≤ y / (ns.getD i 0 + 1) := Int.ediv_nonneg hy.1 (by omega)
  have hq1 : y / (ns.getD i 0 + 1) ≤ y := Int.ediv_le_self _ hy.1
  repeat (first | refine T_move rfl rfl ?_ | refine T_assign rfl rfl ?_ | refine T_nil0 ?_ | refine E_seq ?_ | refine E_region ?_ | refine T_add rfl rfl rfl (by omega) ?_ | refine E_skip ?_ | refine E_blockS ?_ | refine T_indexN tyI rfl rfl rfl (by assumption) (by omega) ?_ | refine T_loadI Try.isAgg3 rfl rfl (by assumption) (by omega) ?_)
  refine T_rem rfl rfl rfl (by omega) ?_
  repeat (first | refine T_indexN tyI rfl rfl rfl (by assumption) (by omega) ?_)
  refine T_storeI Try.sizeOf3 rfl rfl hO (by omega) (fun w3 hO3 hg3 hs3 => ?_)
  have hB3 := hB.own hg3 hO.blk (Nat.le_refl _) hB.size
  have hI3 := hI.later hB3
  repeat (first | refine T_move rfl rfl ?_ | refine T_nil0 ?_ | refine E_region ?_ | refine T_add rfl rfl rfl (by omega) ?_)
  refine T_quo rfl rfl rfl (by omega) ?_
  repeat (first | refine T_move rfl rfl ?_ | refine T_assign rfl rfl ?_ | refine T_nil0 ?_ | refine E_region ?_ | refine T_add rfl rfl rfl (by omega) ?_ | refine E_inBlock ?_)
  refine IH (i + 1, cs.set i (y % (ns.getD i 0 + 1)), y / (ns.getD i 0 + 1)) w3 _ ⟨by omega, by simp; omega, by omega, ?_, hO3, hB3⟩ (by show ns.length - (i + 1) < ns.length - i; omega) ⟨rfl, rfl, rfl, rfl, rfl, rfl, trivial⟩
  rw [hd, drop_cons hil, digN]
  have e : (cs.set i (y % (ns.getD i 0 + 1))).take (i + 1) = cs.take i ++ [y % (ns.getD i 0 + 1)] := by
    rw [take_snoc (by simp; omega), List.take_set_of_le (Nat.le_refl _), getD_set (by omega), if_pos rfl]
  rw [e]
  simp

theorem atMost_spec (v u : Value) (cs ds : List Int) (w : World) (hI : Ints w.heap v cs) (hJ : Ints w.heap u ds) (hl : cs.length ≤ ds.length) (hl2 : cs.length ≤ 1000) :
    Ret Try.prog 71 #[v, u] w (fun r w' => r = .bool (decide (∀ i, i < cs.length → cs.getD i 0 ≤ ds.getD i 0)) ∧ w = w') := by
  refine Ret_of (args := [_, _]) Try.call71 Try.func71 rfl _ Try.ntmps71 rfl ?_
  repeat (first | refine T_move rfl rfl ?_ | refine T_assign rfl rfl ?_ | refine T_nil0 ?_ | refine E_seq ?_ | refine E_region ?_ | refine T_len tyI rfl rfl (Ints.len (by assumption)) ?_)
  refine E_loop (σ := Nat) (fun i => [(0, v), (1, u), (7, v), (8, .int .i64 cs.length), (9, .int .i64 (i : Int))])
    (fun i w' => i ≤ cs.length ∧ (∀ j, j < i → cs.getD j 0 ≤ ds.getD j 0) ∧ w = w') (fun i => cs.length - i) 0
    ⟨by omega, by omega, rfl⟩ ⟨rfl, rfl, rfl, rfl, rfl, trivial⟩ ?_
  rintro i w1 ⟨hi, hall, rfl⟩ IH
  repeat (first | refine T_nil0 ?_ | refine E_seq ?_ | refine E_region ?_ | refine T_cmp rfl rfl rfl rfl ?_)
  refine E_cond_if rfl (fun hp => ?_) (fun hp => ?_)
  case refine_2 =>
    repeat' (first | refine T_assign rfl rfl ?_ | refine T_nil0 ?_ | refine E_seq ?_ | refine E_region ?_ | refine E_exit rfl ?_ | refine E_ret1 rfl rfl ?_)
    exact ⟨vb_t (fun j hj => hall j (by omega)), rfl⟩
  have hil : i < cs.length := by omega
  repeat (first | refine T_move rfl rfl ?_ | refine T_assign rfl rfl ?_ | refine T_nil0 ?_ | refine E_seq ?_ | refine E_region ?_ | refine T_cmp rfl rfl rfl rfl ?_ | refine E_skip ?_ | refine E_blockS ?_ | refine T_indexN tyI rfl rfl rfl (by assumption) (by omega) ?_ | refine T_loadI Try.isAgg3 rfl rfl (by assumption) (by omega) ?_)
  refine E_cond_if rfl (fun h2 => ?_) (fun h2 => ?_)
  · repeat' (first | refine T_assign rfl rfl ?_ | refine T_nil0 ?_ | refine E_seq ?_ | refine E_region ?_ | refine E_ret1 rfl rfl ?_)
    exact ⟨vb_f (fun h => by have := h i hil; omega), rfl⟩
  repeat (first | refine T_move rfl rfl ?_ | refine T_nil0 ?_ | refine E_region ?_ | refine T_add rfl rfl rfl (by omega) ?_ | refine E_skip ?_ | refine E_inBlock ?_)
  refine IH (i + 1) w _ ⟨by omega, fun j hj => ?_, rfl⟩ (by omega) ⟨rfl, rfl, rfl, rfl, rfl, trivial⟩
  by_cases e : j = i
  · subst e; omega
  · exact hall j (by omega)

set_option maxHeartbeats 2000000 in
theorem FewestSets_spec (v u : Value) (width : Int) (ws ns : List Int) (w : World) (hI : Ints w.heap v ws) (hJ : Ints w.heap u ns) :
    Ret Try.prog 45 #[.int .i64 width, v, u] w (fun r w' => ∃ q, r = .int .i64 q ∧ isFew width ws ns q ∧ Below w.heap.size w w') := by
  have no : ¬ (okN width ws ns ∧ width ≤ 24 ∧ ns.sum ≤ 8) → isFew width ws ns (-1) := fun h => ⟨fun c => absurd c h, fun _ => rfl⟩
  refine Ret_of (args := [_, _, _]) Try.call45 Try.func45 rfl _ Try.ntmps45 rfl ?_
  repeat (first | refine T_move rfl rfl ?_ | refine T_assign rfl rfl ?_ | refine T_nil0 ?_ | refine E_seq ?_ | refine E_region ?_)
  refine T_call rfl rfl (ValidWants_spec v u width ws ns w hI hJ) (fun r w1 hr => ?_)
  obtain ⟨rfl, rfl⟩ := hr
  repeat (first | refine T_move rfl rfl ?_ | refine T_not rfl rfl ?_)
  refine T_guard rfl rfl (fun g1 => ?_) (fun g1 => ?_)
  · repeat' (first | refine T_move rfl rfl ?_ | refine T_assign rfl rfl ?_ | refine T_nil0 ?_ | refine E_seq ?_ | refine E_region ?_ | refine T_off rfl rfl rfl ?_ | refine T_pick_true rfl rfl rfl ?_ | refine E_cond_true rfl ?_ | refine E_ret1 rfl rfl ?_)
    exact ⟨_, rfl, no (fun h => g1 h.1), Below.refl _ _⟩
  have hok := Decidable.not_not.1 g1
  repeat (first | refine T_move rfl rfl ?_ | refine T_cmp rfl rfl rfl rfl ?_ | refine T_on rfl rfl ?_ | refine T_pick_false rfl rfl rfl ?_)
  refine T_guard rfl rfl (fun g2 => ?_) (fun g2 => ?_)
  · repeat' (first | refine T_assign rfl rfl ?_ | refine T_nil0 ?_ | refine E_seq ?_ | refine E_region ?_ | refine T_off rfl rfl rfl ?_ | refine T_pick_true rfl rfl rfl ?_ | refine E_cond_true rfl ?_ | refine E_ret1 rfl rfl ?_)
    exact ⟨_, rfl, no (fun h => by have := h.2.1; omega), Below.refl _ _⟩
  have hW := hok.1
  have hwl := hW.2.1
  have hnl := hok.2.1
  have hnb := hok.2.2.1
  have hn0 : ∀ n ∈ ns, 0 ≤ n := fun n hn => (hnb n hn).1
  repeat (first | refine T_move rfl rfl ?_ | refine T_on rfl rfl ?_)
  refine T_call rfl rfl (sumOf_spec u ns w hJ (by omega) (fun x hx => by have := hnb x hx; omega)) (fun r w1 hr => ?_)
  obtain ⟨rfl, rfl⟩ := hr
  repeat (first | refine T_nil0 ?_ | refine T_cmp rfl rfl rfl rfl ?_ | refine T_on rfl rfl ?_ | refine T_pick_false rfl rfl rfl ?_)
  refine E_cond_if rfl (fun g3 => ?_) (fun g3 => ?_)
  · repeat' (first | refine T_assign rfl rfl ?_ | refine T_nil0 ?_ | refine E_seq ?_ | refine E_region ?_ | refine E_ret1 rfl rfl ?_)
    exact ⟨_, rfl, no (fun h => by have := h.2.2; omega), Below.refl _ _⟩
  have hsmall := prodN_small hnb (by omega)
  have hall1 := allN_pos hn0
  have hallb := allN_bound hnb (by omega)
  have hpa := prodN_all ns
  repeat (first | refine T_move rfl rfl ?_ | refine T_assign rfl rfl ?_ | refine T_nil0 ?_ | refine E_seq ?_ | refine E_region ?_ | refine E_skip ?_ | refine T_len tyI rfl rfl (Ints.len (by assumption)) ?_)
  refine E_loop (σ := Nat) (fun i => [(0, .int .i64 width), (1, v), (2, u), (7, .int .i64 (prodN ns i)), (29, u), (30, .int .i64 ns.length), (31, .int .i64 (i : Int))])
    (fun i w' => i ≤ ns.length ∧ w = w') (fun i => ns.length - i) 0
    ⟨by omega, rfl⟩ ⟨rfl, rfl, rfl, rfl, rfl, rfl, rfl, trivial⟩ ?_
  rintro i w1 ⟨hi, rfl⟩ IH
  have hsi := hsmall i hi
  repeat (first | refine T_nil0 ?_ | refine E_seq ?_ | refine E_region ?_ | refine T_cmp rfl rfl rfl rfl ?_)
  refine E_cond_if rfl (fun hp => ?_) (fun hp => ?_)
  case refine_1 =>
    have hil : i < ns.length := by omega
    have hs1 := hsmall (i + 1) (by omega)
    have e1 : prodN ns (i + 1) = prodN ns i * (ns.getD i 0 + 1) := rfl
    have hni := hnb _ (getD_mem (xs := ns) (k := i) hil)
    repeat (first | refine T_move rfl rfl ?_ | refine T_assign rfl rfl ?_ | refine T_nil0 ?_ | refine E_seq ?_ | refine E_region ?_ | refine T_add rfl rfl rfl (by omega) ?_ | refine E_skip ?_ | refine E_blockS ?_ | refine T_indexN tyI rfl rfl rfl (by assumption) (by omega) ?_ | refine T_loadI Try.isAgg3 rfl rfl (by assumption) (by omega) ?_)
    refine T_mul rfl rfl rfl (by omega) ?_
    repeat (first | refine T_move rfl rfl ?_ | refine T_assign rfl rfl ?_ | refine T_nil0 ?_ | refine E_region ?_ | refine T_add rfl rfl rfl (by omega) ?_ | refine E_inBlock ?_)
    exact IH (i + 1) w _ ⟨by omega, rfl⟩ (by omega) ⟨rfl, rfl, rfl, rfl, rfl, rfl, rfl, trivial⟩
  have e : i = ns.length := by omega
  subst e
  rw [hpa]
  have hself := num_self (ns := ns)
  have hnd := fun x h0 h1 => num_dig (ns := ns) (x := x) hn0 h0 h1
  have hdl := digN_length ns
  generalize hA : allN ns = A at *
  repeat (first | refine T_move rfl rfl ?_ | refine E_seq ?_ | refine E_region ?_ | refine E_exit rfl ?_)
  refine T_makeI tyI rfl rfl rfl (by omega) (fun tv w2 hO _ _ hB => ?_)
  have hTb := hO.blk
  repeat (first | refine T_assign rfl rfl ?_ | refine T_nil0 ?_ | refine E_seq ?_ | refine E_region ?_)
  refine E_loop (σ := Nat × List Int) (fun ⟨s, T⟩ => [(0, .int .i64 width), (1, v), (2, u), (7, .int .i64 A), (10, tv), (11, .int .i64 (s : Int))])
    (fun ⟨s, T⟩ w' => 1 ≤ s ∧ (s : Int) ≤ A ∧ T.length = A.toNat ∧ (∀ j, j < s → ∃ k : Nat, T.getD j 0 = k ∧ k ≤ 8 ∧ least width ws k (wantF (digN ns j))) ∧ OwnI w' w.heap.size 3 tv T ∧ Below w.heap.size w w' ∧ w2.heap.size ≤ w'.heap.size) (fun ⟨s, _⟩ => A.toNat - s) (1, _)
    ⟨Nat.le_refl _, by omega, by simp, fun j hj => ⟨0, ?_, by omega, ⟨fun q => ?_, fun q hq => by omega⟩⟩, hO, hB, Nat.le_refl _⟩ ⟨rfl, rfl, rfl, rfl, rfl, rfl, trivial⟩ ?_
  · rw [getD_replicate]; rfl
  · have : j = 0 := by omega
    subst this
    show (digN ns ((0 : Nat) : Int)).getD q 0 ≤ 0
    rw [show ((0 : Nat) : Int) = 0 from rfl, digN_zero]; exact Int.le_refl _
  clear hO hB
  rintro ⟨s, T⟩ w3 ⟨hs1, hsA, hTl, hT, hO, hB, hz3⟩ IHs
  have hI3 := hI.later hB
  have hJ3 := hJ.later hB
  have hOI := hO.ints
  repeat (first | refine T_move rfl rfl ?_ | refine T_nil0 ?_ | refine E_seq ?_ | refine E_region ?_ | refine T_cmp rfl rfl rfl rfl ?_)
  refine E_cond_if rfl (fun hp2 => ?_) (fun hp2 => ?_)
  case refine_2 =>
    obtain ⟨k, hk, hk8, hlk⟩ := hT (A.toNat - 1) (by omega)
    have e3 : digN ns ((A.toNat - 1 : Nat) : Int) = ns := by
      rw [show ((A.toNat - 1 : Nat) : Int) = numN ns ns by omega]
      exact dig_num rfl (fun j hj => ⟨hn0 _ (getD_mem hj), Int.le_refl _⟩)
    rw [e3] at hlk
    have e4 : (A - 1).toNat = A.toNat - 1 := by omega
    repeat (first | refine T_move rfl rfl ?_ | refine T_assign rfl rfl ?_ | refine T_nil0 ?_ | refine E_seq ?_ | refine E_region ?_ | refine T_sub rfl rfl rfl (by omega) ?_ | refine E_exit rfl ?_ | refine T_indexI tyI rfl rfl rfl (by assumption) (by omega) ?_ | refine T_loadI Try.isAgg3 rfl rfl (by assumption) (by omega) ?_)
    rw [e4, hk]
    repeat' (first | refine E_ret1 rfl rfl ?_)
    exact ⟨_, rfl, ⟨fun _ => ⟨k, rfl, hlk⟩, fun h => absurd ⟨hok, by omega, by omega⟩ h⟩, hB⟩
  repeat (first | refine T_move rfl rfl ?_ | refine E_seq ?_ | refine E_region ?_ | refine E_skip ?_ | refine E_blockS ?_)
  refine T_call rfl rfl (countsAt_spec u s ns w3 hJ3 hnb (by omega) (by omega)) (fun wv w4 hr => ?_)
  obtain ⟨hWv, hb⟩ := hr
  have hWb := hWv.blk
  have hO := hO.later hb
  have hB := hB.step hB.size hb
  have hz4 := hb.size
  clear hb
  have hWl := hdl (s : Int)
  have hWr := fun i hi => digN_range (ns := ns) (s : Int) hn0 i hi
  have hWn := hnd (s : Int) (by omega) (by omega)
  have hWz : (digN ns (s : Int)).sum = 0 → False := fun h0 => by
    have h1 := (cov_zero (width := width) (ws := ws) (w := digN ns (s : Int)) (fun x hx => by
      obtain ⟨q, hq, rfl⟩ := List.getElem_of_mem hx
      have := hWr q (by omega)
      rw [List.getD_eq_getElem?_getD, List.getElem?_eq_getElem hq] at this
      exact this.1)).2 h0
    have h2 : digN ns (s : Int) = digN ns 0 := eq_of_getD (by rw [hdl, hdl]) (fun j hj => by
      have h3 := h1 j
      have h4 := hWr j (by omega)
      rw [digN_zero]
      have h3 : (digN ns (s : Int)).getD j 0 ≤ 0 := h3
      omega)
    rw [h2, hnd 0 (by omega) (by omega)] at hWn
    omega
  generalize hWdef : digN ns (s : Int) = W at *
  have hWnn : ∀ x ∈ W, 0 ≤ x := fun x hx => by
    obtain ⟨q, hq, rfl⟩ := List.getElem_of_mem hx
    have := hWr q (by omega)
    rw [List.getD_eq_getElem?_getD, List.getElem?_eq_getElem hq] at this
    exact this.1
  have hWs : W.sum ≤ 8 := by
    have := sum_le_of (xs := W) (ys := ns) hWl (fun i hi => (hWr i (by omega)).2)
    omega
  repeat (first | refine T_move rfl rfl ?_ | refine T_assign rfl rfl ?_ | refine T_nil0 ?_ | refine E_seq ?_ | refine E_region ?_ | refine T_indexN tyI rfl rfl rfl (by assumption) (by omega) ?_)
  refine T_storeI Try.sizeOf3 rfl rfl hO (by omega) (fun w5 hO5 hg5 hs5 => ?_)
  have hWv := hWv.kept hg5 (Blk.ne hWb hTb (.inr (by omega)))
  have hB := hB.own hg5 hTb (Nat.le_refl _) hB.size
  clear hg5 hO hOI hI3 hJ3
  repeat (first | refine T_assign rfl rfl ?_ | refine T_nil0 ?_ | refine E_seq ?_ | refine E_region ?_)
  refine E_loop (σ := Nat × Nat) (fun ⟨c, b⟩ => [(0, .int .i64 width), (1, v), (2, u), (7, .int .i64 A), (10, tv), (11, .int .i64 (s : Int)), (12, wv), (13, .int .i64 (c : Int))])
    (fun ⟨c, b⟩ w' => 1 ≤ c ∧ c ≤ s + 1 ∧ b ≤ 8 ∧ (b = 8 ∨ ∃ C k, okP width ws C ∧ b = k + 1 ∧ cov width ws k (wantF (subL W C))) ∧ (∀ c' : Nat, 1 ≤ c' → c' < c → okP width ws (digN ns c') → (∀ i, i < ns.length → (digN ns c').getD i 0 ≤ W.getD i 0) → ∀ k, least width ws k (wantF (subL W (digN ns c'))) → b ≤ k + 1) ∧ OwnI w' w.heap.size 3 tv (T.set s b) ∧ OwnI w' w3.heap.size 3 wv W ∧ Below w.heap.size w w' ∧ w2.heap.size ≤ w'.heap.size) (fun ⟨c, _⟩ => s + 1 - c) (1, 8)
    ⟨by omega, by omega, by omega, .inl rfl, by omega, hO5, hWv, hB, by omega⟩ ⟨rfl, rfl, rfl, rfl, rfl, rfl, rfl, rfl, trivial⟩ ?_
  clear hO5 hWv hB
  rintro ⟨c, b⟩ w6 ⟨hc1, hcs, hb8, hbv, hbm, hO, hWv, hB, hz6⟩ IHc
  have hI6 := hI.later hB
  have hJ6 := hJ.later hB
  have hOI := hO.ints
  have hWI := hWv.ints
  repeat (first | refine T_move rfl rfl ?_ | refine T_nil0 ?_ | refine E_seq ?_ | refine E_region ?_ | refine T_cmp rfl rfl rfl rfl ?_)
  refine E_cond_if rfl (fun hp3 => ?_) (fun hp3 => ?_)
  case refine_2 =>
    have hce : c = s + 1 := by omega
    have key : ∀ C : List Int, okP width ws C → (∀ i, i < W.length → C.getD i 0 ≤ W.getD i 0) → (∃ i, i < W.length ∧ 0 < C.getD i 0) → ∃ c' : Nat, 1 ≤ c' ∧ c' ≤ s ∧ digN ns c' = C ∧ subL W C = digN ns ((s - c' : Nat) : Int) := fun C hC hle hne => by
      have hCl : C.length = ns.length := by rw [hC.2.1, hnl]
      have hCr : ∀ i, i < ns.length → 0 ≤ C.getD i 0 ∧ C.getD i 0 ≤ ns.getD i 0 := fun i hi => ⟨hC.getD i, by have := hle i (by omega); have := hWr i hi; omega⟩
      have hn0' := num_nonneg (ns := ns) (ds := C) hn0 hCl (fun i hi => (hCr i hi).1)
      have hdC := dig_num (ns := ns) (ds := C) hCl hCr
      have hnle := num_le (ns := ns) (a := W) (b := C) hn0 hWl hCl (fun i hi => hle i (by omega))
      have hsub := num_sub (ns := ns) hWl hCl
      have hn1 : numN ns C ≠ 0 := fun h0 => by
        rw [h0] at hdC
        obtain ⟨i, hi, hpos⟩ := hne
        rw [← hdC, digN_zero] at hpos
        omega
      refine ⟨(numN ns C).toNat, by omega, by omega, ?_, ?_⟩
      · rw [show (((numN ns C).toNat : Nat) : Int) = numN ns C by omega]; exact hdC
      · rw [show ((s - (numN ns C).toNat : Nat) : Int) = numN ns (subL W C) by omega]
        refine (dig_num (by rw [subL_length, hWl]) (fun i hi => ?_)).symm
        rw [subL_getD (by omega)]
        have := hCr i hi
        have := hle i (by omega)
        have := hWr i hi
        omega
    have hlb : least width ws b (wantF W) := least_table hW (by omega) hWnn hWs (fun h => hWz h) hbv
      (fun C k hC hle hne hl => by
        obtain ⟨c', h1, h2, h3, _⟩ := key C hC hle hne
        have := hbm c' h1 (by omega)
        rw [h3] at this
        exact this hC (fun i hi => hle i (by omega)) k hl)
      (fun C hC hle hne => by
        obtain ⟨c', h1, h2, _, h4⟩ := key C hC hle hne
        obtain ⟨k, _, _, hk⟩ := hT (s - c') (by omega)
        exact ⟨k, by rw [h4]; exact hk⟩)
    repeat (first | refine T_move rfl rfl ?_ | refine T_assign rfl rfl ?_ | refine T_nil0 ?_ | refine E_region ?_ | refine T_add rfl rfl rfl (by omega) ?_ | refine E_inBlock ?_ | refine E_exit rfl ?_)
    have hme : A.toNat - (s + 1) < A.toNat - s := Nat.sub_lt_sub_left (show s < A.toNat by omega) (Nat.lt_succ_self s)
    refine IHs (s + 1, T.set s b) w6 _ ⟨by omega, by omega, by simp; omega, fun j hj => ?_, hO, hB, hz6⟩ hme ⟨rfl, rfl, rfl, rfl, rfl, rfl, trivial⟩
    by_cases e : j = s
    · subst e
      exact ⟨b, by rw [getD_set (by omega), if_pos rfl], hb8, by rw [hWdef]; exact hlb⟩
    · obtain ⟨k, h1, h2, h3⟩ := hT j (by omega)
      exact ⟨k, by rw [getD_set (by omega), if_neg e]; exact h1, h2, h3⟩
  repeat (first | refine T_move rfl rfl ?_ | refine E_seq ?_ | refine E_region ?_ | refine E_skip ?_ | refine E_blockS ?_)
  refine T_call rfl rfl (countsAt_spec u c ns w6 hJ6 hnb (by omega) (by omega)) (fun cv w7 hr => ?_)
  obtain ⟨hCv, hb⟩ := hr
  have hO := hO.later hb
  have hWv := hWv.later hb
  have hB := hB.step hB.size hb
  have hI7 := hI6.later hb
  have hz7 := hb.size
  have hOI := hO.ints
  have hWI := hWv.ints
  have hCI := hCv.ints
  clear hb
  have hCl := hdl (c : Int)
  have hCr := fun i hi => digN_range (ns := ns) (c : Int) hn0 i hi
  have hCn := hnd (c : Int) (by omega) (by omega)
  repeat (first | refine T_move rfl rfl ?_ | refine T_assign rfl rfl ?_ | refine T_nil0 ?_ | refine E_seq ?_ | refine E_region ?_)
  refine T_call rfl rfl (atMost_spec cv wv (digN ns (c : Int)) W w7 hCI hWI (by omega) (by omega)) (fun r w8 hr => ?_)
  obtain ⟨rfl, rfl⟩ := hr
  have skip : ¬ (okP width ws (digN ns c) ∧ ∀ i, i < ns.length → (digN ns c).getD i 0 ≤ W.getD i 0) → ∀ c' : Nat, 1 ≤ c' → c' < c + 1 → okP width ws (digN ns c') → (∀ i, i < ns.length → (digN ns c').getD i 0 ≤ W.getD i 0) → ∀ k, least width ws k (wantF (subL W (digN ns c'))) → b ≤ k + 1 := fun hno c' h1 h2 h3 h4 => by
    by_cases e : c' = c
    · subst e; exact absurd ⟨h3, h4⟩ hno
    · exact hbm c' h1 (by omega) h3 h4
  repeat (first | refine T_move rfl rfl ?_)
  refine T_guard rfl rfl (fun h5 => ?_) (fun h5 => ?_)
  case refine_2 =>
    repeat (first | refine T_move rfl rfl ?_ | refine T_assign rfl rfl ?_ | refine T_nil0 ?_ | refine E_region ?_ | refine T_off rfl rfl rfl ?_ | refine T_add rfl rfl rfl (by omega) ?_ | refine T_pick_false rfl rfl rfl ?_ | refine E_cond_false rfl ?_ | refine E_skip ?_ | refine E_inBlock ?_)
    exact IHc (c + 1, b) w7 _ ⟨by omega, by omega, hb8, hbv, skip (fun h => h5 (fun i hi => h.2 i (by omega))), hO, hWv, hB, by omega⟩ (by show s + 1 - (c + 1) < s + 1 - c; omega) ⟨rfl, rfl, rfl, rfl, rfl, rfl, rfl, rfl, trivial⟩
  repeat (first | refine T_move rfl rfl ?_ | refine T_on rfl rfl ?_)
  refine T_call rfl rfl (ValidPattern_spec v cv width ws (digN ns (c : Int)) w7 hI7 hCI) (fun r w8 hr => ?_)
  obtain ⟨rfl, rfl⟩ := hr
  repeat (first | refine T_nil0 ?_ | refine T_pick_true rfl rfl rfl ?_)
  refine E_cond_if rfl (fun h6 => ?_) (fun h6 => ?_)
  case refine_2 =>
    repeat (first | refine T_move rfl rfl ?_ | refine T_assign rfl rfl ?_ | refine T_nil0 ?_ | refine E_region ?_ | refine T_add rfl rfl rfl (by omega) ?_ | refine E_skip ?_ | refine E_inBlock ?_)
    exact IHc (c + 1, b) w7 _ ⟨by omega, by omega, hb8, hbv, skip (fun h => h6 h.1), hO, hWv, hB, by omega⟩ (by show s + 1 - (c + 1) < s + 1 - c; omega) ⟨rfl, rfl, rfl, rfl, rfl, rfl, rfl, rfl, trivial⟩
  have hcs2 : c ≤ s := by omega
  obtain ⟨k0, hk0, hk08, hlk0⟩ := hT (s - c) (by omega)
  have hsub : digN ns ((s - c : Nat) : Int) = subL W (digN ns (c : Int)) := by
    have h1 := num_sub (ns := ns) hWl hCl
    rw [show ((s - c : Nat) : Int) = numN ns (subL W (digN ns (c : Int))) by omega]
    refine dig_num (by rw [subL_length, hWl]) (fun i hi => ?_)
    rw [subL_getD (by omega)]
    have := hCr i hi
    have := h5 i (by omega)
    have := hWr i hi
    omega
  rw [hsub] at hlk0
  have hTsl : (T.set s (b : Int)).length = A.toNat := by rw [List.length_set]; exact hTl
  have hsA : s < A.toNat := by omega
  have hix : ((s : Int) - (c : Int)).toNat < (T.set s (b : Int)).length := by rw [hTsl]; omega
  have hg1 : (T.set s (b : Int)).getD s 0 = b := by rw [getD_set (by omega), if_pos rfl]
  have hg2 : (T.set s (b : Int)).getD ((s : Int) - (c : Int)).toNat 0 = k0 := by rw [getD_set (by omega), if_neg (by omega), show ((s : Int) - (c : Int)).toNat = s - c by omega]; exact hk0
  skip
  refine E_region_tail 14 follows (by kernel_rfl) ?_
  repeat (first | refine T_move rfl rfl ?_ | refine T_nil1 ?_ | refine T_add rfl rfl rfl (by omega) ?_ | refine T_sub rfl rfl rfl (by omega) ?_ | refine T_min rfl rfl rfl ?_ | refine T_indexN tyI rfl rfl rfl (by assumption) (by omega) ?_ | refine T_indexI tyI rfl rfl rfl (by assumption) (by omega) ?_ | refine T_loadI Try.isAgg3 rfl rfl (by assumption) (by omega) ?_)
  have hdr : Below w7.heap.size w7 w7.drew := (Below.refl _ _).drew
  have hO := hO.later hdr
  have hWv := hWv.later hdr
  have hB := hB.step hB.size hdr
  have hzd : w7.drew.heap.size = w7.heap.size := rfl
  clear hdr hWI hCI
  have hOI := hO.ints
  generalize w7.drew = w9 at *
  skip
  refine T_storeI Try.sizeOf3 rfl rfl hO (by omega) (fun w10 hO hg hs10 => ?_)
  have hWv := hWv.kept hg (Blk.ne hWb hTb (.inr (by omega)))
  have hB := hB.own hg hTb (Nat.le_refl _) hB.size
  rw [List.set_set, hg1, hg2] at hO
  have hmin : min (b : Int) (1 + (k0 : Int)) = ((min b (k0 + 1) : Nat) : Int) := by omega
  rw [hmin] at hO
  clear hg hOI
  repeat (first | refine T_move rfl rfl ?_ | refine T_assign rfl rfl ?_ | refine T_nil0 ?_ | refine E_region ?_ | refine T_add rfl rfl rfl (by omega) ?_ | refine E_inBlock ?_)
  refine IHc (c + 1, min b (k0 + 1)) w10 _ ⟨by omega, by omega, by omega, ?_, fun c' h1 h2 h3 h4 k hk => ?_, hO, hWv, hB, by omega⟩ (by show s + 1 - (c + 1) < s + 1 - c; omega) ⟨rfl, rfl, rfl, rfl, rfl, rfl, rfl, rfl, trivial⟩
  · by_cases e : b ≤ k0 + 1
    · rw [Nat.min_eq_left e]; exact hbv
    · rw [Nat.min_eq_right (by omega)]
      exact .inr ⟨_, k0, h6, rfl, hlk0.1⟩
  · by_cases e : c' = c
    · subst e
      have := least_one hk hlk0
      omega
    · have := hbm c' h1 (by omega) h3 h4 k hk
      omega
end Go.Proofs.Ytjpbmjigmbfcfaa
