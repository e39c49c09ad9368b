/-
  Contracts: the draws of reels and their cuts. Conditions: the arguments lie in memory as the contract says.
-/
import Derived.Test.YtnecmchcemnopaaG2
import Derived.Test.YtnecmchcemnopaaC2b
import Derived.Test.YtnecmchcemnopaaHeldS
import Derived.Test.YtnecmchcemnopaaLibQ
namespace Go.Proofs.Ytnecmchcemnopaa
open Go Go.PR Go.RowKit attribute [local irreducible] T E Ints Sl Bools OwnI OwnB OwnR Recs Box Ret
attribute [local irreducible] Bytes X XS

theorem whichMeets_spec (ps : List Prt) (u : Value) (p : Prt) (w : World) (hJ : Recs recT w.heap u ps) (hl : ps.length ≤ 1000) :
    Ret Try.prog 69 #[u, .agg (recT.enc p).toArray] w (fun r w' => ∃ q, r = .int .i64 q ∧ Below w.heap.size w w') := by
  refine Ret_of (args := [_, _]) Try.call69 Try.func69 rfl _ Try.ntmps69 rfl ?_
  repeat (first | refine E_seq ?_ | refine E_region ?_)
  refine T_box rfl rfl (fun b3 w1 hn3 hx3 hB => ?_)
  have hJ := hJ.later hB
  have hC := Below.refl w1.heap.size w1
  repeat (first | refine T_assign rfl rfl ?_ | refine T_nil0 ?_ | refine E_seq ?_ | refine E_region ?_)
  refine E_loop (σ := Nat) (fun i => [(0, u), (3, bPtr b3 0), (5, .int .i64 (i : Int))]) (fun i w' => i ≤ ps.length ∧ Below w1.heap.size w1 w') (fun i => ps.length - i) 0
    ⟨by omega, hC⟩ ⟨rfl, rfl, rfl, trivial⟩ ?_
  clear hC
  rintro i w2 ⟨hi, hC⟩ IH
  repeat (first | refine T_move rfl rfl ?_ | refine T_nil0 ?_ | refine E_seq ?_ | refine E_region ?_ | refine T_cmp rfl rfl rfl rfl ?_ | refine T_len tyT rfl rfl (Recs.rlen (r := recT) (by assumption)) ?_)
  refine E_cond_if rfl (fun hp => ?_) (fun hp => ?_)
  case refine_2 =>
    repeat' (first | refine T_assign rfl rfl ?_ | refine T_nil0 ?_ | refine E_seq ?_ | refine E_region ?_ | refine E_exit rfl ?_ | refine E_ret1 rfl rfl ?_)
    exact ⟨_, rfl, hB.step hB.size hC⟩
  have hil : i < ps.length := by omega
  repeat (first | refine E_seq ?_ | refine E_skip ?_ | refine E_blockS ?_)
  refine E_region_quiet follows (by kernel_rfl) ?_
  repeat (first | refine T_move rfl rfl ?_ | refine T_loadBoxAB aT sT rfl rfl (by assumption) (by assumption) (by rfl) ?_ | refine T_indexT tyT rfl rfl rfl (by assumption) (by omega) ?_ | refine T_loadTA aT sT rfl rfl (by assumption) (by assumption) (by omega) ?_)
  refine T_callQ rfl rfl (fun w9 _ => partsMeet_spec (ps.getD i pz) p w9) ?_
  skip
  refine T_nil2 (fun w3 hb => ?_)
  have hC := hC.step hC.size hb
  refine E_cond_if rfl (fun h3 => ?_) (fun h3 => ?_)
  · repeat' (first | refine T_move rfl rfl ?_ | refine T_assign rfl rfl ?_ | refine T_nil0 ?_ | refine E_seq ?_ | refine E_region ?_ | refine E_ret1 rfl rfl ?_)
    exact ⟨_, rfl, hB.step hB.size hC⟩
  repeat (first | refine T_move rfl rfl ?_ | refine T_assign rfl rfl ?_ | refine T_nil0 ?_ | refine E_region ?_ | refine T_add rfl rfl rfl (by omega) ?_ | refine E_skip ?_ | refine E_inBlock ?_)
  exact IH (i + 1) w3 _ ⟨by omega, hC⟩ (by omega) ⟨rfl, rfl, rfl, trivial⟩

set_option maxHeartbeats 1000000 in
theorem someCuts_spec (w0 w : World) (b : Nat) (cv : Value) (cs : List Int) (p : Int) (x : Rel) (v : Value) (hR : Rd w0 w b cv cs p) (hp : p ≤ 600000) (hI : Recs recD w.heap v x.ds) (hdl : x.ds.length ≤ 6) :
    Ret Try.prog 59 #[bPtr b 0, relV x v] w (fun r w' => ∃ ps q, OwnR recT w' w.heap.size 40 r ps ∧ ps.length ≤ 8 ∧ Drew w0 w w' b cv cs p q 60) := by
  have hG := GS.start hR
  have hp0 := hR.pos
  have hlt0 := hG.lt
  refine Ret_of (args := [_, _]) Try.call59 Try.func59 rfl _ Try.ntmps59 rfl ?_
  repeat (first | refine E_seq ?_ | refine E_region ?_)
  refine T_box (cs := relC x v) rfl rfl (fun b3 w1 hn3 hx3 hb => ?_)
  have hG := hG.later hb
  have hI := hI.later hb
  have hz1 := hb.size
  have hl3 := hx3.lt
  clear hb
  repeat (first | refine T_assign rfl rfl ?_ | refine T_nil0 ?_ | refine E_seq ?_ | refine E_region ?_)
  refine T_lit0R (r := recT) tyT rfl (fun ov w2 hO _ hlt2 hb => ?_)
  have hG := hG.later hb
  have hI := hI.later hb
  have hx3 := hx3.later hb
  have hz2 := hb.size
  have hRR := Below.refl w2.heap.size w2
  clear hb
  repeat (first | refine T_assign rfl rfl ?_ | refine T_nil0 ?_ | refine E_seq ?_ | refine E_region ?_ | refine T_loadBoxAB aL sL rfl rfl (by assumption) (by assumption) (by rfl) ?_)
  refine T_call rfl rfl (svalidReel_spec x v w2 hI (by omega)) (fun r w3 hr => ?_)
  obtain ⟨rfl, hb⟩ := hr
  have hG := hG.later hb
  have hx3 := hx3.later hb
  have hO := hO.later hb
  have hz3 := hb.size
  clear hb hRR hI
  repeat (first | refine T_nil0 ?_ | refine T_not rfl rfl ?_)
  refine E_cond_if rfl (fun g1 => ?_) (fun g1 => ?_)
  · repeat (first | refine T_move rfl rfl ?_ | refine T_assign rfl rfl ?_ | refine T_nil0 ?_ | refine E_seq ?_ | refine E_region ?_)
    exact E_ret1 rfl rfl ⟨[], p, hO.base (by omega), by simp, hG.out (by omega)⟩
  have hok := Decidable.not_not.1 g1
  have hxw := hok.1
  have hxn := hok.2.1
  repeat (first | refine T_move rfl rfl ?_ | refine E_seq ?_ | refine E_region ?_ | refine E_skip ?_)
  have hlt := hG.lt; have hgs := hG.grown.size; refine T_litI tyI rfl rfl rfl rfl (fun lv _ hL _ _ hB => ?_); have hgb := hB.size; have hG := hG.later hB; refine T_call rfl rfl (one_spec _ _ _ _ _ (p) lv _ _ hG.rd (by omega) hL (by omega) (by simp) (by simp)) (fun r w4 hr => ?_); obtain ⟨n, rfl, nm, hD⟩ := hr; have hgz := hD.grown.size; have hG := hG.drew hD; simp only [List.mem_cons, List.not_mem_nil, or_false] at nm
  have hx3 := (hx3.later hB).drew hD (by omega)
  have hO := (hO.later hB).drew hD (by omega)
  have hn : 0 ≤ n ∧ n ≤ 8 := by omega
  clear hD hB hL
  repeat (first | refine T_assign rfl rfl ?_ | refine T_nil0 ?_)
  refine E_loop (σ := Int × List Prt × Value × Int) (fun ⟨n, ps, u, q⟩ => [(0, bPtr b 0), (3, bPtr b3 0), (5, u), (6, .int .i64 n)])
    (fun ⟨n, ps, u, q⟩ w' => 0 ≤ n ∧ n ≤ 8 ∧ (ps.length : Int) ≤ 8 - n ∧ Box w'.heap b3 (relC x v) ∧ OwnR recT w' w1.heap.size 40 u ps ∧ GS w0 w w' b cv cs q ∧ q ≤ p + 1 + 5 * (8 - n) ∧ w3.heap.size ≤ w'.heap.size) (fun ⟨n, _⟩ => n.toNat) (n, [], ov, p + 1)
    ⟨by omega, by omega, by simp; omega, hx3, hO, hG, by omega, by omega⟩ ⟨rfl, rfl, rfl, rfl, trivial⟩ ?_
  clear hx3 hO hG hn nm
  rintro ⟨n, ps, u, q⟩ w5 ⟨hn0, hn8, hpl, hx3, hO, hG, hq, hz5⟩ IH
  have hq0 := hG.rd.pos
  have hRR := Below.refl w5.heap.size w5
  repeat (first | refine T_move rfl rfl ?_ | refine T_nil0 ?_ | refine E_seq ?_ | refine E_region ?_ | refine T_cmp rfl rfl rfl rfl ?_)
  refine E_cond_if rfl (fun hp1 => ?_) (fun hp1 => ?_)
  case refine_2 =>
    repeat (first | refine T_move rfl rfl ?_ | refine T_assign rfl rfl ?_ | refine T_nil0 ?_ | refine E_seq ?_ | refine E_region ?_ | refine E_exit rfl ?_)
    exact E_ret1 rfl rfl ⟨ps, q, hO.base (by omega), by omega, hG.out (by omega)⟩
  repeat (first | refine T_move rfl rfl ?_ | refine E_seq ?_ | refine E_region ?_ | refine E_skip ?_ | refine E_blockS ?_ | refine T_fieldBoxF (fun _ _ => by kernel_rfl) rfl rfl ?_ | refine T_loadBoxB Try.isAgg3 rfl rfl (by assumption) (by assumption) (by rfl) ?_)
  refine T_call rfl rfl (somePart_spec _ _ _ _ _ q x.w x.n hG.rd (by omega) (by omega) (by omega)) (fun r w6 hr => ?_)
  obtain ⟨t, q2, rfl, ht, hD⟩ := hr
  have hq2 := hD.most
  have hG := hG.drew hD
  have hx3 := hx3.drew hD (by omega)
  have hO := hO.drew hD (by omega)
  have hq20 := hG.rd.pos
  have hz6 := hD.grown.size
  have hub := hO.blk
  clear hRR hD
  skip
  refine T_new (us := recT.enc t) zT sT rfl (fun _ => rfl) rfl rfl (recT.one _) (fun b7 w7 hn7 hx7 hb => ?_)
  have hG := hG.later hb
  have hx3 := hx3.later hb
  have hO := hO.later hb
  have hl7 := hx7.lt
  have hz7 := hb.size
  clear hb
  repeat (first | refine T_move rfl rfl ?_ | refine T_nil0 ?_ | refine E_seq ?_ | refine E_region ?_)
  refine T_call rfl rfl (pick_spec _ _ _ _ _ (q2) (2) hG.rd (by omega)) (fun r w8 hr => ?_); obtain ⟨k, rfl, ka, kb, kc, hD⟩ := hr; have hG := hG.drew hD; have hgz := hD.grown.size
  have hx3 := hx3.drew hD (by omega)
  have hx7 := hx7.drew hD (by omega)
  have hO := hO.drew hD (by omega)
  clear hD
  repeat (first | refine T_nil0 ?_ | refine T_cmp rfl rfl rfl rfl ?_)
  refine E_cut (fun m' w' => ∃ t', Sub [(0, bPtr b 0), (3, bPtr b3 0), (5, u), (6, .int .i64 n), (7, bPtr b7 0)] m' ∧ Box w'.heap b7 (recT.enc t') ∧ Box w'.heap b3 (relC x v) ∧ OwnR recT w' w1.heap.size 40 u ps ∧ GS w0 w w' b cv cs (q2 + 1) ∧ w8.heap.size ≤ w'.heap.size) (fun join => ?_) ?_
  case refine_2 =>
    rintro m' w9 ⟨t', hsub, hx7, hx3, hO, hG, hz9⟩
    refine E.weaken hsub ?_
    have hRR := Below.refl w9.heap.size w9
    repeat (first | refine T_move rfl rfl ?_ | refine E_seq ?_ | refine E_region ?_ | refine T_loadBoxAB aT sT rfl rfl (by assumption) (by assumption) (by rfl) ?_)
    refine T_call rfl rfl (whichMeets_spec ps u t' w9 hO.recs (by omega)) (fun r w10 hr => ?_)
    obtain ⟨z, rfl, hb⟩ := hr
    have hG := hG.later hb
    have hx3 := hx3.later hb
    have hx7 := hx7.later hb
    have hO := hO.later hb
    have hz10 := hb.size
    clear hb hRR
    repeat (first | refine T_nil0 ?_ | refine T_cmp rfl rfl rfl rfl ?_)
    refine E_cond_if rfl (fun g2 => ?_) (fun g2 => ?_)
    · repeat (first | refine T_move rfl rfl ?_ | refine E_region ?_)
      refine T_loadBoxA aT sT rfl rfl hx7 rfl ?_
      refine T_lit1 (r := recT) tyT rfl rfl rfl (fun lv w11 hL _ _ hb => ?_)
      have hG := hG.later hb
      have hx3 := hx3.later hb
      have hO := hO.later hb
      have hz11 := hb.size
      have hbo := hO.blk
      clear hb
      refine T_appendR (r := recT) tyT rfl rfl rfl hO hL.recs (by omega) (by simp; omega) (by simp; omega) (fun u' w12 hO hg hor => ?_)
      have hz12 := hg.size
      have hx3 := hx3.kept hg (fun e => by have := hbo _ e.symm; omega)
      have hG := hG.own hg hbo (by omega)
      repeat (first | refine T_move rfl rfl ?_ | refine T_assign rfl rfl ?_ | refine T_nil0 ?_ | refine E_region ?_ | refine T_sub rfl rfl rfl (by omega) ?_ | refine E_inBlock ?_)
      exact IH (n - 1, ps ++ [t'], u', q2 + 1) w12 _ ⟨by omega, by omega, by simp; omega, hx3, hO, hG, by omega, by omega⟩ (by show (n - 1).toNat < n.toNat; omega) ⟨rfl, rfl, rfl, rfl, trivial⟩
    · repeat (first | refine T_move rfl rfl ?_ | refine T_assign rfl rfl ?_ | refine T_nil0 ?_ | refine E_region ?_ | refine T_sub rfl rfl rfl (by omega) ?_ | refine E_skip ?_ | refine E_inBlock ?_)
      exact IH (n - 1, ps, u, q2 + 1) w10 _ ⟨by omega, by omega, by omega, hx3, hO, hG, by omega, by omega⟩ (by show (n - 1).toNat < n.toNat; omega) ⟨rfl, rfl, rfl, rfl, trivial⟩
  refine E_cond_if rfl (fun g1 => ?_) (fun g1 => ?_)
  case refine_2 =>
    repeat (first | refine join _ _ ?_ | refine E_skip ?_)
    exact ⟨t, ⟨rfl, rfl, rfl, rfl, rfl, trivial⟩, hx7, hx3, hO, hG, Nat.le_refl _⟩
  have hRR := Below.refl w8.heap.size w8
  repeat (first | refine E_seq ?_ | refine E_region ?_ | refine T_add rfl rfl rfl (by omega) ?_ | refine T_min rfl rfl rfl ?_ | refine T_fieldBoxF (fun _ _ => by kernel_rfl) rfl rfl ?_ | refine T_loadBoxB Try.isAgg3 rfl rfl (by assumption) (by assumption) (by rfl) ?_)
  refine T_storeBox Try.sizeOf3 rfl rfl rfl hx7 (Nat.le_of_ble_eq_true rfl) (fun w9 hx7 hg _ => ?_)
  have hx7 : Box w9.heap b7 (recT.enc ⟨t.l, min t.r (t.l + 3), t.f, t.t⟩) := hx7
  obtain ⟨t1, hx7, ht1⟩ : ∃ t1 : Prt, Box w9.heap b7 (recT.enc t1) ∧ t1.f = t.f := ⟨_, hx7, rfl⟩
  have hG := hG.box hg (by omega)
  have hx3 := hx3.kept hg (fun e => by simp at e; omega)
  have hO := hO.kept hg (.inr (fun e => by have := hub _ e; omega))
  have hz9 := hg.size
  have hRR := Below.refl w9.heap.size w9
  repeat (first | refine T_nil0 ?_ | refine E_region ?_ | refine T_add rfl rfl rfl (by omega) ?_ | refine T_min rfl rfl rfl ?_ | refine T_fieldBoxF (fun _ _ => by kernel_rfl) rfl rfl ?_ | refine T_loadBoxB Try.isAgg3 rfl rfl (by assumption) (by assumption) (by rfl) ?_)
  refine T_storeBox Try.sizeOf3 rfl rfl rfl hx7 (Nat.le_of_ble_eq_true rfl) (fun w10 hx7 hg _ => ?_)
  have hx7 : Box w10.heap b7 (recT.enc ⟨t1.l, t1.r, t1.f, min t1.t (t1.f + 10)⟩) := hx7
  have hG := hG.box hg (by omega)
  have hx3 := hx3.kept hg (fun e => by simp at e; omega)
  have hO := hO.kept hg (.inr (fun e => by have := hub _ e; omega))
  have hz10 := hg.size
  repeat (first | refine join _ _ ?_ | refine T_nil0 ?_)
  exact ⟨_, ⟨rfl, rfl, rfl, rfl, rfl, trivial⟩, hx7, hx3, hO, hG, by omega⟩

set_option maxHeartbeats 1000000 in
theorem cutReel_spec (w0 w : World) (b : Nat) (cv : Value) (cs : List Int) (p : Int) (hR : Rd w0 w b cv cs p) (hp : p ≤ 500000) :
    Ret Try.prog 38 #[bPtr b 0] w (fun r w' => ∃ x u ps v q, r = .tuple #[relV x u, v] ∧ OwnR recD w' w.heap.size 37 u x.ds ∧ OwnR recT w' w.heap.size 40 v ps ∧ x.ds.length ≤ 6 ∧ ps.length ≤ 9 ∧ Drew w0 w w' b cv cs p q 200) := by
  have hG := GS.start hR
  have hp0 := hR.pos
  have hlt0 := hG.lt
  refine Ret_of (args := [_]) Try.call38 Try.func38 rfl _ Try.ntmps38 rfl ?_
  repeat (first | refine E_seq ?_ | refine E_region ?_)
  refine T_alloc zL rfl (fun b2 w1 hn2 hx2 hb => ?_)
  have hG := hG.later hb
  have hz1 := hb.size
  have hl2 := hx2.lt
  clear hb
  repeat (first | refine T_move rfl rfl ?_ | refine T_assign rfl rfl ?_ | refine T_nil0 ?_ | refine E_seq ?_ | refine E_region ?_)
  refine T_call rfl rfl (anyReel_spec _ _ _ _ _ p hG.rd (by omega)) (fun r w2 hr => ?_)
  obtain ⟨x, u, q, rfl, hO, ⟨hdl, hW, hN⟩, hD⟩ := hr
  have hq := hD.most
  have hG := hG.drew hD
  have hx2 := hx2.drew hD (by omega)
  have hq0 := hG.rd.pos
  have hz2 := hD.grown.size
  clear hD
  skip
  refine T_new (us := relC x u) zL sL rfl (fun _ => rfl) rfl rfl (relC_one hO.recs.rlen) (fun b4 w3 hn4 hx4 hb => ?_)
  have hG := hG.later hb
  have hx2 := hx2.later hb
  have hub := hO.blk
  have hO := hO.later hb
  have hl4 := hx4.lt
  have hz3 := hb.size
  have hRR := Below.refl w3.heap.size w3
  clear hb
  repeat (first | refine T_move rfl rfl ?_ | refine T_nil0 ?_ | refine E_seq ?_ | refine E_region ?_ | refine T_loadBoxAB aL sL rfl rfl (by assumption) (by assumption) (by rfl) ?_)
  refine T_call rfl rfl (someCuts_spec _ _ _ _ _ q x u hG.rd (by omega) hO.recs hdl) (fun v w4 hr => ?_)
  obtain ⟨ps, q2, hV, hpl, hD⟩ := hr
  have hq2 := hD.most
  have hG := hG.drew hD
  have hx2 := hx2.drew hD (by omega)
  have hx4 := hx4.drew hD (by omega)
  have hO := hO.drew hD (by omega)
  have hq20 := hG.rd.pos
  have hz4 := hD.grown.size
  have hRR := Below.refl w4.heap.size w4
  have hJ := hV.recs
  clear hD
  repeat (first | refine T_move rfl rfl ?_ | refine T_assign rfl rfl ?_ | refine T_nil0 ?_ | refine E_seq ?_ | refine E_region ?_ | refine T_cmp rfl rfl rfl rfl ?_ | refine T_len tyT rfl rfl (Recs.rlen (r := recT) (by assumption)) ?_)
  refine T_guard rfl rfl (fun g1 => ?_) (fun g1 => ?_)
  case refine_2 =>
    repeat (first | refine T_move rfl rfl ?_ | refine T_nil0 ?_ | refine E_seq ?_ | refine E_region ?_ | refine T_off rfl rfl rfl ?_ | refine T_pick_false rfl rfl rfl ?_ | refine E_cond_false rfl ?_ | refine E_skip ?_ | refine T_loadBoxAB aL sL rfl rfl (by assumption) (by assumption) (by rfl) ?_)
    refine T_storeBoxA (us := relC x u) sL rfl rfl rfl (relC_one hO.recs.rlen) hx2 rfl (fun w9 hx2 hg _ => ?_)
    have hO := hO.kept hg (hO.blk.ne_some (.inr (by omega)))
    have hV := hV.kept hg (hV.blk.ne_some (.inr (by omega)))
    have hG := hG.box hg (by omega)
    repeat (first | refine T_assign rfl rfl ?_ | refine T_nil0 ?_)
    exact E_retC1 rfl rfl rfl aL sL hx2 rfl ⟨x, u, _, _, _, rfl, hO.base (by omega), hV.base (by omega), hdl, by omega, hG.out (by omega)⟩
  refine T_on rfl rfl ?_
  repeat (first | refine T_move rfl rfl ?_ | refine T_on rfl rfl ?_)
  refine T_call rfl rfl (pick_spec _ _ _ _ _ (q2) (16) hG.rd (by omega)) (fun r w5 hr => ?_); obtain ⟨k, rfl, ka, kb, kc, hD⟩ := hr; have hG := hG.drew hD; have hgz := hD.grown.size
  have hx2 := hx2.drew hD (by omega)
  have hx4 := hx4.drew hD (by omega)
  have hO := hO.drew hD (by omega)
  have hV := hV.drew hD (by omega)
  have hJ := hV.recs
  have hRR := Below.refl w5.heap.size w5
  clear hD
  repeat (first | refine T_nil0 ?_ | refine T_cmp rfl rfl rfl rfl ?_ | refine T_on rfl rfl ?_ | refine T_pick_true rfl rfl rfl ?_)
  refine E_cond_if rfl (fun g2 => ?_) (fun g2 => ?_)
  case refine_2 =>
    repeat (first | refine T_move rfl rfl ?_ | refine E_seq ?_ | refine E_region ?_ | refine E_skip ?_ | refine T_loadBoxAB aL sL rfl rfl (by assumption) (by assumption) (by rfl) ?_)
    refine T_storeBoxA (us := relC x u) sL rfl rfl rfl (relC_one hO.recs.rlen) hx2 rfl (fun w9 hx2 hg _ => ?_)
    have hO := hO.kept hg (hO.blk.ne_some (.inr (by omega)))
    have hV := hV.kept hg (hV.blk.ne_some (.inr (by omega)))
    have hG := hG.box hg (by omega)
    repeat (first | refine T_assign rfl rfl ?_ | refine T_nil0 ?_)
    exact E_retC1 rfl rfl rfl aL sL hx2 rfl ⟨x, u, _, _, _, rfl, hO.base (by omega), hV.base (by omega), hdl, by omega, hG.out (by omega)⟩
  · have hvb := hV.blk
    repeat (first | refine T_move rfl rfl ?_ | refine E_region ?_ | refine T_indexTI tyT rfl rfl rfl (by assumption) (by omega) ?_ | refine T_loadTA aT sT rfl rfl (by assumption) (by assumption) (by omega) ?_)
    refine T_lit1 (r := recT) (a := ps.getD 0 pz) tyT rfl rfl rfl (fun lv w6 hL _ _ hb => ?_)
    have hG := hG.later hb
    have hx2 := hx2.later hb
    have hx4 := hx4.later hb
    have hO := hO.later hb
    have hV := hV.later hb
    have hz6 := hb.size
    clear hb
    refine T_appendR (r := recT) tyT rfl rfl rfl hV hL.recs (by omega) (by simp; omega) (by simp; omega) (fun v' w7 hV hg hor => ?_)
    have hz7 := hg.size
    have hx2 := hx2.kept hg (fun e => by have := hvb _ e.symm; omega)
    have hx4 := hx4.kept hg (fun e => by have := hvb _ e.symm; omega)
    have hO := hO.kept hg (Blk.ne (fun b hb => hub b hb) hvb (.inl (by omega)))
    have hG := hG.own hg hvb (by omega)
    clear hJ
    have hRR := Below.refl w7.heap.size w7
    repeat (first | refine T_move rfl rfl ?_ | refine T_assign rfl rfl ?_ | refine T_nil0 ?_ | refine E_seq ?_ | refine E_region ?_ | refine T_loadBoxAB aL sL rfl rfl (by assumption) (by assumption) (by rfl) ?_)
    refine T_storeBoxA (us := relC x u) sL rfl rfl rfl (relC_one hO.recs.rlen) hx2 rfl (fun w9 hx2 hg _ => ?_)
    have hO := hO.kept hg (hO.blk.ne_some (.inr (by omega)))
    have hV := hV.kept hg (hV.blk.ne_some (.inr (by omega)))
    have hG := hG.box hg (by omega)
    repeat (first | refine T_assign rfl rfl ?_ | refine T_nil0 ?_)
    exact E_retC1 rfl rfl rfl aL sL hx2 rfl ⟨x, u, _, _, _, rfl, hO.base (by omega), hV.base (by omega), hdl, by (simp; omega), hG.out (by omega)⟩

theorem DrawValidCuts_spec (cv : Value) (cs : List Int) (w : World) (hY : Bytes w.heap cv cs) (hb : ∀ c ∈ cs, 0 ≤ c ∧ c ≤ 255) :
    Ret Try.prog 13 #[cv] w (fun r w' => ∃ x u ps v, r = .tuple #[relV x u, v] ∧ OwnR recD w' w.heap.size 37 u x.ds ∧ OwnR recT w' w.heap.size 40 v ps ∧ x.ds.length ≤ 6 ∧ ps.length ≤ 9 ∧ Below w.heap.size w w') := by
  refine Ret_of (args := [_]) Try.call13 Try.func13 rfl _ Try.ntmps13 rfl ?_
  repeat (first | refine E_seq ?_ | refine E_region ?_)
  refine T_alloc zL rfl (fun b2 w1 hn2 hx2 hB0 => ?_)
  have hz1 := hB0.size
  have hl2 := hx2.lt
  repeat (first | refine T_move rfl rfl ?_ | refine T_assign rfl rfl ?_ | refine T_nil0 ?_ | refine E_seq ?_ | refine E_region ?_)
  refine T_call rfl rfl (newReader_spec cv cs w1 (hY.later hB0) hb) (fun r w2 hr => ?_)
  obtain ⟨b, cv', cs', rfl, hR, hB1, hnew⟩ := hr
  have hz2 := hB1.size
  have hx2 := hx2.later hB1
  skip
  refine T_call rfl rfl (cutReel_spec _ _ _ _ _ 0 hR (by omega)) (fun r w3 hr => ?_)
  obtain ⟨x, u, ps, v, q, rfl, hO, hV, hdl, hpl, hD⟩ := hr
  have hx2 := hx2.drew hD (by omega)
  have hlow := hD.rd.below
  have hz3 := hD.grown.size
  repeat (first | refine T_extract rfl rfl rfl ?_)
  refine T_storeBoxA (us := relC x u) sL rfl rfl rfl (relC_one hO.recs.rlen) hx2 rfl (fun w4 hx2 hg _ => ?_)
  have hO := hO.kept hg (hO.blk.ne_some (.inr (by omega)))
  have hV := hV.kept hg (hV.blk.ne_some (.inr (by omega)))
  repeat (first | refine T_assign rfl rfl ?_ | refine T_nil0 ?_)
  exact E_retC1 rfl rfl rfl aL sL hx2 rfl ⟨x, u, ps, v, rfl, hO.base (by omega), hV.base (by omega), hdl, hpl, (hB0.step hB0.size hlow).grown hg (by omega) (fun c hc => by simp at hc; omega)⟩

theorem DrawAreaLeft_spec (cv : Value) (cs : List Int) (w : World) (hY : Bytes w.heap cv cs) (hb : ∀ c ∈ cs, 0 ≤ c ∧ c ≤ 255) :
    Ret Try.prog 27 #[cv] w (fun r w' => ∃ x u ps v, r = .tuple #[relV x u, v] ∧ OwnR recD w' w.heap.size 37 u x.ds ∧ OwnR recT w' w.heap.size 40 v ps ∧ x.ds.length ≤ 6 ∧ ps.length ≤ 9 ∧ Below w.heap.size w w') := by
  refine Ret_of (args := [_]) Try.call27 Try.func27 rfl _ Try.ntmps27 rfl ?_
  repeat (first | refine E_seq ?_ | refine E_region ?_)
  refine T_alloc zL rfl (fun b2 w1 hn2 hx2 hB0 => ?_)
  have hz1 := hB0.size
  have hl2 := hx2.lt
  repeat (first | refine T_move rfl rfl ?_ | refine T_assign rfl rfl ?_ | refine T_nil0 ?_ | refine E_seq ?_ | refine E_region ?_)
  refine T_call rfl rfl (newReader_spec cv cs w1 (hY.later hB0) hb) (fun r w2 hr => ?_)
  obtain ⟨b, cv', cs', rfl, hR, hB1, hnew⟩ := hr
  have hz2 := hB1.size
  have hx2 := hx2.later hB1
  skip
  refine T_call rfl rfl (cutReel_spec _ _ _ _ _ 0 hR (by omega)) (fun r w3 hr => ?_)
  obtain ⟨x, u, ps, v, q, rfl, hO, hV, hdl, hpl, hD⟩ := hr
  have hx2 := hx2.drew hD (by omega)
  have hlow := hD.rd.below
  have hz3 := hD.grown.size
  repeat (first | refine T_extract rfl rfl rfl ?_)
  refine T_storeBoxA (us := relC x u) sL rfl rfl rfl (relC_one hO.recs.rlen) hx2 rfl (fun w4 hx2 hg _ => ?_)
  have hO := hO.kept hg (hO.blk.ne_some (.inr (by omega)))
  have hV := hV.kept hg (hV.blk.ne_some (.inr (by omega)))
  repeat (first | refine T_assign rfl rfl ?_ | refine T_nil0 ?_)
  exact E_retC1 rfl rfl rfl aL sL hx2 rfl ⟨x, u, ps, v, rfl, hO.base (by omega), hV.base (by omega), hdl, hpl, (hB0.step hB0.size hlow).grown hg (by omega) (fun c hc => by simp at hc; omega)⟩

end Go.Proofs.Ytnecmchcemnopaa
