/-
  Contracts: RollAt, ReelAt, AreaLeft of both sides. Conditions: the arguments lie in memory as the contract says.
-/
import Derived.Test.YtnecmchcemnopaaC7
namespace Go.PR
theorem inP_next {ps : List Prt} {a b : Int} {k n : Nat} (h : whichN ps a b k < 0) (hi : ¬ inP (ps.getD k pz) a b) : whichN ps a b (k + 1) < 0 := by
  rw [whichN, if_neg (by omega), if_neg hi]; decide
end Go.PR
namespace Go.Proofs.Ytnecmchcemnopaa
open Go Go.PR Go.RowKit attribute [local irreducible] T E Ints Sl Bools OwnI OwnB OwnR Recs Box Ret

set_option maxHeartbeats 1000000 in
theorem RollAt_spec (x : Rel) (v : Value) (ps : List Prt) (u : Value) (a b : Int) (w : World) (hI : Recs recD w.heap v x.ds) (hJ : Recs recT w.heap u ps) :
    Ret Try.prog 26 #[relV x v, u, .int .i64 a, .int .i64 b] w (fun r w' => r = .tuple #[.int .i64 (rollF x ps a b).1, .int .i64 (rollF x ps a b).2.1, .int .i64 (rollF x ps a b).2.2] ∧ Below w.heap.size w w') := by
  refine Ret_of (args := [_, _, _, _]) Try.call26 Try.func26 rfl _ Try.ntmps26 rfl ?_
  repeat (first | refine E_seq ?_ | refine E_region ?_)
  refine T_box (cs := relC x v) rfl rfl (fun b1 w1 hn1 hx1 hB => ?_)
  have hI := hI.later hB
  have hJ := hJ.later hB
  have hC := Below.refl w1.heap.size w1
  have bad : ∀ w9, Below w1.heap.size w1 w9 → ¬ (okC x ps ∧ 0 ≤ whichF ps a b) → Value.tuple #[.int .i64 (-1), .int .i64 (-1), .int .i64 (-1)] = .tuple #[.int .i64 (rollF x ps a b).1, .int .i64 (rollF x ps a b).2.1, .int .i64 (rollF x ps a b).2.2] ∧ Below w.heap.size w w9 := fun w9 h9 h => ⟨by unfold rollF; rw [if_neg h], hB.step hB.size h9⟩
  repeat (first | refine T_move rfl rfl ?_ | refine T_assign rfl rfl ?_ | refine T_nil0 ?_ | refine E_seq ?_ | refine E_region ?_ | refine T_loadBoxAB aL sL rfl rfl (by assumption) (by assumption) (by rfl) ?_)
  refine T_call rfl rfl (ValidCuts_spec x v ps u w1 hI hJ) (fun r w2 hr => ?_)
  obtain ⟨rfl, hb⟩ := hr
  have hC := hC.step hC.size hb
  repeat (first | refine T_nil0 ?_ | refine T_not rfl rfl ?_)
  refine E_cond_if rfl (fun h1 => ?_) (fun h1 => ?_)
  · repeat' (first | refine T_assign rfl rfl ?_ | refine T_nil0 ?_ | refine E_seq ?_ | refine E_region ?_ | refine E_ret3 rfl rfl rfl rfl ?_)
    exact bad _ hC (fun h => h1 h.1)
  have hok := Decidable.not_not.1 h1
  have hl := hok.2.1
  have hw := hok.1.1
  have hn := hok.1.2.1
  repeat (first | refine T_move rfl rfl ?_ | refine T_nil0 ?_ | refine E_seq ?_ | refine E_region ?_ | refine E_skip ?_ | refine T_len tyT rfl rfl (Recs.rlen (r := recT) (by assumption)) ?_)
  refine E_loop (σ := Nat) (fun i => [(1, u), (2, .int .i64 a), (3, .int .i64 b), (4, bPtr b1 0), (17, u), (18, .int .i64 ps.length), (19, .int .i64 i)])
    (fun i w' => i ≤ ps.length ∧ whichN ps a b i < 0 ∧ Below w1.heap.size w1 w') (fun i => ps.length - i) 0
    ⟨by omega, (by simp [whichN]), hC⟩ ⟨rfl, rfl, rfl, rfl, rfl, rfl, rfl, trivial⟩ ?_
  clear hC
  rintro i w3 ⟨hi, hwn, hC⟩ IH
  repeat (first | refine T_nil0 ?_ | refine E_seq ?_ | refine E_region ?_ | refine T_cmp rfl rfl rfl rfl ?_)
  refine E_cond_if rfl (fun hp => ?_) (fun hp => ?_)
  case refine_2 =>
    have e : i = ps.length := by omega
    subst e
    repeat' (first | refine T_assign rfl rfl ?_ | refine T_nil0 ?_ | refine E_seq ?_ | refine E_region ?_ | refine E_exit rfl ?_ | refine E_ret3 rfl rfl rfl rfl ?_)
    exact bad _ hC (fun h => by have : whichF ps a b = whichN ps a b ps.length := rfl; omega)
  have hil : i < ps.length := by omega
  repeat (first | refine T_move rfl rfl ?_ | refine E_seq ?_ | refine E_region ?_ | refine E_skip ?_ | refine E_blockS ?_ | refine T_indexT tyT rfl rfl rfl (by assumption) (by omega) ?_ | refine T_loadTA aT sT rfl rfl (by assumption) (by assumption) (by omega) ?_)
  refine T_alloc zT rfl (fun b6 w4 hn6 hx6 hb => ?_)
  repeat (first | refine T_assign rfl rfl ?_)
  refine T_storeBoxA (us := recT.enc (ps.getD i pz)) sT rfl rfl rfl (recT.one _) hx6 rfl (fun w5 hx6 hg _ => ?_)
  have hb := hb.grown hg hb.size (fun c hc => by simp at hc; omega)
  have hC := hC.step hC.size hb
  have h55 := Below.refl w5.heap.size w5
  have hpt := hok.at hil
  have hhit := fun h => whichN_hit (ps := ps) (a := a) (b := b) hwn h hil
  have hnx := fun h => inP_next (ps := ps) (a := a) (b := b) (n := 0) hwn h
  have hrF : inP (ps.getD i pz) a b → rollF x ps a b = ((i : Int), a - (ps.getD i pz).l, b - (ps.getD i pz).f) := fun h => by
    have e : whichF ps a b = i := hhit h
    unfold rollF
    rw [e, if_pos ⟨hok, by omega⟩, Int.toNat_natCast]
  generalize ps.getD i pz = p at *
  unfold okT at hpt
  unfold inP at hhit hnx hrF
  repeat (first | refine T_move rfl rfl ?_ | refine T_nil0 ?_ | refine E_seq ?_ | refine E_region ?_ | refine T_cmp rfl rfl rfl rfl ?_ | refine T_fieldBoxF (fun _ _ => by kernel_rfl) rfl rfl ?_ | refine T_loadBoxB Try.isAgg3 rfl rfl (by assumption) (by assumption) (by rfl) ?_)
  refine T_guard rfl rfl (fun g1 => ?_) (fun g1 => ?_)
  case refine_2 =>
    repeat (first | refine T_move rfl rfl ?_ | refine T_nil0 ?_ | refine E_region ?_ | refine T_off rfl rfl rfl ?_ | refine T_add rfl rfl rfl (by omega) ?_ | refine T_pick_false rfl rfl rfl ?_ | refine E_cond_false rfl ?_ | refine E_skip ?_ | refine E_inBlock ?_)
    exact IH (i + 1) w5 _ ⟨by omega, hnx (by omega), hC⟩ (by omega) ⟨rfl, rfl, rfl, rfl, rfl, rfl, rfl, trivial⟩
  repeat (first | refine T_move rfl rfl ?_ | refine T_cmp rfl rfl rfl rfl ?_ | refine T_on rfl rfl ?_ | refine T_pick_true rfl rfl rfl ?_ | refine T_fieldBoxF (fun _ _ => by kernel_rfl) rfl rfl ?_ | refine T_loadBoxB Try.isAgg3 rfl rfl (by assumption) (by assumption) (by rfl) ?_)
  refine T_guard rfl rfl (fun g2 => ?_) (fun g2 => ?_)
  case refine_2 =>
    repeat (first | refine T_move rfl rfl ?_ | refine T_nil0 ?_ | refine E_region ?_ | refine T_off rfl rfl rfl ?_ | refine T_add rfl rfl rfl (by omega) ?_ | refine T_pick_false rfl rfl rfl ?_ | refine E_cond_false rfl ?_ | refine E_skip ?_ | refine E_inBlock ?_)
    exact IH (i + 1) w5 _ ⟨by omega, hnx (by omega), hC⟩ (by omega) ⟨rfl, rfl, rfl, rfl, rfl, rfl, rfl, trivial⟩
  repeat (first | refine T_move rfl rfl ?_ | refine T_cmp rfl rfl rfl rfl ?_ | refine T_on rfl rfl ?_ | refine T_pick_true rfl rfl rfl ?_ | refine T_fieldBoxF (fun _ _ => by kernel_rfl) rfl rfl ?_ | refine T_loadBoxB Try.isAgg3 rfl rfl (by assumption) (by assumption) (by rfl) ?_)
  refine T_guard rfl rfl (fun g3 => ?_) (fun g3 => ?_)
  case refine_2 =>
    repeat (first | refine T_move rfl rfl ?_ | refine T_nil0 ?_ | refine E_region ?_ | refine T_off rfl rfl rfl ?_ | refine T_add rfl rfl rfl (by omega) ?_ | refine T_pick_false rfl rfl rfl ?_ | refine E_cond_false rfl ?_ | refine E_skip ?_ | refine E_inBlock ?_)
    exact IH (i + 1) w5 _ ⟨by omega, hnx (by omega), hC⟩ (by omega) ⟨rfl, rfl, rfl, rfl, rfl, rfl, rfl, trivial⟩
  repeat (first | refine T_move rfl rfl ?_ | refine T_nil0 ?_ | refine T_cmp rfl rfl rfl rfl ?_ | refine T_on rfl rfl ?_ | refine T_pick_true rfl rfl rfl ?_ | refine T_fieldBoxF (fun _ _ => by kernel_rfl) rfl rfl ?_ | refine T_loadBoxB Try.isAgg3 rfl rfl (by assumption) (by assumption) (by rfl) ?_)
  refine E_cond_if rfl (fun g4 => ?_) (fun g4 => ?_)
  case refine_2 =>
    repeat (first | refine T_move rfl rfl ?_ | refine T_nil0 ?_ | refine E_region ?_ | refine T_add rfl rfl rfl (by omega) ?_ | refine E_skip ?_ | refine E_inBlock ?_)
    exact IH (i + 1) w5 _ ⟨by omega, hnx (by omega), hC⟩ (by omega) ⟨rfl, rfl, rfl, rfl, rfl, rfl, rfl, trivial⟩
  rw [hrF ⟨g1, g2, g3, g4⟩]
  repeat (first | refine E_seq ?_)
  refine E_region_still follows (by kernel_rfl) ?_
  repeat' (first | refine T_move rfl rfl ?_ | refine T_assign rfl rfl ?_ | refine T_nil1 ?_ | refine T_sub rfl rfl rfl (by omega) ?_ | refine T_fieldBoxF (fun _ _ => by kernel_rfl) rfl rfl ?_ | refine T_loadBoxB Try.isAgg3 rfl rfl (by assumption) (by assumption) (by rfl) ?_ | refine E_ret3 rfl rfl rfl rfl ?_)
  exact ⟨rfl, (hB.step hB.size hC).drew⟩

set_option maxHeartbeats 1000000 in
theorem swhichCut_spec (ps : List Prt) (u : Value) (a b : Int) (w : World) (hJ : Recs recT w.heap u ps) (hl : ps.length ≤ 60) (hp : ∀ p ∈ ps, (0 ≤ p.l ∧ p.r ≤ 60 ∧ 1 ≤ p.r) ∧ (0 ≤ p.f ∧ p.t ≤ 400 ∧ 1 ≤ p.t)) :
    Ret Try.prog 52 #[u, .int .i64 a, .int .i64 b] w (fun r w' => r = .int .i64 (whichF ps a b) ∧ Below w.heap.size w w') := by
  refine Ret_of (args := [_, _, _]) Try.call52 Try.func52 rfl _ Try.ntmps52 rfl ?_
  have hC := Below.refl w.heap.size w
  repeat (first | refine T_assign rfl rfl ?_ | refine T_nil0 ?_ | refine E_seq ?_ | refine E_region ?_)
  refine E_loop (σ := Nat) (fun i => [(0, u), (1, .int .i64 a), (2, .int .i64 b), (7, .int .i64 i)])
    (fun i w' => i ≤ ps.length ∧ whichN ps a b i < 0 ∧ Below w.heap.size w w') (fun i => ps.length - i) 0
    ⟨by omega, (by simp [whichN]), hC⟩ ⟨rfl, rfl, rfl, rfl, trivial⟩ ?_
  clear hC
  rintro i w3 ⟨hi, hwn, hC⟩ IH
  repeat (first | refine T_move rfl rfl ?_ | refine T_nil0 ?_ | refine E_seq ?_ | refine E_region ?_ | refine T_cmp rfl rfl rfl rfl ?_ | refine T_len tyT rfl rfl (Recs.rlen (r := recT) (by assumption)) ?_)
  refine E_cond_if rfl (fun hp1 => ?_) (fun hp1 => ?_)
  case refine_2 =>
    have e : i = ps.length := by omega
    subst e
    repeat' (first | refine T_assign rfl rfl ?_ | refine T_nil0 ?_ | refine E_seq ?_ | refine E_region ?_ | refine E_exit rfl ?_ | refine E_ret1 rfl rfl ?_)
    exact ⟨vi_eq (by have := whichN_none hwn; exact this.symm), hC⟩
  have hil : i < ps.length := by omega
  have hpi := hp _ (getM (z := pz) hil)
  have hhit := fun h => whichN_hit (ps := ps) (a := a) (b := b) hwn h hil
  have hnx := fun h => inP_next (ps := ps) (a := a) (b := b) (n := 0) hwn h
  unfold inP at hhit hnx
  repeat (first | refine E_seq ?_ | refine E_skip ?_ | refine E_blockS ?_)
  refine E_region_quiet follows (by kernel_rfl) ?_
  repeat (first | refine T_move rfl rfl ?_ | refine T_sub rfl rfl rfl (by omega) ?_ | refine T_indexT tyT rfl rfl rfl (by assumption) (by omega) ?_ | refine T_fieldT (fun _ _ => by kernel_rfl) rfl rfl (by assumption) (by omega) ?_ | refine T_loadT Try.isAgg3 rfl rfl (by assumption) (by assumption) (by omega) (by rfl) ?_)
  refine T_callQ rfl rfl (fun w9 _ => (inRange_spec _ _ _ w9).mono (fun r w' h => ⟨h.1, h.2 ▸ Below.refl _ _⟩)) ?_
  repeat (first | refine T_move rfl rfl ?_)
  refine T_guard rfl rfl (fun g1 => ?_) (fun g1 => ?_)
  case refine_2 =>
    repeat (first | refine T_off rfl rfl rfl ?_ | refine T_pick_false rfl rfl rfl ?_)
    refine T_nil2 (fun w4 hb9 => ?_)
    have hC := hC.step hC.size hb9
    repeat (first | refine T_move rfl rfl ?_ | refine T_assign rfl rfl ?_ | refine T_nil0 ?_ | refine E_region ?_ | refine T_add rfl rfl rfl (by omega) ?_ | refine E_cond_false rfl ?_ | refine E_skip ?_ | refine E_inBlock ?_)
    exact IH (i + 1) w4 _ ⟨by omega, hnx (by omega), hC⟩ (by omega) ⟨rfl, rfl, rfl, rfl, trivial⟩
  repeat (first | refine T_move rfl rfl ?_ | refine T_on rfl rfl ?_ | refine T_sub rfl rfl rfl (by omega) ?_ | refine T_indexT tyT rfl rfl rfl (by assumption) (by omega) ?_ | refine T_fieldT (fun _ _ => by kernel_rfl) rfl rfl (by assumption) (by omega) ?_ | refine T_loadT Try.isAgg3 rfl rfl (by assumption) (by assumption) (by omega) (by rfl) ?_)
  refine T_callQ rfl rfl (fun w9 _ => (inRange_spec _ _ _ w9).mono (fun r w' h => ⟨h.1, h.2 ▸ Below.refl _ _⟩)) ?_
  repeat (first | refine T_pick_true rfl rfl rfl ?_)
  refine T_nil2 (fun w4 hb9 => ?_)
  have hC := hC.step hC.size hb9
  refine E_cond_if rfl (fun g2 => ?_) (fun g2 => ?_)
  · repeat' (first | refine T_move rfl rfl ?_ | refine T_assign rfl rfl ?_ | refine T_nil0 ?_ | refine E_seq ?_ | refine E_region ?_ | refine E_ret1 rfl rfl ?_)
    exact ⟨vi_eq (hhit (by omega)).symm, hC⟩
  · repeat (first | refine T_move rfl rfl ?_ | refine T_assign rfl rfl ?_ | refine T_nil0 ?_ | refine E_region ?_ | refine T_add rfl rfl rfl (by omega) ?_ | refine E_skip ?_ | refine E_inBlock ?_)
    exact IH (i + 1) w4 _ ⟨by omega, hnx (by omega), hC⟩ (by omega) ⟨rfl, rfl, rfl, rfl, trivial⟩

theorem okC_small {x : Rel} {ps : List Prt} (h : okC x ps) : ∀ p ∈ ps, (0 ≤ p.l ∧ p.r ≤ 60 ∧ 1 ≤ p.r) ∧ (0 ≤ p.f ∧ p.t ≤ 400 ∧ 1 ≤ p.t) := fun p hp => by
  have h1 := h.2.2.1 p hp
  have h2 := h.1.1
  have h3 := h.1.2.1
  unfold okT at h1
  omega

set_option maxHeartbeats 1000000 in
theorem sRollAt_spec (x : Rel) (v : Value) (ps : List Prt) (u : Value) (a b : Int) (w : World) (hI : Recs recD w.heap v x.ds) (hJ : Recs recT w.heap u ps) (hl : x.ds.length ≤ 1048576) (hl2 : ps.length ≤ 1048576) :
    Ret Try.prog 31 #[relV x v, u, .int .i64 a, .int .i64 b] w (fun r w' => r = .tuple #[.int .i64 (rollF x ps a b).1, .int .i64 (rollF x ps a b).2.1, .int .i64 (rollF x ps a b).2.2] ∧ Below w.heap.size w w') := by
  refine Ret_of (args := [_, _, _, _]) Try.call31 Try.func31 rfl _ Try.ntmps31 rfl ?_
  repeat (first | refine E_seq ?_ | refine E_region ?_)
  refine T_box (cs := relC x v) rfl rfl (fun b1 w1 hn1 hx1 hB => ?_)
  have hI := hI.later hB
  have hJ := hJ.later hB
  have hC := Below.refl w1.heap.size w1
  have bad : ∀ w9, Below w1.heap.size w1 w9 → ¬ (okC x ps ∧ 0 ≤ whichF ps a b) → Value.tuple #[.int .i64 (-1), .int .i64 (-1), .int .i64 (-1)] = .tuple #[.int .i64 (rollF x ps a b).1, .int .i64 (rollF x ps a b).2.1, .int .i64 (rollF x ps a b).2.2] ∧ Below w.heap.size w w9 := fun w9 h9 h => ⟨by unfold rollF; rw [if_neg h], hB.step hB.size h9⟩
  repeat (first | refine T_move rfl rfl ?_ | refine T_assign rfl rfl ?_ | refine T_nil0 ?_ | refine E_seq ?_ | refine E_region ?_ | refine T_loadBoxAB aL sL rfl rfl (by assumption) (by assumption) (by rfl) ?_)
  refine T_call rfl rfl (svalidCuts_spec x v ps u w1 hI hJ hl hl2) (fun r w2 hr => ?_)
  obtain ⟨rfl, hb⟩ := hr
  have hC := hC.step hC.size hb
  repeat (first | refine T_nil0 ?_ | refine T_not rfl rfl ?_)
  refine E_cond_if rfl (fun h1 => ?_) (fun h1 => ?_)
  · repeat' (first | refine T_assign rfl rfl ?_ | refine T_nil0 ?_ | refine E_seq ?_ | refine E_region ?_ | refine E_ret3 rfl rfl rfl rfl ?_)
    exact bad _ hC (fun h => h1 h.1)
  have hok := Decidable.not_not.1 h1
  repeat (first | refine T_move rfl rfl ?_ | refine E_seq ?_ | refine E_region ?_ | refine E_skip ?_)
  refine T_call rfl rfl (swhichCut_spec ps u a b w2 (hJ.later hC) hok.2.1 (okC_small hok)) (fun r w3 hr => ?_)
  obtain ⟨rfl, hb⟩ := hr
  have hC := hC.step hC.size hb
  repeat (first | refine T_move rfl rfl ?_ | refine T_assign rfl rfl ?_ | refine T_nil0 ?_ | refine E_seq ?_ | refine E_region ?_ | refine T_cmp rfl rfl rfl rfl ?_)
  refine E_cond_if rfl (fun h2 => ?_) (fun h2 => ?_)
  · repeat' (first | refine T_assign rfl rfl ?_ | refine T_nil0 ?_ | refine E_seq ?_ | refine E_region ?_ | refine E_ret3 rfl rfl rfl rfl ?_)
    exact bad _ hC (fun h => by omega)
  have hr := whichF_range ps a b
  have hin : inP (ps.getD (whichF ps a b).toNat pz) a b := whichN_in ps.length (by have : whichF ps a b = whichN ps a b ps.length := rfl; omega)
  have hpt := hok.at (i := (whichF ps a b).toNat) (by omega)
  have hw := hok.1.1
  have hn := hok.1.2.1
  unfold inP at hin
  unfold okT at hpt
  rw [show rollF x ps a b = (whichF ps a b, a - (ps.getD (whichF ps a b).toNat pz).l, b - (ps.getD (whichF ps a b).toNat pz).f) by unfold rollF; rw [if_pos ⟨hok, by omega⟩]]
  repeat (first | refine E_seq ?_ | refine E_skip ?_)
  refine E_region_still follows (by kernel_rfl) ?_
  repeat' (first | refine T_move rfl rfl ?_ | refine T_assign rfl rfl ?_ | refine T_nil1 ?_ | refine T_sub rfl rfl rfl (by omega) ?_ | refine T_indexTI tyT rfl rfl rfl (by assumption) (by omega) ?_ | refine T_fieldT (fun _ _ => by kernel_rfl) rfl rfl (by assumption) (by omega) ?_ | refine T_loadT Try.isAgg3 rfl rfl (by assumption) (by assumption) (by omega) (by rfl) ?_ | refine E_ret3 rfl rfl rfl rfl ?_)
  exact ⟨rfl, (hB.step hB.size hC).drew⟩

set_option maxHeartbeats 1000000 in
theorem ReelAt_spec (x : Rel) (v : Value) (ps : List Prt) (u : Value) (i a b : Int) (w : World) (hI : Recs recD w.heap v x.ds) (hJ : Recs recT w.heap u ps) :
    Ret Try.prog 24 #[relV x v, u, .int .i64 i, .int .i64 a, .int .i64 b] w (fun r w' => r = .tuple #[.int .i64 (reelF x ps i a b).1, .int .i64 (reelF x ps i a b).2] ∧ Below w.heap.size w w') := by
  refine Ret_of (args := [_, _, _, _, _]) Try.call24 Try.func24 rfl _ Try.ntmps24 rfl ?_
  repeat (first | refine E_seq ?_ | refine E_region ?_)
  refine T_box (cs := relC x v) rfl rfl (fun b1 w1 hn1 hx1 hB => ?_)
  have hI := hI.later hB
  have hJ := hJ.later hB
  have hC := Below.refl w1.heap.size w1
  have bad : ∀ w9, Below w1.heap.size w1 w9 → ¬ okAt x ps i a b → Value.tuple #[.int .i64 (-1), .int .i64 (-1)] = .tuple #[.int .i64 (reelF x ps i a b).1, .int .i64 (reelF x ps i a b).2] ∧ Below w.heap.size w w9 := fun w9 h9 h => ⟨by unfold reelF; rw [if_neg h], hB.step hB.size h9⟩
  repeat (first | refine T_move rfl rfl ?_ | refine T_assign rfl rfl ?_ | refine T_nil0 ?_ | refine E_seq ?_ | refine E_region ?_ | refine T_loadBoxAB aL sL rfl rfl (by assumption) (by assumption) (by rfl) ?_)
  refine T_call rfl rfl (ValidCuts_spec x v ps u w1 hI hJ) (fun r w2 hr => ?_)
  obtain ⟨rfl, hb⟩ := hr
  have hC := hC.step hC.size hb
  repeat (first | refine T_move rfl rfl ?_ | refine T_not rfl rfl ?_)
  refine T_guard rfl rfl (fun h1 => ?_) (fun h1 => ?_)
  · repeat' (first | refine T_move rfl rfl ?_ | refine T_assign rfl rfl ?_ | refine T_nil0 ?_ | refine E_seq ?_ | refine E_region ?_ | refine T_off rfl rfl rfl ?_ | refine T_pick_true rfl rfl rfl ?_ | refine E_cond_true rfl ?_ | refine E_ret2 rfl rfl rfl ?_)
    exact bad _ hC (fun h => h1 h.1)
  have hok := Decidable.not_not.1 h1
  have hl := hok.2.1
  have hw := hok.1.1
  have hn := hok.1.2.1
  repeat (first | refine T_move rfl rfl ?_ | refine T_cmp rfl rfl rfl rfl ?_ | refine T_on rfl rfl ?_ | refine T_pick_false rfl rfl rfl ?_)
  refine T_guard rfl rfl (fun h2 => ?_) (fun h2 => ?_)
  · repeat' (first | refine T_assign rfl rfl ?_ | refine T_nil0 ?_ | refine E_seq ?_ | refine E_region ?_ | refine T_off rfl rfl rfl ?_ | refine T_pick_true rfl rfl rfl ?_ | refine E_cond_true rfl ?_ | refine E_ret2 rfl rfl rfl ?_)
    exact bad _ hC (fun h => by have := h.2.1; omega)
  repeat (first | refine T_move rfl rfl ?_ | refine T_nil0 ?_ | refine T_cmp rfl rfl rfl rfl ?_ | refine T_on rfl rfl ?_ | refine T_pick_false rfl rfl rfl ?_ | refine T_len tyT rfl rfl (Recs.rlen (r := recT) (by assumption)) ?_)
  refine E_cond_if rfl (fun h3 => ?_) (fun h3 => ?_)
  · repeat' (first | refine T_assign rfl rfl ?_ | refine T_nil0 ?_ | refine E_seq ?_ | refine E_region ?_ | refine E_ret2 rfl rfl rfl ?_)
    exact bad _ hC (fun h => by have := h.2.1; omega)
  have hpt := hok.at (i := i.toNat) (by omega)
  unfold okT at hpt
  repeat (first | refine T_move rfl rfl ?_ | refine E_seq ?_ | refine E_region ?_ | refine E_skip ?_ | refine T_indexTI tyT rfl rfl rfl (by assumption) (by omega) ?_ | refine T_loadTA aT sT rfl rfl (by assumption) (by assumption) (by omega) ?_)
  refine T_new (us := recT.enc (ps.getD i.toNat pz)) zT sT rfl (fun _ => rfl) rfl rfl (recT.one _) (fun b8 w8 hn8 hx8 hb => ?_)
  have hC := hC.step hC.size hb
  have h88 := Below.refl w8.heap.size w8
  have hiff : okAt x ps i a b ↔ (0 ≤ a ∧ a < (ps.getD i.toNat pz).r - (ps.getD i.toNat pz).l) ∧ (0 ≤ b ∧ b < (ps.getD i.toNat pz).t - (ps.getD i.toNat pz).f) := ⟨fun h => ⟨h.2.2.1, h.2.2.2⟩, fun h => ⟨hok, by omega, h.1, h.2⟩⟩
  repeat (first | refine T_move rfl rfl ?_ | refine T_nil0 ?_ | refine E_seq ?_ | refine E_region ?_ | refine T_cmp rfl rfl rfl rfl ?_)
  refine T_guard rfl rfl (fun g1 => ?_) (fun g1 => ?_)
  · repeat' (first | refine T_move rfl rfl ?_ | refine T_assign rfl rfl ?_ | refine T_nil0 ?_ | refine E_seq ?_ | refine E_region ?_ | refine T_off rfl rfl rfl ?_ | refine T_pick_true rfl rfl rfl ?_ | refine E_cond_true rfl ?_ | refine E_ret2 rfl rfl rfl ?_)
    exact bad _ hC (fun h => by have := hiff.1 h; omega)
  repeat (first | refine T_move rfl rfl ?_ | refine T_cmp rfl rfl rfl rfl ?_ | refine T_on rfl rfl ?_ | refine T_sub rfl rfl rfl (by omega) ?_ | refine T_pick_false rfl rfl rfl ?_ | refine T_fieldBoxF (fun _ _ => by kernel_rfl) rfl rfl ?_ | refine T_loadBoxB Try.isAgg3 rfl rfl (by assumption) (by assumption) (by rfl) ?_)
  refine T_guard rfl rfl (fun g2 => ?_) (fun g2 => ?_)
  · repeat' (first | refine T_move rfl rfl ?_ | refine T_assign rfl rfl ?_ | refine T_nil0 ?_ | refine E_seq ?_ | refine E_region ?_ | refine T_off rfl rfl rfl ?_ | refine T_pick_true rfl rfl rfl ?_ | refine E_cond_true rfl ?_ | refine E_ret2 rfl rfl rfl ?_)
    exact bad _ hC (fun h => by have := hiff.1 h; omega)
  repeat (first | refine T_move rfl rfl ?_ | refine T_cmp rfl rfl rfl rfl ?_ | refine T_on rfl rfl ?_ | refine T_pick_false rfl rfl rfl ?_)
  refine T_guard rfl rfl (fun g3 => ?_) (fun g3 => ?_)
  · repeat' (first | refine T_assign rfl rfl ?_ | refine T_nil0 ?_ | refine E_seq ?_ | refine E_region ?_ | refine T_off rfl rfl rfl ?_ | refine T_pick_true rfl rfl rfl ?_ | refine E_cond_true rfl ?_ | refine E_ret2 rfl rfl rfl ?_)
    exact bad _ hC (fun h => by have := hiff.1 h; omega)
  repeat (first | refine T_move rfl rfl ?_ | refine T_nil0 ?_ | refine T_cmp rfl rfl rfl rfl ?_ | refine T_on rfl rfl ?_ | refine T_sub rfl rfl rfl (by omega) ?_ | refine T_pick_false rfl rfl rfl ?_ | refine T_fieldBoxF (fun _ _ => by kernel_rfl) rfl rfl ?_ | refine T_loadBoxB Try.isAgg3 rfl rfl (by assumption) (by assumption) (by rfl) ?_)
  refine E_cond_if rfl (fun g4 => ?_) (fun g4 => ?_)
  · repeat' (first | refine T_assign rfl rfl ?_ | refine T_nil0 ?_ | refine E_seq ?_ | refine E_region ?_ | refine E_ret2 rfl rfl rfl ?_)
    exact bad _ hC (fun h => by have := hiff.1 h; omega)
  rw [show reelF x ps i a b = ((ps.getD i.toNat pz).l + a, (ps.getD i.toNat pz).f + b) by unfold reelF; rw [if_pos (hiff.2 (by omega))]]
  repeat (first | refine E_seq ?_ | refine E_skip ?_)
  refine E_region_still follows (by kernel_rfl) ?_
  repeat' (first | refine T_move rfl rfl ?_ | refine T_assign rfl rfl ?_ | refine T_nil1 ?_ | refine T_add rfl rfl rfl (by omega) ?_ | refine T_fieldBoxF (fun _ _ => by kernel_rfl) rfl rfl ?_ | refine T_loadBoxB Try.isAgg3 rfl rfl (by assumption) (by assumption) (by rfl) ?_ | refine E_ret2 rfl rfl rfl ?_)
  exact ⟨rfl, (hB.step hB.size hC).drew⟩

set_option maxHeartbeats 2000000 in
theorem sReelAt_spec (x : Rel) (v : Value) (ps : List Prt) (u : Value) (i a b : Int) (w : World) (hI : Recs recD w.heap v x.ds) (hJ : Recs recT w.heap u ps) (hl : x.ds.length ≤ 1048576) (hl2 : ps.length ≤ 1048576) :
    Ret Try.prog 25 #[relV x v, u, .int .i64 i, .int .i64 a, .int .i64 b] w (fun r w' => r = .tuple #[.int .i64 (reelF x ps i a b).1, .int .i64 (reelF x ps i a b).2] ∧ Below w.heap.size w w') := by
  refine Ret_of (args := [_, _, _, _, _]) Try.call25 Try.func25 rfl _ Try.ntmps25 rfl ?_
  repeat (first | refine E_seq ?_ | refine E_region ?_)
  refine T_box (cs := relC x v) rfl rfl (fun b1 w1 hn1 hx1 hB => ?_)
  have hI := hI.later hB
  have hJ := hJ.later hB
  have hC := Below.refl w1.heap.size w1
  have bad : ∀ w9, Below w1.heap.size w1 w9 → ¬ okAt x ps i a b → Value.tuple #[.int .i64 (-1), .int .i64 (-1)] = .tuple #[.int .i64 (reelF x ps i a b).1, .int .i64 (reelF x ps i a b).2] ∧ Below w.heap.size w w9 := fun w9 h9 h => ⟨by unfold reelF; rw [if_neg h], hB.step hB.size h9⟩
  repeat (first | refine T_assign rfl rfl ?_ | refine T_nil0 ?_ | refine E_seq ?_)
  refine E_region_quiet follows (by kernel_rfl) ?_
  repeat (first | refine T_move rfl rfl ?_ | refine T_loadBoxAB aL sL rfl rfl (by assumption) (by assumption) (by rfl) ?_)
  refine T_callQ rfl rfl (fun w9 hb9 => svalidCuts_spec x v ps u w9 (hI.later hb9) (hJ.later hb9) hl hl2) ?_
  repeat (first | refine T_move rfl rfl ?_ | refine T_not rfl rfl ?_)
  refine T_guard rfl rfl (fun h1 => ?_) (fun h1 => ?_)
  · repeat (first | refine T_move rfl rfl ?_ | refine T_off rfl rfl rfl ?_ | refine T_pick_true rfl rfl rfl ?_)
    refine T_nil2 (fun w4 hb9 => ?_)
    repeat' (first | refine T_assign rfl rfl ?_ | refine T_nil0 ?_ | refine E_seq ?_ | refine E_region ?_ | refine E_cond_true rfl ?_ | refine E_ret2 rfl rfl rfl ?_)
    exact bad _ hb9 (fun h => h1 h.1)
  have hok := Decidable.not_not.1 h1
  have hw := hok.1.1
  have hn := hok.1.2.1
  repeat (first | refine T_move rfl rfl ?_ | refine T_on rfl rfl ?_ | refine T_sub rfl rfl rfl (by omega) ?_ | refine T_len tyT rfl rfl (Recs.rlen (r := recT) (by assumption)) ?_)
  refine T_callQ rfl rfl (fun w9 _ => (inRange_spec _ _ _ w9).mono (fun r w' h => ⟨h.1, h.2 ▸ Below.refl _ _⟩)) ?_
  repeat (first | refine T_move rfl rfl ?_ | refine T_on rfl rfl ?_ | refine T_pick_false rfl rfl rfl ?_ | refine T_not rfl rfl ?_)
  refine T_guard rfl rfl (fun h2 => ?_) (fun h2 => ?_)
  · repeat (first | refine T_move rfl rfl ?_ | refine T_off rfl rfl rfl ?_ | refine T_pick_true rfl rfl rfl ?_)
    refine T_nil2 (fun w4 hb9 => ?_)
    repeat' (first | refine T_assign rfl rfl ?_ | refine T_nil0 ?_ | refine E_seq ?_ | refine E_region ?_ | refine E_cond_true rfl ?_ | refine E_ret2 rfl rfl rfl ?_)
    exact bad _ hb9 (fun h => by have := h.2.1; omega)
  have h2 := Decidable.not_not.1 h2
  have hpt := hok.at (i := i.toNat) (by omega)
  unfold okT at hpt
  have hiff : okAt x ps i a b ↔ (0 ≤ a ∧ a < (ps.getD i.toNat pz).r - (ps.getD i.toNat pz).l) ∧ (0 ≤ b ∧ b < (ps.getD i.toNat pz).t - (ps.getD i.toNat pz).f) := ⟨fun h => ⟨h.2.2.1, h.2.2.2⟩, fun h => ⟨hok, by omega, h.1, h.2⟩⟩
  repeat (first | refine T_move rfl rfl ?_ | refine T_on rfl rfl ?_ | refine T_sub rfl rfl rfl (by omega) ?_ | refine T_indexTI tyT rfl rfl rfl (by assumption) (by omega) ?_ | refine T_fieldT (fun _ _ => by kernel_rfl) rfl rfl (by assumption) (by omega) ?_ | refine T_loadT Try.isAgg3 rfl rfl (by assumption) (by assumption) (by omega) (by rfl) ?_)
  refine T_callQ rfl rfl (fun w9 _ => (inRange_spec _ _ _ w9).mono (fun r w' h => ⟨h.1, h.2 ▸ Below.refl _ _⟩)) ?_
  repeat (first | refine T_move rfl rfl ?_ | refine T_on rfl rfl ?_ | refine T_pick_false rfl rfl rfl ?_ | refine T_not rfl rfl ?_)
  refine T_guard rfl rfl (fun h3 => ?_) (fun h3 => ?_)
  · repeat (first | refine T_off rfl rfl rfl ?_ | refine T_pick_true rfl rfl rfl ?_)
    refine T_nil2 (fun w4 hb9 => ?_)
    repeat' (first | refine T_assign rfl rfl ?_ | refine T_nil0 ?_ | refine E_seq ?_ | refine E_region ?_ | refine E_cond_true rfl ?_ | refine E_ret2 rfl rfl rfl ?_)
    exact bad _ hb9 (fun h => by have := hiff.1 h; omega)
  repeat (first | refine T_move rfl rfl ?_ | refine T_on rfl rfl ?_ | refine T_sub rfl rfl rfl (by omega) ?_ | refine T_indexTI tyT rfl rfl rfl (by assumption) (by omega) ?_ | refine T_fieldT (fun _ _ => by kernel_rfl) rfl rfl (by assumption) (by omega) ?_ | refine T_loadT Try.isAgg3 rfl rfl (by assumption) (by assumption) (by omega) (by rfl) ?_)
  refine T_callQ rfl rfl (fun w9 _ => (inRange_spec _ _ _ w9).mono (fun r w' h => ⟨h.1, h.2 ▸ Below.refl _ _⟩)) ?_
  repeat (first | refine T_on rfl rfl ?_ | refine T_pick_false rfl rfl rfl ?_ | refine T_not rfl rfl ?_)
  refine T_nil2 (fun w4 hb9 => ?_)
  have hC := hC.step hC.size hb9
  refine E_cond_if rfl (fun h4 => ?_) (fun h4 => ?_)
  · repeat' (first | refine T_assign rfl rfl ?_ | refine T_nil0 ?_ | refine E_seq ?_ | refine E_region ?_ | refine E_ret2 rfl rfl rfl ?_)
    exact bad _ hC (fun h => by have := hiff.1 h; omega)
  rw [show reelF x ps i a b = (a + (ps.getD i.toNat pz).l, b + (ps.getD i.toNat pz).f) by unfold reelF; rw [if_pos (hiff.2 (by omega))]; congr 1 <;> omega]
  repeat (first | refine E_seq ?_ | refine E_skip ?_)
  refine E_region_still follows (by kernel_rfl) ?_
  repeat' (first | refine T_move rfl rfl ?_ | refine T_assign rfl rfl ?_ | refine T_nil1 ?_ | refine T_add rfl rfl rfl (by omega) ?_ | refine T_indexTI tyT rfl rfl rfl (by assumption) (by omega) ?_ | refine T_fieldT (fun _ _ => by kernel_rfl) rfl rfl (by assumption) (by omega) ?_ | refine T_loadT Try.isAgg3 rfl rfl (by assumption) (by assumption) (by omega) (by rfl) ?_ | refine E_ret2 rfl rfl rfl ?_)
  exact ⟨rfl, (hB.step hB.size hC).drew⟩

theorem areaOf_spec (p : Prt) (w : World) (hp : (0 ≤ p.r - p.l ∧ p.r - p.l ≤ 60) ∧ (0 ≤ p.t - p.f ∧ p.t - p.f ≤ 400)) :
    Ret Try.prog 50 #[.agg (recT.enc p).toArray] w (fun r w' => r = .int .i64 (areaT p) ∧ Below w.heap.size w w') := by
  have hm : (p.r - p.l) * (p.t - p.f) ≤ 60 * 400 := Int.mul_le_mul hp.1.2 hp.2.2 hp.2.1 (by omega)
  have hm2 : 0 ≤ (p.r - p.l) * (p.t - p.f) := Int.mul_nonneg hp.1.1 hp.2.1
  refine Ret_of (args := [_]) Try.call50 Try.func50 rfl _ Try.ntmps50 rfl ?_
  repeat (first | refine E_seq ?_ | refine E_region ?_)
  refine T_box rfl rfl (fun b1 w1 hn1 hx1 hB => ?_)
  have hC := Below.refl w1.heap.size w1
  repeat (first | refine T_assign rfl rfl ?_ | refine T_nil0 ?_ | refine E_seq ?_ | refine E_region ?_ | refine T_sub rfl rfl rfl (by omega) ?_ | refine T_fieldBoxF (fun _ _ => by kernel_rfl) rfl rfl ?_ | refine T_loadBoxB Try.isAgg3 rfl rfl (by assumption) (by assumption) (by rfl) ?_)
  refine T_mul rfl rfl rfl (by omega) ?_
  repeat' (first | refine T_assign rfl rfl ?_ | refine T_nil0 ?_ | refine E_ret1 rfl rfl ?_)
  exact ⟨rfl, hB⟩
theorem partArea_spec (p : Prt) (w : World) (hp : (0 ≤ p.r - p.l ∧ p.r - p.l ≤ 60) ∧ (0 ≤ p.t - p.f ∧ p.t - p.f ≤ 400)) :
    Ret Try.prog 64 #[.agg (recT.enc p).toArray] w (fun r w' => r = .int .i64 (areaT p) ∧ Below w.heap.size w w') := by
  have hm : (p.r - p.l) * (p.t - p.f) ≤ 60 * 400 := Int.mul_le_mul hp.1.2 hp.2.2 hp.2.1 (by omega)
  have hm2 : 0 ≤ (p.r - p.l) * (p.t - p.f) := Int.mul_nonneg hp.1.1 hp.2.1
  refine Ret_of (args := [_]) Try.call64 Try.func64 rfl _ Try.ntmps64 rfl ?_
  repeat (first | refine E_seq ?_ | refine E_region ?_)
  refine T_box rfl rfl (fun b1 w1 hn1 hx1 hB => ?_)
  have hC := Below.refl w1.heap.size w1
  repeat (first | refine T_assign rfl rfl ?_ | refine T_nil0 ?_ | refine E_seq ?_ | refine E_region ?_ | refine T_sub rfl rfl rfl (by omega) ?_ | refine T_fieldBoxF (fun _ _ => by kernel_rfl) rfl rfl ?_ | refine T_loadBoxB Try.isAgg3 rfl rfl (by assumption) (by assumption) (by rfl) ?_)
  refine T_mul rfl rfl rfl (by omega) ?_
  repeat' (first | refine T_assign rfl rfl ?_ | refine T_nil0 ?_ | refine E_ret1 rfl rfl ?_)
  exact ⟨rfl, hB⟩

set_option maxHeartbeats 1000000 in
theorem AreaLeft_spec (x : Rel) (v : Value) (ps : List Prt) (u : Value) (w : World) (hI : Recs recD w.heap v x.ds) (hJ : Recs recT w.heap u ps) :
    Ret Try.prog 28 #[relV x v, u] w (fun r w' => r = .int .i64 (leftF x ps) ∧ Below w.heap.size w w') := by
  refine Ret_of (args := [_, _]) Try.call28 Try.func28 rfl _ Try.ntmps28 rfl ?_
  repeat (first | refine E_seq ?_ | refine E_region ?_)
  refine T_box (cs := relC x v) rfl rfl (fun b1 w1 hn1 hx1 hB => ?_)
  have hI := hI.later hB
  have hJ := hJ.later hB
  have hC := Below.refl w1.heap.size w1
  repeat (first | refine T_move rfl rfl ?_ | refine T_assign rfl rfl ?_ | refine T_nil0 ?_ | refine E_seq ?_ | refine E_region ?_ | refine T_loadBoxAB aL sL rfl rfl (by assumption) (by assumption) (by rfl) ?_)
  refine T_call rfl rfl (ValidCuts_spec x v ps u w1 hI hJ) (fun r w2 hr => ?_)
  obtain ⟨rfl, hb⟩ := hr
  have hC := hC.step hC.size hb
  repeat (first | refine T_nil0 ?_ | refine T_not rfl rfl ?_)
  refine E_cond_if rfl (fun h1 => ?_) (fun h1 => ?_)
  · repeat' (first | refine T_assign rfl rfl ?_ | refine T_nil0 ?_ | refine E_seq ?_ | refine E_region ?_ | refine E_ret1 rfl rfl ?_)
    exact ⟨by unfold leftF; rw [if_neg h1], hB.step hB.size hC⟩
  have hok := Decidable.not_not.1 h1
  have hl := hok.2.1
  have hw := hok.1.1
  have hn := hok.1.2.1
  have hm : x.w * x.n ≤ 60 * 400 := Int.mul_le_mul hw.2 hn.2 (by omega) (by omega)
  have hm2 : 0 ≤ x.w * x.n := Int.mul_nonneg (by omega) (by omega)
  rw [show leftF x ps = x.w * x.n - cutA ps by unfold leftF; rw [if_pos hok]]
  repeat (first | refine E_seq ?_ | refine E_region ?_ | refine E_skip ?_ | refine T_fieldBoxF (fun _ _ => by kernel_rfl) rfl rfl ?_ | refine T_loadBoxB Try.isAgg3 rfl rfl (by assumption) (by assumption) (by rfl) ?_)
  refine T_mul rfl rfl rfl (by omega) ?_
  repeat (first | refine T_move rfl rfl ?_ | refine T_assign rfl rfl ?_ | refine T_nil0 ?_ | refine E_seq ?_ | refine E_region ?_ | refine T_len tyT rfl rfl (Recs.rlen (r := recT) (by assumption)) ?_)
  refine E_loop (σ := Nat) (fun i => [(5, .int .i64 (x.w * x.n - cutA (ps.take i))), (17, u), (18, .int .i64 ps.length), (19, .int .i64 i)])
    (fun i w' => i ≤ ps.length ∧ Below w1.heap.size w1 w') (fun i => ps.length - i) 0
    ⟨by omega, hC⟩ ⟨slotI rfl (by simp [cutA]), rfl, rfl, rfl, trivial⟩ ?_
  clear hC
  rintro i w3 ⟨hi, hC⟩ IH
  repeat (first | refine T_nil0 ?_ | refine E_seq ?_ | refine E_region ?_ | refine T_cmp rfl rfl rfl rfl ?_)
  refine E_cond_if rfl (fun hp => ?_) (fun hp => ?_)
  case refine_2 =>
    have e : i = ps.length := by omega
    subst e
    rw [List.take_length]
    repeat' (first | refine T_move rfl rfl ?_ | refine T_assign rfl rfl ?_ | refine T_nil0 ?_ | refine E_seq ?_ | refine E_region ?_ | refine E_exit rfl ?_ | refine E_ret1 rfl rfl ?_)
    exact ⟨rfl, hB.step hB.size hC⟩
  have hil : i < ps.length := by omega
  have hst := cutA_step hil
  have hcb := cutA_bound hok.1 (ps := ps.take i) (fun p hp => hok.2.2.1 p (List.mem_of_mem_take hp))
  have htl : (ps.take i).length = i := by simp; omega
  have hpt := hok.at hil
  have hab := areaT_bound hok.1 hpt
  unfold okT at hpt
  repeat (first | refine E_seq ?_ | refine E_region ?_ | refine E_skip ?_ | refine E_blockS ?_ | refine T_indexT tyT rfl rfl rfl (by assumption) (by omega) ?_ | refine T_loadTA aT sT rfl rfl (by assumption) (by assumption) (by omega) ?_)
  refine T_new (us := recT.enc (ps.getD i pz)) zT sT rfl (fun _ => rfl) rfl rfl (recT.one _) (fun b8 w8 hn8 hx8 hb => ?_)
  have hC := hC.step hC.size hb
  have h88 := Below.refl w8.heap.size w8
  repeat (first | refine T_move rfl rfl ?_ | refine T_nil0 ?_ | refine E_region ?_ | refine T_loadBoxAB aT sT rfl rfl (by assumption) (by assumption) (by rfl) ?_)
  refine T_call rfl rfl (areaOf_spec (ps.getD i pz) w8 (by omega)) (fun r w9 hr => ?_)
  obtain ⟨rfl, hb⟩ := hr
  have hC := hC.step hC.size hb
  repeat (first | refine T_move rfl rfl ?_ | refine T_assign rfl rfl ?_ | refine T_nil0 ?_ | refine E_region ?_ | refine T_add rfl rfl rfl (by omega) ?_ | refine T_sub rfl rfl rfl (by omega) ?_ | refine E_inBlock ?_)
  exact IH (i + 1) w9 _ ⟨by omega, hC⟩ (by omega) ⟨slotI rfl (by omega), rfl, rfl, rfl, trivial⟩

set_option maxHeartbeats 1000000 in
theorem scutArea_spec (x : Rel) (ps : List Prt) (u : Value) (w : World) (hJ : Recs recT w.heap u ps) (hok : okC x ps) :
    Ret Try.prog 51 #[u] w (fun r w' => r = .int .i64 (cutA ps) ∧ Below w.heap.size w w') := by
  have hl := hok.2.1
  refine Ret_of (args := [_]) Try.call51 Try.func51 rfl _ Try.ntmps51 rfl ?_
  have hC := Below.refl w.heap.size w
  repeat (first | refine T_assign rfl rfl ?_ | refine T_nil0 ?_ | refine E_seq ?_ | refine E_region ?_)
  refine E_loop (σ := Nat) (fun i => [(0, u), (3, .int .i64 (cutA (ps.take i))), (4, .int .i64 i)])
    (fun i w' => i ≤ ps.length ∧ Below w.heap.size w w') (fun i => ps.length - i) 0
    ⟨by omega, hC⟩ ⟨rfl, slotI rfl (by simp [cutA]), rfl, trivial⟩ ?_
  clear hC
  rintro i w3 ⟨hi, hC⟩ IH
  repeat (first | refine T_move rfl rfl ?_ | refine T_nil0 ?_ | refine E_seq ?_ | refine E_region ?_ | refine T_cmp rfl rfl rfl rfl ?_ | refine T_len tyT rfl rfl (Recs.rlen (r := recT) (by assumption)) ?_)
  refine E_cond_if rfl (fun hp => ?_) (fun hp => ?_)
  case refine_2 =>
    have e : i = ps.length := by omega
    subst e
    rw [List.take_length]
    repeat' (first | refine T_move rfl rfl ?_ | refine T_assign rfl rfl ?_ | refine T_nil0 ?_ | refine E_seq ?_ | refine E_region ?_ | refine E_exit rfl ?_ | refine E_ret1 rfl rfl ?_)
    exact ⟨rfl, hC⟩
  have hil : i < ps.length := by omega
  have hst := cutA_step hil
  have hcb := cutA_bound hok.1 (ps := ps.take i) (fun p hp => hok.2.2.1 p (List.mem_of_mem_take hp))
  have htl : (ps.take i).length = i := by simp; omega
  have hpt := hok.at hil
  have hab := areaT_bound hok.1 hpt
  have hw := hok.1.1
  have hn := hok.1.2.1
  unfold okT at hpt
  repeat (first | refine T_move rfl rfl ?_ | refine E_seq ?_ | refine E_region ?_ | refine E_skip ?_ | refine E_blockR ?_ | refine T_indexT tyT rfl rfl rfl (by assumption) (by omega) ?_ | refine T_loadTA aT sT rfl rfl (by assumption) (by assumption) (by omega) ?_)
  refine T_call rfl rfl (partArea_spec (ps.getD i pz) w3 (by omega)) (fun r w9 hr => ?_)
  obtain ⟨rfl, hb⟩ := hr
  have hC := hC.step hC.size hb
  repeat (first | refine T_move rfl rfl ?_ | refine T_assign rfl rfl ?_ | refine T_nil0 ?_ | refine E_region ?_ | refine T_add rfl rfl rfl (by omega) ?_ | refine E_inBlock ?_)
  exact IH (i + 1) w9 _ ⟨by omega, hC⟩ (by omega) ⟨rfl, slotI rfl hst.symm, rfl, trivial⟩
theorem sAreaLeft_spec (x : Rel) (v : Value) (ps : List Prt) (u : Value) (w : World) (hI : Recs recD w.heap v x.ds) (hJ : Recs recT w.heap u ps) (hl : x.ds.length ≤ 1048576) (hl2 : ps.length ≤ 1048576) :
    Ret Try.prog 29 #[relV x v, u] w (fun r w' => r = .int .i64 (leftF x ps) ∧ Below w.heap.size w w') := by
  refine Ret_of (args := [_, _]) Try.call29 Try.func29 rfl _ Try.ntmps29 rfl ?_
  repeat (first | refine E_seq ?_ | refine E_region ?_)
  refine T_box (cs := relC x v) rfl rfl (fun b1 w1 hn1 hx1 hB => ?_)
  have hI := hI.later hB
  have hJ := hJ.later hB
  have hC := Below.refl w1.heap.size w1
  repeat (first | refine T_move rfl rfl ?_ | refine T_assign rfl rfl ?_ | refine T_nil0 ?_ | refine E_seq ?_ | refine E_region ?_ | refine T_loadBoxAB aL sL rfl rfl (by assumption) (by assumption) (by rfl) ?_)
  refine T_call rfl rfl (svalidCuts_spec x v ps u w1 hI hJ hl hl2) (fun r w2 hr => ?_)
  obtain ⟨rfl, hb⟩ := hr
  have hC := hC.step hC.size hb
  repeat (first | refine T_nil0 ?_ | refine T_not rfl rfl ?_)
  refine E_cond_if rfl (fun h1 => ?_) (fun h1 => ?_)
  · repeat' (first | refine T_assign rfl rfl ?_ | refine T_nil0 ?_ | refine E_seq ?_ | refine E_region ?_ | refine E_ret1 rfl rfl ?_)
    exact ⟨by unfold leftF; rw [if_neg h1], hB.step hB.size hC⟩
  have hok := Decidable.not_not.1 h1
  have hl := hok.2.1
  have hw := hok.1.1
  have hn := hok.1.2.1
  have hm : x.w * x.n ≤ 60 * 400 := Int.mul_le_mul hw.2 hn.2 (by omega) (by omega)
  have hm2 : 0 ≤ x.w * x.n := Int.mul_nonneg (by omega) (by omega)
  have hcb := cutA_bound hok.1 (ps := ps) hok.2.2.1
  rw [show leftF x ps = x.w * x.n - cutA ps by unfold leftF; rw [if_pos hok]]
  repeat (first | refine E_seq ?_ | refine E_skip ?_)
  refine E_region_quiet follows (by kernel_rfl) ?_
  repeat (first | refine T_fieldBoxF (fun _ _ => by kernel_rfl) rfl rfl ?_ | refine T_loadBoxB Try.isAgg3 rfl rfl (by assumption) (by assumption) (by rfl) ?_)
  refine T_mul rfl rfl rfl (by omega) ?_
  repeat (first | refine T_move rfl rfl ?_)
  refine T_callQ rfl rfl (fun w9 hb9 => scutArea_spec x ps u w9 ((hJ.later hC).later hb9) hok) ?_
  repeat (first | refine T_assign rfl rfl ?_ | refine T_sub rfl rfl rfl (by omega) ?_)
  refine T_nil2 (fun w9 hb9 => ?_)
  repeat' (first | refine E_ret1 rfl rfl ?_)
  exact ⟨rfl, hB.step hB.size (hC.step hC.size hb9)⟩
end Go.Proofs.Ytnecmchcemnopaa
