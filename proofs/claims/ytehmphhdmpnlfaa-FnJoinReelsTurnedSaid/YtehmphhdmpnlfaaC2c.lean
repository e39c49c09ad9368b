/-
  Contracts: JoinReels of both sides. Conditions: the arguments lie in memory as the contract says.
-/
import Derived.Test.YtehmphhdmpnlfaaLibR2
import Derived.Test.YtehmphhdmpnlfaaC2b
namespace Go.Proofs.Ytehmphhdmpnlfaa
open Go Go.PR Go.RowKit attribute [local irreducible] T E Ints Sl Bools OwnI OwnB OwnR Recs Box Ret
attribute [local irreducible] X

theorem joined_nil (a b : Rel) : a.ds ++ (b.ds.take 0).map (shiftD a.n) = a.ds := by simp

set_option maxHeartbeats 2000000 in
theorem JoinReels_spec (a : Rel) (v : Value) (b : Rel) (u : Value) (w : World) (hI : Recs recD w.heap v a.ds) (hJ : Recs recD w.heap u b.ds) :
    Ret Try.prog 28 #[relV a v, relV b u] w (fun r w' => ∃ q, r = .tuple #[relV (joinF a b) q, .bool (decide (joinOk a b))] ∧ OwnR recD w' w.heap.size 57 q (joinF a b).ds ∧ Below w.heap.size w w') := by
  refine Ret_of (args := [_, _]) Try.call28 Try.func28 rfl _ Try.ntmps28 rfl ?_
  repeat (first | refine E_seq ?_ | refine E_region ?_)
  refine T_box (cs := relC a v) rfl rfl (fun b1 w1 hn1 hx1 hB => ?_); refine T_box (cs := relC b u) rfl rfl (fun b2 w2 hn2 hx2 hb => ?_); have hx1 := hx1.later hb; have hB := hB.step hB.size hb
  have hz2 := hB.size
  refine T_alloc zL rfl (fun b4 w3 hn4 hx4 hb => ?_)
  have hx1 := hx1.later hb
  have hx2 := hx2.later hb
  have hB := hB.step hB.size hb
  have hI := hI.later hB
  have hJ := hJ.later hB
  have hl4 := hx4.lt
  have hzb := hB.size
  have hC := Below.refl w3.heap.size w3
  have bad : ∀ w9 w10, ¬ joinOk a b → Below w3.heap.size w3 w9 → w9.grownBy w10 (some b4) → (∃ q, Value.tuple #[.agg (relC rz (.slice none 0 0)).toArray, .bool false] = .tuple #[relV (joinF a b) q, .bool (decide (joinOk a b))] ∧ OwnR recD w10 w.heap.size 57 q (joinF a b).ds ∧ Below w.heap.size w w10) := fun w9 w10 hF h9 hg => by
    rw [show joinF a b = rz by unfold joinF; rw [if_neg hF], decide_eq_false hF]
    exact ⟨_, rfl, OwnR.nil _ _ _ _, (hB.step hB.size h9).grown hg (by have := h9.size; omega) (fun c hc => by simp at hc; omega)⟩
  repeat (first | refine T_assign rfl rfl ?_ | refine T_nil0 ?_ | refine E_seq ?_ | refine E_region ?_ | refine T_loadBoxAB aL sL rfl rfl (by assumption) (by assumption) (by rfl) ?_)
  refine T_call rfl rfl (ValidReel_spec a v w3 hI) (fun r w4 hr => ?_)
  obtain ⟨rfl, hb⟩ := hr
  have hC := hC.step hC.size hb
  repeat (first | refine T_move rfl rfl ?_ | refine T_not rfl rfl ?_)
  refine T_guard rfl rfl (fun h1 => ?_) (fun h1 => ?_)
  · repeat (first | refine T_move rfl rfl ?_ | refine T_nil0 ?_ | refine E_seq ?_ | refine E_region ?_ | refine T_off rfl rfl rfl ?_ | refine T_pick_true rfl rfl rfl ?_ | refine E_cond_true rfl ?_)
    refine T_build (ps := []) rfl rfl bL0 ?_
    refine T_storeBoxA (us := relC rz (.slice none 0 0)) sL rfl rfl rfl (relC_one (k := 0) ⟨_, _, rfl⟩) (hx4.later hC) rfl (fun w9 hx9 hg9 _ => ?_)
    repeat (first | refine T_assign rfl rfl ?_ | refine T_nil0 ?_)
    exact E_retC1 rfl rfl rfl aL sL hx9 rfl (bad _ _ (fun h => h1 h.1) hC hg9)
  have ha := Decidable.not_not.1 h1
  repeat (first | refine T_on rfl rfl ?_ | refine T_loadBoxAB aL sL rfl rfl (by assumption) (by assumption) (by rfl) ?_)
  refine T_call rfl rfl (ValidReel_spec b u w4 (hJ.later hC)) (fun r w5 hr => ?_)
  obtain ⟨rfl, hb⟩ := hr
  have hC := hC.step hC.size hb
  repeat (first | refine T_move rfl rfl ?_ | refine T_on rfl rfl ?_ | refine T_pick_false rfl rfl rfl ?_ | refine T_not rfl rfl ?_)
  refine T_guard rfl rfl (fun h2 => ?_) (fun h2 => ?_)
  · repeat (first | refine T_nil0 ?_ | refine E_seq ?_ | refine E_region ?_ | refine T_off rfl rfl rfl ?_ | refine T_pick_true rfl rfl rfl ?_ | refine E_cond_true rfl ?_)
    refine T_build (ps := []) rfl rfl bL0 ?_
    refine T_storeBoxA (us := relC rz (.slice none 0 0)) sL rfl rfl rfl (relC_one (k := 0) ⟨_, _, rfl⟩) (hx4.later hC) rfl (fun w9 hx9 hg9 _ => ?_)
    repeat (first | refine T_assign rfl rfl ?_ | refine T_nil0 ?_)
    exact E_retC1 rfl rfl rfl aL sL hx9 rfl (bad _ _ (fun h => h2 h.2.1) hC hg9)
  have hb' := Decidable.not_not.1 h2
  repeat (first | refine T_nil0 ?_ | refine T_cmp rfl rfl rfl rfl ?_ | refine T_on rfl rfl ?_ | refine T_pick_false rfl rfl rfl ?_ | refine T_fieldBoxF (fun _ _ => by kernel_rfl) rfl rfl ?_ | refine T_loadBoxB Try.isAgg3 rfl rfl (by assumption) (by assumption) (by rfl) ?_)
  refine E_cond_if rfl (fun h3 => ?_) (fun h3 => ?_)
  · repeat (first | refine E_seq ?_ | refine E_region ?_)
    refine T_build (ps := []) rfl rfl bL0 ?_
    refine T_storeBoxA (us := relC rz (.slice none 0 0)) sL rfl rfl rfl (relC_one (k := 0) ⟨_, _, rfl⟩) (hx4.later hC) rfl (fun w9 hx9 hg9 _ => ?_)
    repeat (first | refine T_assign rfl rfl ?_ | refine T_nil0 ?_)
    exact E_retC1 rfl rfl rfl aL sL hx9 rfl (bad _ _ (fun h => h3 h.2.2.1) hC hg9)
  have hwe : a.w = b.w := Decidable.not_not.1 h3
  have hna := ha.2.1
  have hnb := hb'.2.1
  have hla := ha.2.2.1
  have hlb := hb'.2.2.1
  repeat (first | refine E_seq ?_ | refine E_region ?_ | refine T_add rfl rfl rfl (by omega) ?_ | refine E_skip ?_ | refine T_fieldBoxF (fun _ _ => by kernel_rfl) rfl rfl ?_ | refine T_loadBoxB Try.isAgg3 rfl rfl (by assumption) (by assumption) (by rfl) ?_)
  refine T_build rfl rfl (bL2 _ _) ?_
  have hz4 := hC.size
  refine T_new (us := relC ⟨a.w, a.n + b.n, []⟩ (.slice none 0 0)) zL sL rfl (fun _ => rfl) rfl rfl (relC_one (k := 0) ⟨_, _, rfl⟩) (fun b5 w6 hn5 hxo hb => ?_)
  have hC := hC.step hC.size hb
  have hl5 := hxo.lt
  have hO : OwnR recD w6 w6.heap.size 57 (.slice none 0 0) [] := OwnR.nil _ _ _ _
  have hC6 := Below.refl w6.heap.size w6
  repeat (first | refine T_nil0 ?_ | refine E_seq ?_ | refine E_region ?_ | refine T_fieldBoxF (fun _ _ => by kernel_rfl) rfl rfl ?_ | refine T_loadBoxB Try.isAgg3 rfl rfl (by assumption) (by assumption) (by rfl) ?_)
  refine T_appendR (r := recD) tyD rfl rfl rfl hO (hI.later hC) (Nat.le_refl _) (by simp; omega) (by simp; omega) (fun ov w7 hO hg hor => ?_)
  have hbo := hO.blk
  have hgs7 := hg.size
  have hxo := hxo.kept hg (by simp [Value.ownBlock])
  have hC := hC.grown hg hC.size (fun c hc => by simp [Value.ownBlock] at hc)
  rw [List.nil_append] at hO
  repeat (first | refine T_fieldBoxF (fun _ _ => by kernel_rfl) rfl rfl ?_)
  refine T_storeBox s1Ds rfl rfl (slice_one hO.recs.rlen) hxo (Nat.le_of_ble_eq_true rfl) (fun w8 hxo hg hs8 => ?_)
  have hO := hO.kept hg (hbo.ne_some (.inr (by omega)))
  have hC := hC.grown hg hC.size (fun c hc => by simp at hc; omega)
  repeat (first | refine T_move rfl rfl ?_ | refine T_nil0 ?_ | refine E_seq ?_ | refine E_region ?_ | refine T_fieldBoxF (fun _ _ => by kernel_rfl) rfl rfl ?_ | refine T_loadBoxB Try.isAgg3 rfl rfl (by assumption) (by assumption) (by rfl) ?_ | refine T_len tyD rfl rfl (Recs.rlen (r := recD) (by assumption)) ?_)
  refine E_loop (σ := Nat × Value) (fun ⟨i, ov⟩ => [(2, bPtr b1 0), (3, bPtr b2 0), (4, bPtr b4 0), (6, bPtr b5 0), (40, u), (41, .int .i64 b.ds.length), (42, .int .i64 i)])
    (fun ⟨i, ov⟩ w' => i ≤ b.ds.length ∧ Box w'.heap b5 (relC ⟨a.w, a.n + b.n, []⟩ ov) ∧ OwnR recD w' w6.heap.size 57 ov (a.ds ++ (b.ds.take i).map (shiftD a.n)) ∧ Below w3.heap.size w3 w' ∧ w6.heap.size ≤ w'.heap.size) (fun ⟨i, _⟩ => b.ds.length - i) (0, ov)
    ⟨by omega, hxo, by rw [joined_nil]; exact hO, hC, by omega⟩ ⟨rfl, rfl, rfl, rfl, rfl, rfl, rfl, trivial⟩ ?_
  clear hC hxo hO hbo
  rintro ⟨i, ov⟩ w9 ⟨hi, hxo, hO, hC, hz6⟩ IH
  repeat (first | refine T_nil0 ?_ | refine E_seq ?_ | refine E_region ?_ | refine T_cmp rfl rfl rfl rfl ?_)
  refine E_cond_if rfl (fun hp => ?_) (fun hp => ?_)
  case refine_2 =>
    have e : i = b.ds.length := by omega
    subst e
    rw [List.take_length] at hO
    have hO : OwnR recD w9 w6.heap.size 57 ov (joinN a b).ds := hO
    have hC9 := Below.refl w9.heap.size w9
    repeat (first | refine E_seq ?_ | refine E_region ?_ | refine E_exit rfl ?_ | refine T_loadBoxAB aL sL rfl rfl (by assumption) (by assumption) (by rfl) ?_)
    refine T_call rfl rfl (ValidReel_spec (joinN a b) ov w9 hO.recs) (fun r w10 hr => ?_)
    obtain ⟨rfl, hb⟩ := hr
    have hC := hC.step hC.size hb
    have hO := hO.later hb
    have hxo := hxo.later hb
    have hz10 := hb.size
    clear hC9
    repeat (first | refine T_nil0 ?_ | refine T_not rfl rfl ?_)
    refine E_cond_if rfl (fun h4 => ?_) (fun h4 => ?_)
    · repeat (first | refine E_seq ?_ | refine E_region ?_)
      refine T_build (ps := []) rfl rfl bL0 ?_
      refine T_storeBoxA (us := relC rz (.slice none 0 0)) sL rfl rfl rfl (relC_one (k := 0) ⟨_, _, rfl⟩) (hx4.later hC) rfl (fun w11 hx9 hg9 _ => ?_)
      repeat (first | refine T_assign rfl rfl ?_ | refine T_nil0 ?_)
      exact E_retC1 rfl rfl rfl aL sL hx9 rfl (bad _ _ (fun h => h4 h.2.2.2) hC hg9)
    have hok : joinOk a b := ⟨ha, hb', hwe, Decidable.not_not.1 h4⟩
    rw [show joinF a b = joinN a b by unfold joinF; rw [if_pos hok], decide_eq_true hok]
    repeat (first | refine E_seq ?_ | refine E_region ?_ | refine E_skip ?_)
    refine T_loadBoxA (cs := relC (joinN a b) ov) aL sL rfl rfl hxo rfl ?_
    refine T_storeBoxA (us := relC (joinN a b) ov) sL rfl rfl rfl (relC_one hO.recs.rlen) (hx4.later hC) rfl (fun w11 hx9 hg9 _ => ?_)
    have hO := hO.kept hg9 (hO.blk.ne_some (.inr (by omega)))
    repeat (first | refine T_assign rfl rfl ?_ | refine T_nil0 ?_)
    exact E_retC1 rfl rfl rfl aL sL hx9 rfl ⟨ov, rfl, hO.base (by omega), (hB.step hB.size hC).grown hg9 (by omega) (fun c hc => by simp at hc; omega)⟩
  have hil : i < b.ds.length := by omega
  have hst := map_step (z := dz) (shiftD a.n) hil
  have htl : (a.ds ++ (b.ds.take i).map (shiftD a.n)).length = a.ds.length + i := by simp; omega
  have hbv := hO.blk
  have hlx := hxo.lt
  repeat (first | refine E_seq ?_ | refine E_region ?_ | refine E_skip ?_ | refine E_blockS ?_ | refine T_indexD tyD rfl rfl rfl (by assumption) (by omega) ?_ | refine T_loadDA aD sD rfl rfl (by assumption) (by assumption) (by omega) ?_)
  refine T_new (us := recD.enc (b.ds.getD i dz)) zD sD rfl (fun _ => rfl) rfl rfl (recD.one _) (fun b7 w10 hn7 hx7 hb => ?_)
  have hC := hC.step hC.size hb
  have hO := hO.later hb
  have hxo := hxo.later hb
  have hz7 := hb.size
  have hokd := hb'.2.2.2 _ (getM (z := dz) hil)
  generalize b.ds.getD i dz = d at *
  have hst2 : a.ds ++ (b.ds.take i).map (shiftD a.n) ++ [shiftD a.n d] = a.ds ++ (b.ds.take (i + 1)).map (shiftD a.n) := by rw [hst, List.append_assoc]
  generalize a.ds ++ (b.ds.take i).map (shiftD a.n) = L at *
  unfold okD at hokd
  have hC10 := Below.refl w10.heap.size w10
  repeat (first | refine T_nil0 ?_ | refine E_seq ?_ | refine E_region ?_ | refine T_add rfl rfl rfl (by omega) ?_ | refine T_fieldBoxF (fun _ _ => by kernel_rfl) rfl rfl ?_ | refine T_loadBoxB Try.isAgg3 rfl rfl (by assumption) (by assumption) (by rfl) ?_)
  refine T_storeBox Try.sizeOf3 rfl rfl rfl hx7 (Nat.le_of_ble_eq_true rfl) (fun w11 hx7 hg _ => ?_); have hgd := hg.size; have hO := hO.kept hg (hbv.ne_some (.inl hn7)); have hxo := hxo.kept hg (fun e => by simp at e; omega); have hC := hC.grown hg hC.size (fun c hc => by simp at hc; omega); have hRR := Below.refl w11.heap.size w11
  clear hC10
  repeat (first | refine T_nil0 ?_ | refine E_seq ?_ | refine E_region ?_ | refine T_add rfl rfl rfl (by omega) ?_ | refine T_fieldBoxF (fun _ _ => by kernel_rfl) rfl rfl ?_ | refine T_loadBoxB Try.isAgg3 rfl rfl (by assumption) (by assumption) (by rfl) ?_)
  refine T_storeBox Try.sizeOf3 rfl rfl rfl hx7 (Nat.le_of_ble_eq_true rfl) (fun w12 hx7 hg _ => ?_); have hgd := hg.size; have hO := hO.kept hg (hbv.ne_some (.inl hn7)); have hxo := hxo.kept hg (fun e => by simp at e; omega); have hC := hC.grown hg hC.size (fun c hc => by simp at hc; omega); have hRR := Below.refl w12.heap.size w12
  have hx7 : Box _ b7 (recD.enc (shiftD a.n d)) := hx7
  repeat (first | refine T_nil0 ?_ | refine E_region ?_ | refine T_fieldBoxF (fun _ _ => by kernel_rfl) rfl rfl ?_ | refine T_loadBoxB Try.isAgg3 rfl rfl (by assumption) (by assumption) (by rfl) ?_ | refine T_loadBoxAB aD sD rfl rfl (by assumption) (by assumption) (by rfl) ?_)
  refine T_lit1 (r := recD) tyD rfl rfl rfl (fun lv _ hL _ _ hb => ?_); have hgb := hb.size; have hxo := hxo.later hb; have hO := hO.later hb; have hC := hC.step hC.size hb; have hbo := hO.blk; have hlo := hxo.lt; have hgz := hC.size; refine T_appendR (r := recD) tyD rfl rfl rfl hO hL.recs (by omega) (by simp; omega) (by simp; omega) (fun ov' _ hO hg _ => ?_); have hga := hg.size; have hxo := hxo.kept hg (fun e => by have := hbo _ e.symm; omega); have hC := hC.grown hg hC.size (fun c hc => by have := hbo c hc; omega)
  rw [hst2] at hO
  repeat (first | refine T_fieldBoxF (fun _ _ => by kernel_rfl) rfl rfl ?_)
  refine T_storeBox s1Ds rfl rfl (slice_one hO.recs.rlen) hxo (Nat.le_of_ble_eq_true rfl) (fun _ hxo hg _ => ?_); have hgs := hg.size; have hO := hO.kept hg (hO.blk.ne_some (.inr (by omega))); have hC := hC.grown hg hC.size (fun c hc => by simp at hc; omega)
  repeat (first | refine T_move rfl rfl ?_ | refine T_nil0 ?_ | refine E_region ?_ | refine T_add rfl rfl rfl (by omega) ?_ | refine E_inBlock ?_)
  exact IH (i + 1, ov') _ _ ⟨by omega, hxo, hO, hC, by omega⟩ (by show b.ds.length - (i + 1) < b.ds.length - i; omega) ⟨rfl, rfl, rfl, rfl, rfl, rfl, rfl, trivial⟩

set_option maxHeartbeats 2000000 in
theorem sjoined_spec (a : Rel) (v : Value) (b : Rel) (u : Value) (w : World) (hI : Recs recD w.heap v a.ds) (hJ : Recs recD w.heap u b.ds) (ha : okR a) (hb' : okR b) :
    Ret Try.prog 50 #[relV a v, relV b u] w (fun r w' => ∃ q, r = relV (joinN a b) q ∧ OwnR recD w' w.heap.size 57 q (joinN a b).ds ∧ Below w.heap.size w w') := by
  have hna := ha.2.1
  have hnb := hb'.2.1
  have hla := ha.2.2.1
  have hlb := hb'.2.2.1
  refine Ret_of (args := [_, _]) Try.call50 Try.func50 rfl _ Try.ntmps50 rfl ?_
  repeat (first | refine E_seq ?_ | refine E_region ?_)
  refine T_box (cs := relC a v) rfl rfl (fun b1 w1 hn1 hx1 hB => ?_); refine T_box (cs := relC b u) rfl rfl (fun b2 w2 hn2 hx2 hb => ?_); have hx1 := hx1.later hb; have hB := hB.step hB.size hb
  have hz2 := hB.size
  refine T_alloc zL rfl (fun b4 w3 hn4 hx4 hb => ?_)
  have hx1 := hx1.later hb
  have hx2 := hx2.later hb
  have hB := hB.step hB.size hb
  have hI := hI.later hB
  have hJ := hJ.later hB
  have hl4 := hx4.lt
  have hzb := hB.size
  repeat (first | refine T_nil0 ?_ | refine E_seq ?_)
  refine E_cut (fun m' w' => ∃ (ov : Value) (b5 : Nat), Sub [(2, bPtr b1 0), (3, bPtr b2 0), (4, bPtr b4 0), (5, bPtr b5 0)] m' ∧ Box w'.heap b5 (relC ⟨a.w, a.n + b.n, []⟩ ov) ∧ OwnR recD w' w3.heap.size 57 ov a.ds ∧ ov.ownBlock ≠ some b5 ∧ w3.heap.size ≤ b5 ∧ Below w3.heap.size w3 w') (fun join => ?_) ?_
  · skip
    refine E_region_held 13 w3.drew follows (by kernel_rfl) ?_
    have hdr : Below w3.heap.size w3 w3.drew := (Below.refl _ _).drew
    have hx1 := hx1.later hdr
    have hx2 := hx2.later hdr
    have hI := hI.later hdr
    have hz3 := hdr.size
    generalize hdw : w3.drew = w4 at *
    clear hdw
    have hR := Below.refl w4.heap.size w4
    have hC := Below.refl w4.heap.size w4
    refine X_run 0 7 (by kernel_rfl) hR ?_
    repeat (first | refine T_nil3 ?_ | refine T_add rfl rfl rfl (by omega) ?_ | refine T_fieldBoxF (fun _ _ => by kernel_rfl) rfl rfl ?_ | refine T_loadBoxB Try.isAgg3 rfl rfl (by assumption) (by assumption) (by rfl) ?_)
    refine X_run 8 2 (by kernel_rfl) hR ?_
    repeat (first | refine T_nil3 ?_ | refine T_fieldBoxF (fun _ _ => by kernel_rfl) rfl rfl ?_ | refine T_loadBoxB Try.isAgg3 rfl rfl (by assumption) (by assumption) (by rfl) ?_)
    refine X_two 7 12 (by kernel_rfl) ?_ ?_
    · skip
      refine T_lit0R (r := recD) tyD rfl (fun ov w5 hO _ _ hb => ?_)
      have hzl := hb.size
      have hbl := hO.blk
      have hC := hC.step hC.size hb
      repeat (first | refine T_nil0 ?_)
      refine ⟨hC, ?_⟩
      refine X_two 10 12 (by kernel_rfl) ?_ ?_
      · skip
        refine T_appendR (r := recD) tyD rfl rfl rfl hO (hI.later hC) (by have := hC.size; omega) (by simp; omega) (by simp; omega) (fun ov w6 hO hg hor => ?_)
        have hbo := hO.blk
        have hgs7 := hg.size
        have hC := hC.grown hg hC.size (fun c hc => by have := hbl c hc; omega)
        rw [List.nil_append] at hO
        repeat (first | refine T_nil0 ?_)
        refine ⟨hC, ?_⟩
        refine X_run 11 1 (by kernel_rfl) hC ?_
        refine T_build rfl rfl (bL3 _ _ _ hO.recs.rlen) ?_
        repeat (first | refine T_nil3 ?_)
        refine X_one 12 (by kernel_rfl) ?_
        refine T_alloc zL rfl (fun b5 w7 hn5 hx5 hb => ?_)
        have hC := hC.step hC.size hb
        have hl5 := hx5.lt
        have hn5 : w4.heap.size ≤ b5 := by omega
        have hne : ov.ownBlock ≠ some b5 := fun e => by have := hbo _ e; omega
        have hO := hO.later hb
        repeat (first | refine T_nil0 ?_)
        refine ⟨hC, ?_⟩
        refine X_tail (by kernel_rfl) ?_
        skip
        refine T_storeBoxA (us := relC ⟨a.w, a.n + b.n, []⟩ ov) sL rfl rfl rfl (relC_one hO.recs.rlen) hx5 rfl (fun w8 hxo hg8 _ => ?_)
        have hO := hO.kept hg8 (.inr hne)
        have hC := hC.grown hg8 hC.size (fun c hc => by simp at hc; omega)
        repeat (first | refine join _ _ ?_ | refine T_nil0 ?_)
        exact ⟨ov, b5, ⟨rfl, rfl, rfl, rfl, trivial⟩, hxo, hO.base (by omega), hne, by omega, hdr.step hdr.size hC⟩
      · skip
        refine T_alloc zL rfl (fun b5 w6 hn5 hx5 hb => ?_)
        have hC := hC.step hC.size hb
        have hl5 := hx5.lt
        have hn5 : w4.heap.size ≤ b5 := by omega
        have hO := hO.later hb
        repeat (first | refine T_nil0 ?_)
        refine ⟨hC, ?_⟩
        refine X_one 10 (by kernel_rfl) ?_
        refine T_appendR (r := recD) tyD rfl rfl rfl hO (hI.later hC) (by have := hC.size; omega) (by simp; omega) (by simp; omega) (fun ov w7 hO hg hor => ?_)
        have hbo := hO.blk
        have hgs7 := hg.size
        have hC := hC.grown hg hC.size (fun c hc => by have := hbl c hc; omega)
        rw [List.nil_append] at hO
        repeat (first | refine T_nil0 ?_)
        refine ⟨hC, ?_⟩
        refine X_run 11 1 (by kernel_rfl) hC ?_
        refine T_build rfl rfl (bL3 _ _ _ hO.recs.rlen) ?_
        repeat (first | refine T_nil3 ?_)
        have hne : ov.ownBlock ≠ some b5 := fun e => by
          rcases hor with h | h <;> rw [h] at e
          · have := hbl _ e; omega
          · simp at e; omega
        have hx5 := hx5.kept hg (fun e => by have := hbl _ e.symm; omega)
        refine X_tail (by kernel_rfl) ?_
        skip
        refine T_storeBoxA (us := relC ⟨a.w, a.n + b.n, []⟩ ov) sL rfl rfl rfl (relC_one hO.recs.rlen) hx5 rfl (fun w8 hxo hg8 _ => ?_)
        have hO := hO.kept hg8 (.inr hne)
        have hC := hC.grown hg8 hC.size (fun c hc => by simp at hc; omega)
        repeat (first | refine join _ _ ?_ | refine T_nil0 ?_)
        exact ⟨ov, b5, ⟨rfl, rfl, rfl, rfl, trivial⟩, hxo, hO.base (by omega), hne, by omega, hdr.step hdr.size hC⟩
    · skip
      refine T_alloc zL rfl (fun b5 w5 hn5 hx5 hb => ?_)
      have hC := hC.step hC.size hb
      have hl5 := hx5.lt
      have hn5 : w4.heap.size ≤ b5 := by omega
      repeat (first | refine T_nil0 ?_)
      refine ⟨hC, ?_⟩
      refine X_one 7 (by kernel_rfl) ?_
      refine T_lit0R (r := recD) tyD rfl (fun ov w6 hO _ _ hb => ?_)
      have hzl := hb.size
      have hbl := hO.blk
      have hC := hC.step hC.size hb
      have hx5 := hx5.later hb
      repeat (first | refine T_nil0 ?_)
      refine ⟨hC, ?_⟩
      refine X_one 10 (by kernel_rfl) ?_
      refine T_appendR (r := recD) tyD rfl rfl rfl hO (hI.later hC) (by have := hC.size; omega) (by simp; omega) (by simp; omega) (fun ov w7 hO hg hor => ?_)
      have hbo := hO.blk
      have hgs7 := hg.size
      have hC := hC.grown hg hC.size (fun c hc => by have := hbl c hc; omega)
      rw [List.nil_append] at hO
      repeat (first | refine T_nil0 ?_)
      refine ⟨hC, ?_⟩
      refine X_run 11 1 (by kernel_rfl) hC ?_
      refine T_build rfl rfl (bL3 _ _ _ hO.recs.rlen) ?_
      repeat (first | refine T_nil3 ?_)
      have hne : ov.ownBlock ≠ some b5 := fun e => by
          rcases hor with h | h <;> rw [h] at e
          · have := hbl _ e; omega
          · simp at e; omega
      have hx5 := hx5.kept hg (fun e => by have := hbl _ e.symm; omega)
      refine X_tail (by kernel_rfl) ?_
      skip
      refine T_storeBoxA (us := relC ⟨a.w, a.n + b.n, []⟩ ov) sL rfl rfl rfl (relC_one hO.recs.rlen) hx5 rfl (fun w8 hxo hg8 _ => ?_)
      have hO := hO.kept hg8 (.inr hne)
      have hC := hC.grown hg8 hC.size (fun c hc => by simp at hc; omega)
      repeat (first | refine join _ _ ?_ | refine T_nil0 ?_)
      exact ⟨ov, b5, ⟨rfl, rfl, rfl, rfl, trivial⟩, hxo, hO.base (by omega), hne, by omega, hdr.step hdr.size hC⟩
  rintro m' w7 ⟨ov, b5, hsub, hxo, hO, hne, hn5, hC⟩
  refine E.weaken hsub ?_
  have hx1 := hx1.later hC
  have hx2 := hx2.later hC
  have hJ := hJ.later hC
  have hI := hI.later hC
  have hl5 := hxo.lt
  have hz4 := hC.size
  generalize hw34 : w3 = w4 at *
  clear hsub
  repeat (first | refine T_assign rfl rfl ?_ | refine T_nil0 ?_ | refine E_seq ?_ | refine E_region ?_)
  refine E_loop (σ := Nat × Value) (fun ⟨i, ov⟩ => [(2, bPtr b1 0), (3, bPtr b2 0), (4, bPtr b4 0), (5, bPtr b5 0), (6, .int .i64 i)])
    (fun ⟨i, ov⟩ w' => i ≤ b.ds.length ∧ Box w'.heap b5 (relC ⟨a.w, a.n + b.n, []⟩ ov) ∧ OwnR recD w' w4.heap.size 57 ov (a.ds ++ (b.ds.take i).map (shiftD a.n)) ∧ Below w4.heap.size w4 w' ∧ ov.ownBlock ≠ some b5) (fun ⟨i, _⟩ => b.ds.length - i) (0, ov)
    ⟨by omega, hxo, by rw [joined_nil]; exact hO, hC, hne⟩ ⟨rfl, rfl, rfl, rfl, rfl, trivial⟩ ?_
  clear hC hxo hO hne
  rintro ⟨i, ov⟩ w9 ⟨hi, hxo, hO, hC, hne⟩ IH
  repeat (first | refine T_move rfl rfl ?_ | refine T_nil0 ?_ | refine E_seq ?_ | refine E_region ?_ | refine T_cmp rfl rfl rfl rfl ?_ | refine T_fieldBoxF (fun _ _ => by kernel_rfl) rfl rfl ?_ | refine T_loadBoxB Try.isAgg3 rfl rfl (by assumption) (by assumption) (by rfl) ?_ | refine T_len tyD rfl rfl (Recs.rlen (r := recD) (by assumption)) ?_)
  refine E_cond_if rfl (fun hp => ?_) (fun hp => ?_)
  case refine_2 =>
    have e : i = b.ds.length := by omega
    subst e
    rw [List.take_length] at hO
    repeat (first | refine E_seq ?_ | refine E_region ?_ | refine E_exit rfl ?_)
    refine T_loadBoxA (cs := relC (joinN a b) ov) aL sL rfl rfl hxo rfl ?_
    refine T_storeBoxA (us := relC (joinN a b) ov) sL rfl rfl rfl (relC_one hO.recs.rlen) (hx4.later hC) rfl (fun w11 hx9 hg9 _ => ?_)
    have hO := hO.kept hg9 (hO.blk.ne_some (.inr (by omega)))
    repeat (first | refine T_nil0 ?_)
    exact E_retC rfl rfl aL sL hx9 rfl ⟨ov, rfl, hO.base (by omega), (hB.step hB.size hC).grown hg9 (by have := hC.size; omega) (fun c hc => by simp at hc; omega)⟩
  have hil : i < b.ds.length := by omega
  have hst := map_step (z := dz) (shiftD a.n) hil
  have htl : (a.ds ++ (b.ds.take i).map (shiftD a.n)).length = a.ds.length + i := by simp; omega
  have hbv := hO.blk
  have hlx := hxo.lt
  have hzc := hC.size
  repeat (first | refine T_move rfl rfl ?_ | refine E_seq ?_ | refine E_region ?_ | refine E_skip ?_ | refine E_blockS ?_ | refine T_fieldBoxF (fun _ _ => by kernel_rfl) rfl rfl ?_ | refine T_loadBoxB Try.isAgg3 rfl rfl (by assumption) (by assumption) (by rfl) ?_ | refine T_indexD tyD rfl rfl rfl (by assumption) (by omega) ?_ | refine T_loadDA aD sD rfl rfl (by assumption) (by assumption) (by omega) ?_)
  refine T_new (us := recD.enc (b.ds.getD i dz)) zD sD rfl (fun _ => rfl) rfl rfl (recD.one _) (fun b7 w10 hn7 hx7 hb => ?_)
  have hC := hC.step hC.size hb
  have hO := hO.later hb
  have hxo := hxo.later hb
  have hz7 := hb.size
  have hokd := hb'.2.2.2 _ (getM (z := dz) hil)
  generalize b.ds.getD i dz = d at *
  have hst2 : a.ds ++ (b.ds.take i).map (shiftD a.n) ++ [shiftD a.n d] = a.ds ++ (b.ds.take (i + 1)).map (shiftD a.n) := by rw [hst, List.append_assoc]
  generalize a.ds ++ (b.ds.take i).map (shiftD a.n) = L at *
  unfold okD at hokd
  have hC10 := Below.refl w10.heap.size w10
  repeat (first | refine T_nil0 ?_ | refine E_seq ?_ | refine E_region ?_ | refine T_add rfl rfl rfl (by omega) ?_ | refine T_fieldBoxF (fun _ _ => by kernel_rfl) rfl rfl ?_ | refine T_loadBoxB Try.isAgg3 rfl rfl (by assumption) (by assumption) (by rfl) ?_)
  refine T_storeBox Try.sizeOf3 rfl rfl rfl hx7 (Nat.le_of_ble_eq_true rfl) (fun w11 hx7 hg _ => ?_); have hgd := hg.size; have hO := hO.kept hg (hbv.ne_some (.inl hn7)); have hxo := hxo.kept hg (fun e => by simp at e; omega); have hC := hC.grown hg hC.size (fun c hc => by simp at hc; omega); have hRR := Below.refl w11.heap.size w11
  clear hC10
  repeat (first | refine T_nil0 ?_ | refine E_seq ?_ | refine E_region ?_ | refine T_add rfl rfl rfl (by omega) ?_ | refine T_fieldBoxF (fun _ _ => by kernel_rfl) rfl rfl ?_ | refine T_loadBoxB Try.isAgg3 rfl rfl (by assumption) (by assumption) (by rfl) ?_)
  refine T_storeBox Try.sizeOf3 rfl rfl rfl hx7 (Nat.le_of_ble_eq_true rfl) (fun w12 hx7 hg _ => ?_); have hgd := hg.size; have hO := hO.kept hg (hbv.ne_some (.inl hn7)); have hxo := hxo.kept hg (fun e => by simp at e; omega); have hC := hC.grown hg hC.size (fun c hc => by simp at hc; omega); have hRR := Below.refl w12.heap.size w12
  have hx7 : Box _ b7 (recD.enc (shiftD a.n d)) := hx7
  repeat (first | refine T_nil0 ?_ | refine E_region ?_ | refine T_fieldBoxF (fun _ _ => by kernel_rfl) rfl rfl ?_ | refine T_loadBoxB Try.isAgg3 rfl rfl (by assumption) (by assumption) (by rfl) ?_ | refine T_loadBoxAB aD sD rfl rfl (by assumption) (by assumption) (by rfl) ?_)
  refine T_lit1 (r := recD) tyD rfl rfl rfl (fun lv _ hL _ _ hb => ?_); have hgb := hb.size; have hxo := hxo.later hb; have hO := hO.later hb; have hC := hC.step hC.size hb; have hbo := hO.blk; have hlo := hxo.lt; have hgz := hC.size; refine T_appendR (r := recD) tyD rfl rfl rfl hO hL.recs (by omega) (by simp; omega) (by simp; omega) (fun ov' _ hO hg hor => ?_); have hga := hg.size; have hxo := hxo.kept hg (fun e => hne e.symm); have hne : ov'.ownBlock ≠ some b5 := (by rcases hor with h | h; (rw [h]; exact hne); (rw [h]; intro e; simp at e; omega)); have hC := hC.grown hg hC.size (fun c hc => by have := hbo c hc; omega)
  rw [hst2] at hO
  repeat (first | refine T_fieldBoxF (fun _ _ => by kernel_rfl) rfl rfl ?_)
  refine T_storeBox s1Ds rfl rfl (slice_one hO.recs.rlen) hxo (Nat.le_of_ble_eq_true rfl) (fun _ hxo hg _ => ?_); have hgs := hg.size; have hO := hO.kept hg (.inr hne); have hC := hC.grown hg hC.size (fun c hc => by simp at hc; omega)
  repeat (first | refine T_move rfl rfl ?_ | refine T_assign rfl rfl ?_ | refine T_nil0 ?_ | refine E_region ?_ | refine T_add rfl rfl rfl (by omega) ?_ | refine E_inBlock ?_)
  exact IH (i + 1, ov') _ _ ⟨by omega, hxo, hO, hC, hne⟩ (by show b.ds.length - (i + 1) < b.ds.length - i; omega) ⟨rfl, rfl, rfl, rfl, rfl, trivial⟩

theorem sJoinReels_spec (a : Rel) (v : Value) (b : Rel) (u : Value) (w : World) (hI : Recs recD w.heap v a.ds) (hJ : Recs recD w.heap u b.ds) (hl : a.ds.length ≤ 1048576) (hl2 : b.ds.length ≤ 1048576) :
    Ret Try.prog 29 #[relV a v, relV b u] w (fun r w' => ∃ q, r = .tuple #[relV (joinF a b) q, .bool (decide (joinOk a b))] ∧ OwnR recD w' w.heap.size 57 q (joinF a b).ds ∧ Below w.heap.size w w') := by
  refine Ret_of (args := [_, _]) Try.call29 Try.func29 rfl _ Try.ntmps29 rfl ?_
  repeat (first | refine E_seq ?_ | refine E_region ?_)
  refine T_box (cs := relC a v) rfl rfl (fun b1 w1 hn1 hx1 hB => ?_); refine T_box (cs := relC b u) rfl rfl (fun b2 w2 hn2 hx2 hb => ?_); have hx1 := hx1.later hb; have hB := hB.step hB.size hb
  have hz2 := hB.size
  refine T_alloc zL rfl (fun b4 w3 hn4 hx4 hb => ?_)
  have hx1 := hx1.later hb
  have hx2 := hx2.later hb
  have hB := hB.step hB.size hb
  have hI := hI.later hB
  have hJ := hJ.later hB
  have hl4 := hx4.lt
  have hzb := hB.size
  have hC := Below.refl w3.heap.size w3
  have bad : ∀ w9 w10, ¬ joinOk a b → Below w3.heap.size w3 w9 → w9.grownBy w10 (some b4) → (∃ q, Value.tuple #[.agg (relC rz (.slice none 0 0)).toArray, .bool false] = .tuple #[relV (joinF a b) q, .bool (decide (joinOk a b))] ∧ OwnR recD w10 w.heap.size 57 q (joinF a b).ds ∧ Below w.heap.size w w10) := fun w9 w10 hF h9 hg => by
    rw [show joinF a b = rz by unfold joinF; rw [if_neg hF], decide_eq_false hF]
    exact ⟨_, rfl, OwnR.nil _ _ _ _, (hB.step hB.size h9).grown hg (by have := h9.size; omega) (fun c hc => by simp at hc; omega)⟩
  repeat (first | refine T_assign rfl rfl ?_ | refine T_nil0 ?_ | refine E_seq ?_ | refine E_region ?_ | refine T_loadBoxAB aL sL rfl rfl (by assumption) (by assumption) (by rfl) ?_)
  refine T_call rfl rfl (svalidReel_spec a v w3 hI hl) (fun r w4 hr => ?_)
  obtain ⟨rfl, hb⟩ := hr
  have hC := hC.step hC.size hb
  repeat (first | refine T_move rfl rfl ?_ | refine T_not rfl rfl ?_)
  refine T_guard rfl rfl (fun h1 => ?_) (fun h1 => ?_)
  · repeat (first | refine T_move rfl rfl ?_ | refine T_nil0 ?_ | refine E_seq ?_ | refine E_region ?_ | refine T_off rfl rfl rfl ?_ | refine T_pick_true rfl rfl rfl ?_ | refine E_cond_true rfl ?_)
    refine T_build (ps := []) rfl rfl bL0 ?_
    refine T_storeBoxA (us := relC rz (.slice none 0 0)) sL rfl rfl rfl (relC_one (k := 0) ⟨_, _, rfl⟩) (hx4.later hC) rfl (fun w9 hx9 hg9 _ => ?_)
    repeat (first | refine T_assign rfl rfl ?_ | refine T_nil0 ?_)
    exact E_retC1 rfl rfl rfl aL sL hx9 rfl (bad _ _ (fun h => h1 h.1) hC hg9)
  have ha := Decidable.not_not.1 h1
  repeat (first | refine T_on rfl rfl ?_ | refine T_loadBoxAB aL sL rfl rfl (by assumption) (by assumption) (by rfl) ?_)
  refine T_call rfl rfl (svalidReel_spec b u w4 (hJ.later hC) hl2) (fun r w5 hr => ?_)
  obtain ⟨rfl, hb⟩ := hr
  have hC := hC.step hC.size hb
  repeat (first | refine T_move rfl rfl ?_ | refine T_on rfl rfl ?_ | refine T_pick_false rfl rfl rfl ?_ | refine T_not rfl rfl ?_)
  refine T_guard rfl rfl (fun h2 => ?_) (fun h2 => ?_)
  · repeat (first | refine T_nil0 ?_ | refine E_seq ?_ | refine E_region ?_ | refine T_off rfl rfl rfl ?_ | refine T_pick_true rfl rfl rfl ?_ | refine E_cond_true rfl ?_)
    refine T_build (ps := []) rfl rfl bL0 ?_
    refine T_storeBoxA (us := relC rz (.slice none 0 0)) sL rfl rfl rfl (relC_one (k := 0) ⟨_, _, rfl⟩) (hx4.later hC) rfl (fun w9 hx9 hg9 _ => ?_)
    repeat (first | refine T_assign rfl rfl ?_ | refine T_nil0 ?_)
    exact E_retC1 rfl rfl rfl aL sL hx9 rfl (bad _ _ (fun h => h2 h.2.1) hC hg9)
  have hb' := Decidable.not_not.1 h2
  repeat (first | refine T_nil0 ?_ | refine T_cmp rfl rfl rfl rfl ?_ | refine T_on rfl rfl ?_ | refine T_pick_false rfl rfl rfl ?_ | refine T_fieldBoxF (fun _ _ => by kernel_rfl) rfl rfl ?_ | refine T_loadBoxB Try.isAgg3 rfl rfl (by assumption) (by assumption) (by rfl) ?_)
  refine E_cond_if rfl (fun h3 => ?_) (fun h3 => ?_)
  · repeat (first | refine E_seq ?_ | refine E_region ?_)
    refine T_build (ps := []) rfl rfl bL0 ?_
    refine T_storeBoxA (us := relC rz (.slice none 0 0)) sL rfl rfl rfl (relC_one (k := 0) ⟨_, _, rfl⟩) (hx4.later hC) rfl (fun w9 hx9 hg9 _ => ?_)
    repeat (first | refine T_assign rfl rfl ?_ | refine T_nil0 ?_)
    exact E_retC1 rfl rfl rfl aL sL hx9 rfl (bad _ _ (fun h => h3 h.2.2.1) hC hg9)
  have hwe : a.w = b.w := Decidable.not_not.1 h3
  repeat (first | refine E_seq ?_ | refine E_region ?_ | refine E_skip ?_ | refine T_loadBoxAB aL sL rfl rfl (by assumption) (by assumption) (by rfl) ?_)
  refine T_call rfl rfl (sjoined_spec a v b u w5 (hI.later hC) (hJ.later hC) ha hb') (fun r w6 hr => ?_)
  obtain ⟨q, rfl, hq, hb⟩ := hr
  have hz5 := hC.size
  have hbq := hq.blk
  have hC := hC.step hC.size hb
  refine T_new (us := relC (joinN a b) q) zL sL rfl (fun _ => rfl) rfl rfl (relC_one hq.recs.rlen) (fun b6 w7 hn6 hx6 hb => ?_)
  have hq := hq.later hb
  have hC := hC.step hC.size hb
  have hC7 := Below.refl w7.heap.size w7
  repeat (first | refine T_nil0 ?_ | refine E_seq ?_ | refine E_region ?_ | refine T_loadBoxAB aL sL rfl rfl (by assumption) (by assumption) (by rfl) ?_)
  refine T_call rfl rfl (svalidReel_spec (joinN a b) q w7 hq.recs (by have := ha.2.2.1; have := hb'.2.2.1; simp [joinN]; omega)) (fun r w8 hr => ?_)
  obtain ⟨rfl, hb⟩ := hr
  have hq := hq.later hb
  have hC := hC.step hC.size hb
  have hC7 := hC7.step hC7.size hb
  repeat (first | refine T_nil0 ?_ | refine T_not rfl rfl ?_)
  refine E_cond_if rfl (fun h4 => ?_) (fun h4 => ?_)
  · repeat (first | refine E_seq ?_ | refine E_region ?_)
    refine T_build (ps := []) rfl rfl bL0 ?_
    refine T_storeBoxA (us := relC rz (.slice none 0 0)) sL rfl rfl rfl (relC_one (k := 0) ⟨_, _, rfl⟩) (hx4.later hC) rfl (fun w9 hx9 hg9 _ => ?_)
    repeat (first | refine T_assign rfl rfl ?_ | refine T_nil0 ?_)
    exact E_retC1 rfl rfl rfl aL sL hx9 rfl (bad _ _ (fun h => h4 h.2.2.2) hC hg9)
  have hok : joinOk a b := ⟨ha, hb', hwe, Decidable.not_not.1 h4⟩
  rw [show joinF a b = joinN a b by unfold joinF; rw [if_pos hok], decide_eq_true hok]
  repeat (first | refine E_seq ?_ | refine E_region ?_ | refine E_skip ?_ | refine T_loadBoxAB aL sL rfl rfl (by assumption) (by assumption) (by rfl) ?_)
  refine T_storeBoxA (us := relC (joinN a b) q) sL rfl rfl rfl (relC_one hq.recs.rlen) (hx4.later hC) rfl (fun w11 hx9 hg9 _ => ?_)
  have hq := hq.kept hg9 (hbq.ne_some (.inr (by omega)))
  repeat (first | refine T_assign rfl rfl ?_ | refine T_nil0 ?_)
  exact E_retC1 rfl rfl rfl aL sL hx9 rfl ⟨q, rfl, hq.base (by omega), (hB.step hB.size hC).grown hg9 (by have := hC.size; omega) (fun c hc => by simp at hc; omega)⟩
end Go.Proofs.Ytehmphhdmpnlfaa
