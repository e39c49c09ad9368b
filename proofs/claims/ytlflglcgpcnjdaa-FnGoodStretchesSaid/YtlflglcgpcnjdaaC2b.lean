/-
  Contracts: CutReel of the reference, TurnReel of both sides. Conditions: the arguments lie in memory as the contract says.
-/
import Derived.Test.YtlflglcgpcnjdaaLibR2
import Derived.Test.YtlflglcgpcnjdaaClos
namespace Go.PR
open Go Go.RowKit
section
variable {P : Program} {n : Nat} {m : Env} {w : World} {ops : Array Oper} {K : Env → World → Prop} {l : List Oper}
theorem T_lit0R {α : Type} {r : Rec α} {d : Nat} {t e : TypeId} {byt : Nat} {z : Value} {ty : TypeId} {pos : String} {af : Array Edge} (hT : STy P t e r.k byt z) (hd : Nat.blt d n = true)
    (h : ∀ v w', OwnR r w' w.heap.size e v [] → v.ownBlock = some w.heap.size → w.heap.size < w'.heap.size → Below w.heap.size w w' → T P n ops 0 K l ((d, v) :: m) w') :
    T P n ops 0 K (⟨some d, .buildSlice t 0 #[], ty, pos, af, none⟩ :: l) m w :=
  T_lit (ps := []) hT (vs := []) rfl rfl hd (by simp) (by omega) (fun v w' h1 h2 h3 h4 => h v w' (by unfold OwnR; simpa using h1) h2 h3 h4)
/-- one cell of a box, while another one may be written -/
theorem T_loadBox4 {d : Nat} {x : Operand} {t ty : TypeId} {pos : String} {af : Array Edge} {b b' off : Nat} {cs : List Value} {v : Value} (ht : ∀ w, (isAgg t).run P w = .ok false w) (hx : ev m x = some (bPtr b' off)) (hd : Nat.blt d n = true)
    (hB : Box w.heap b' cs) (hv : cs[off]? = some v) (hne : b' ≠ b) (h : T P n ops (b + 4) K l ((d, v) :: m) w) : T P n ops (b + 4) K (⟨some d, .load t x, ty, pos, af, none⟩ :: l) m w :=
  T_val hd (fun a' ha w' hb => by
    have h1 := cellAt_stay (b := b) hb (hB.cell hv) (by rw [block_add]; exact hne)
    simp [execOp, ha.eval hx, bPtr, run_load ht h1]) h
end
end Go.PR
namespace Go.Proofs.Ytlflglcgpcnjdaa
open Go Go.PR Go.RowKit attribute [local irreducible] T E Ints Sl Bools OwnI OwnB OwnR Recs Box Ret
attribute [local irreducible] X



set_option maxHeartbeats 1000000 in
theorem TurnReel_spec (x : Rel) (v : Value) (w : World) (hI : Recs recD w.heap v x.ds) :
    Ret Try.prog 24 #[relV x v] w (fun r w' => ∃ u, r = relV (turnF x) u ∧ OwnR recD w' w.heap.size 72 u (turnF x).ds ∧ Below w.heap.size w w') := by
  refine Ret_of (args := [_]) Try.call24 Try.func24 rfl _ Try.ntmps24 rfl ?_
  repeat (first | refine E_seq ?_ | refine E_region ?_)
  refine T_box (cs := relC x v) rfl rfl (fun b1 w1 hn1 hx1 hB => ?_)
  have hz2 := hB.size
  refine T_alloc zL rfl (fun b2 w3 hn4 hx4 hb => ?_)
  have hx1 := hx1.later hb
  have hB := hB.step hB.size hb
  have hI := hI.later hB
  have hl4 := hx4.lt
  have hC := Below.refl w3.heap.size w3
  repeat (first | refine T_nil0 ?_ | refine E_seq ?_ | refine E_region ?_ | refine T_loadBoxAB aL sL rfl rfl (by assumption) (by assumption) (by rfl) ?_)
  refine T_call rfl rfl (ValidReel_spec x v w3 hI) (fun r w4 hr => ?_)
  obtain ⟨rfl, hb⟩ := hr
  have hC := hC.step hC.size hb
  repeat (first | refine T_nil0 ?_ | refine T_not rfl rfl ?_)
  refine E_cond_if rfl (fun h1 => ?_) (fun h1 => ?_)
  · have hF : turnF x = rz := by unfold turnF; rw [if_neg h1]
    rw [hF]
    repeat (first | refine E_seq ?_ | refine E_region ?_)
    refine T_build (ps := []) rfl rfl bL0 ?_
    refine T_storeBoxA (us := relC rz (.slice none 0 0)) sL rfl rfl rfl (relC_one (k := 0) ⟨_, _, rfl⟩) (hx4.later hC) rfl (fun w9 hx9 hg9 _ => ?_)
    repeat (first | refine T_nil0 ?_)
    exact E_retC rfl rfl aL sL hx9 rfl ⟨_, rfl, OwnR.nil _ _ _ _, (hB.step hB.size hC).grown hg9 (by have := hC.size; omega) (fun c hc => by simp at hc; omega)⟩
  have hok := Decidable.not_not.1 h1
  have hF : turnF x = turnN x := by unfold turnF; rw [if_pos hok]
  rw [hF]
  have hl := hok.2.2.1
  have hR2 := hok.2.1
  repeat (first | refine E_seq ?_ | refine E_region ?_ | refine E_skip ?_ | refine T_fieldBoxF (fun _ _ => by kernel_rfl) rfl rfl ?_ | refine T_loadBoxB Try.isAgg3 rfl rfl (by assumption) (by assumption) (by rfl) ?_)
  refine T_build rfl rfl (bL2 _ _) ?_
  have hz4 := hC.size
  refine T_new (us := relC ⟨x.w, x.n, []⟩ (.slice none 0 0)) zL sL rfl (fun _ => rfl) rfl rfl (relC_one (k := 0) ⟨_, _, rfl⟩) (fun b5 w5 hn5 hx5 hb => ?_)
  have hC := hC.step hC.size hb
  have hl5 := hx5.lt
  repeat (first | refine T_move rfl rfl ?_ | refine T_nil0 ?_ | refine E_seq ?_ | refine E_region ?_ | refine T_fieldBoxF (fun _ _ => by kernel_rfl) rfl rfl ?_ | refine T_loadBoxB Try.isAgg3 rfl rfl (by assumption) (by assumption) (by rfl) ?_ | refine T_len tyD rfl rfl (Recs.rlen (r := recD) (by assumption)) ?_)
  refine E_loop (σ := Nat × Value) (fun ⟨i, ov⟩ => [(1, bPtr b1 0), (2, bPtr b2 0), (3, bPtr b5 0), (16, v), (17, .int .i64 x.ds.length), (18, .int .i64 i)])
    (fun ⟨i, ov⟩ w' => i ≤ x.ds.length ∧ Box w'.heap b5 (relC ⟨x.w, x.n, []⟩ ov) ∧ OwnR recD w' w5.heap.size 72 ov ((x.ds.take i).map (turnD x.n)) ∧ Below w3.heap.size w3 w' ∧ w5.heap.size ≤ w'.heap.size) (fun ⟨i, _⟩ => x.ds.length - i) (0, .slice none 0 0)
    ⟨by omega, hx5, OwnR.nil _ _ _ _, hC, Nat.le_refl _⟩ ⟨rfl, rfl, rfl, rfl, rfl, rfl, trivial⟩ ?_
  clear hC hx5
  rintro ⟨i, ov⟩ w6 ⟨hi, hxo, hO, hC, hz6⟩ IH
  repeat (first | refine T_nil0 ?_ | refine E_seq ?_ | refine E_region ?_ | refine T_cmp rfl rfl rfl rfl ?_)
  refine E_cond_if rfl (fun hp => ?_) (fun hp => ?_)
  case refine_2 =>
    have e : i = x.ds.length := by omega
    subst e
    rw [List.take_length] at hO
    repeat (first | refine E_seq ?_ | refine E_region ?_ | refine E_exit rfl ?_)
    refine T_loadBoxA (cs := relC ⟨x.w, x.n, []⟩ ov) aL sL rfl rfl hxo rfl ?_
    refine T_storeBoxA (us := relC ⟨x.w, x.n, []⟩ ov) sL rfl rfl rfl (relC_one hO.recs.rlen) (hx4.later hC) rfl (fun w9 hx9 hg9 _ => ?_)
    have hO := hO.kept hg9 (hO.blk.ne_some (.inr (by omega)))
    repeat (first | refine T_nil0 ?_)
    exact E_retC rfl rfl aL sL hx9 rfl ⟨ov, rfl, hO.base (by omega), (hB.step hB.size hC).grown hg9 (by omega) (fun c hc => by simp at hc; omega)⟩
  have hil : i < x.ds.length := by omega
  have hst := map_step (z := dz) (turnD x.n) hil
  have htl : ((x.ds.take i).map (turnD x.n)).length = i := by simp; omega
  have hbv := hO.blk
  have hlx := hxo.lt
  repeat (first | refine E_seq ?_ | refine E_region ?_ | refine E_skip ?_ | refine E_blockS ?_ | refine T_indexD tyD rfl rfl rfl (by assumption) (by omega) ?_ | refine T_loadDA aD sD rfl rfl (by assumption) (by assumption) (by omega) ?_)
  refine T_new (us := recD.enc (x.ds.getD i dz)) zD sD rfl (fun _ => rfl) rfl rfl (recD.one _) (fun b7 w7 hn7 hx7 hb => ?_)
  have hC := hC.step hC.size hb
  have hO := hO.later hb
  have hxo := hxo.later hb
  have hz7 := hb.size
  have hokd := hok.2.2.2 _ (getM (z := dz) hil)
  generalize x.ds.getD i dz = d at *
  generalize (x.ds.take i).map (turnD x.n) = L at *
  have hC7 := Below.refl w7.heap.size w7
  unfold okD at hokd
  repeat (first | refine T_nil0 ?_ | refine E_seq ?_)
  refine E_region_heldM 12 (b7 + 4) w7.drew follows (by kernel_rfl) ?_
  have hdr : Below w7.heap.size w7 w7.drew := (Below.refl _ _).drew
  have hC := hC.step hC.size hdr
  have hO := hO.later hdr
  have hxo := hxo.later hdr
  have hx7 := hx7.later hdr
  have hzd := hdr.size
  have hl1 := hx1.lt
  have hz3 := hC.size
  clear hC7
  generalize w7.drew = w8 at *
  have hx18 := hx1.later hC
  have hC8 := Below.refl w8.heap.size w8
  refine X_runM 0 3 (by kernel_rfl) (Stay.refl _ _ _) rfl ?_
  repeat (first | refine T_fieldBoxF (fun _ _ => by kernel_rfl) rfl rfl ?_)
  refine T_loadBox4 Try.isAgg3 rfl rfl hx18 (by rfl) (by omega) ?_
  repeat (first | refine T_nil4 ?_ | refine T_fieldBoxF (fun _ _ => by kernel_rfl) rfl rfl ?_)
  refine X_runM 5 3 (by kernel_rfl) (Stay.refl _ _ _) rfl ?_
  repeat (first | refine T_fieldBoxF (fun _ _ => by kernel_rfl) rfl rfl ?_)
  refine T_loadBox4 Try.isAgg3 rfl rfl hx18 (by rfl) (by omega) ?_
  repeat (first | refine T_nil4 ?_ | refine T_fieldBoxF (fun _ _ => by kernel_rfl) rfl rfl ?_)
  refine X_two 3 8 (by kernel_rfl) ?_ ?_
  · repeat (first | refine T_nil0 ?_ | refine T_loadBoxB Try.isAgg3 rfl rfl (by assumption) (by assumption) (by rfl) ?_)
    refine ⟨Stay.refl _ _ _, ?_⟩
    refine X_runM 4 1 (by kernel_rfl) (Stay.refl _ _ _) rfl ?_
    repeat (first | refine T_nil4 ?_ | refine T_sub rfl rfl rfl (by omega) ?_)
    refine X_one 8 (by kernel_rfl) ?_
    repeat (first | refine T_nil0 ?_ | refine T_loadBoxB Try.isAgg3 rfl rfl (by assumption) (by assumption) (by rfl) ?_)
    refine ⟨Stay.refl _ _ _, ?_⟩
    refine X_runM 9 2 (by kernel_rfl) (Stay.refl _ _ _) rfl ?_
    repeat (first | refine T_nil4 ?_ | refine T_sub rfl rfl rfl (by omega) ?_ | refine T_fieldBoxF (fun _ _ => by kernel_rfl) rfl rfl ?_)
    refine X_one 11 (by kernel_rfl) ?_
    refine T_storeBox Try.sizeOf3 rfl rfl rfl hx7 (Nat.le_of_ble_eq_true rfl) (fun _ hx7 hg _ => ?_); have hgd := hg.size; have hO := hO.kept hg (hbv.ne_some (.inl hn7)); have hxo := hxo.kept hg (fun e => by simp at e; omega); have hC := hC.grown hg hC.size (fun c hc => by simp at hc; omega)
    repeat (first | refine T_nil0 ?_)
    refine ⟨Stay.of_box hg, ?_⟩
    refine X_tail (by kernel_rfl) ?_
    clear hC8
    repeat (first | refine T_fieldBoxF (fun _ _ => by kernel_rfl) rfl rfl ?_)
    refine T_storeBox Try.sizeOf3 rfl rfl rfl hx7 (Nat.le_of_ble_eq_true rfl) (fun _ hx7 hg _ => ?_); have hgd := hg.size; have hO := hO.kept hg (hbv.ne_some (.inl hn7)); have hxo := hxo.kept hg (fun e => by simp at e; omega); have hC := hC.grown hg hC.size (fun c hc => by simp at hc; omega)
    have hx7 : Box _ b7 (recD.enc (turnD x.n d)) := hx7
    repeat (first | refine T_nil0 ?_ | refine E_region ?_ | refine T_fieldBoxF (fun _ _ => by kernel_rfl) rfl rfl ?_)
    refine T_loadBox nDs rfl rfl hxo rfl ?_
    refine T_loadBoxA aD sD rfl rfl hx7 rfl ?_
    refine T_lit1 (r := recD) tyD rfl rfl rfl (fun lv _ hL _ _ hb => ?_); have hgb := hb.size; have hxo := hxo.later hb; have hO := hO.later hb; have hC := hC.step hC.size hb; have hbo := hO.blk; have hlo := hxo.lt; have hgz := hC.size; refine T_appendR (r := recD) tyD rfl rfl rfl hO hL.recs (by omega) (by simp; omega) (by simp; omega) (fun ov' _ hO hg _ => ?_); have hga := hg.size; have hxo := hxo.kept hg (fun e => by have := hbo _ e.symm; omega); have hC := hC.grown hg hC.size (fun c hc => by have := hbo c hc; omega)
    rw [← hst] at hO
    repeat (first | refine T_fieldBoxF (fun _ _ => by kernel_rfl) rfl rfl ?_)
    refine T_storeBox s1Ds rfl rfl (slice_one hO.recs.rlen) hxo (Nat.le_of_ble_eq_true rfl) (fun _ hxo hg _ => ?_); have hgs := hg.size; have hO := hO.kept hg (hO.blk.ne_some (.inr (by omega))); have hC := hC.grown hg hC.size (fun c hc => by simp at hc; omega)
    repeat (first | refine T_move rfl rfl ?_ | refine T_nil0 ?_ | refine E_region ?_ | refine T_add rfl rfl rfl (by omega) ?_ | refine E_inBlock ?_)
    exact IH (i + 1, ov') _ _ ⟨by omega, hxo, hO, hC, by omega⟩ (by show x.ds.length - (i + 1) < x.ds.length - i; omega) ⟨rfl, rfl, rfl, rfl, rfl, rfl, trivial⟩
  · repeat (first | refine T_nil0 ?_ | refine T_loadBoxB Try.isAgg3 rfl rfl (by assumption) (by assumption) (by rfl) ?_)
    refine ⟨Stay.refl _ _ _, ?_⟩
    refine X_runM 9 1 (by kernel_rfl) (Stay.refl _ _ _) rfl ?_
    repeat (first | refine T_nil4 ?_ | refine T_sub rfl rfl rfl (by omega) ?_)
    refine X_one 3 (by kernel_rfl) ?_
    repeat (first | refine T_nil0 ?_ | refine T_loadBoxB Try.isAgg3 rfl rfl (by assumption) (by assumption) (by rfl) ?_)
    refine ⟨Stay.refl _ _ _, ?_⟩
    refine X_runM 4 1 (by kernel_rfl) (Stay.refl _ _ _) rfl ?_
    repeat (first | refine T_nil4 ?_ | refine T_sub rfl rfl rfl (by omega) ?_)
    refine X_runM 10 1 (by kernel_rfl) (Stay.refl _ _ _) rfl ?_
    repeat (first | refine T_nil4 ?_ | refine T_fieldBoxF (fun _ _ => by kernel_rfl) rfl rfl ?_)
    refine X_one 11 (by kernel_rfl) ?_
    refine T_storeBox Try.sizeOf3 rfl rfl rfl hx7 (Nat.le_of_ble_eq_true rfl) (fun _ hx7 hg _ => ?_); have hgd := hg.size; have hO := hO.kept hg (hbv.ne_some (.inl hn7)); have hxo := hxo.kept hg (fun e => by simp at e; omega); have hC := hC.grown hg hC.size (fun c hc => by simp at hc; omega)
    repeat (first | refine T_nil0 ?_)
    refine ⟨Stay.of_box hg, ?_⟩
    refine X_tail (by kernel_rfl) ?_
    clear hC8
    repeat (first | refine T_fieldBoxF (fun _ _ => by kernel_rfl) rfl rfl ?_)
    refine T_storeBox Try.sizeOf3 rfl rfl rfl hx7 (Nat.le_of_ble_eq_true rfl) (fun _ hx7 hg _ => ?_); have hgd := hg.size; have hO := hO.kept hg (hbv.ne_some (.inl hn7)); have hxo := hxo.kept hg (fun e => by simp at e; omega); have hC := hC.grown hg hC.size (fun c hc => by simp at hc; omega)
    have hx7 : Box _ b7 (recD.enc (turnD x.n d)) := hx7
    repeat (first | refine T_nil0 ?_ | refine E_region ?_ | refine T_fieldBoxF (fun _ _ => by kernel_rfl) rfl rfl ?_)
    refine T_loadBox nDs rfl rfl hxo rfl ?_
    refine T_loadBoxA aD sD rfl rfl hx7 rfl ?_
    refine T_lit1 (r := recD) tyD rfl rfl rfl (fun lv _ hL _ _ hb => ?_); have hgb := hb.size; have hxo := hxo.later hb; have hO := hO.later hb; have hC := hC.step hC.size hb; have hbo := hO.blk; have hlo := hxo.lt; have hgz := hC.size; refine T_appendR (r := recD) tyD rfl rfl rfl hO hL.recs (by omega) (by simp; omega) (by simp; omega) (fun ov' _ hO hg _ => ?_); have hga := hg.size; have hxo := hxo.kept hg (fun e => by have := hbo _ e.symm; omega); have hC := hC.grown hg hC.size (fun c hc => by have := hbo c hc; omega)
    rw [← hst] at hO
    repeat (first | refine T_fieldBoxF (fun _ _ => by kernel_rfl) rfl rfl ?_)
    refine T_storeBox s1Ds rfl rfl (slice_one hO.recs.rlen) hxo (Nat.le_of_ble_eq_true rfl) (fun _ hxo hg _ => ?_); have hgs := hg.size; have hO := hO.kept hg (hO.blk.ne_some (.inr (by omega))); have hC := hC.grown hg hC.size (fun c hc => by simp at hc; omega)
    repeat (first | refine T_move rfl rfl ?_ | refine T_nil0 ?_ | refine E_region ?_ | refine T_add rfl rfl rfl (by omega) ?_ | refine E_inBlock ?_)
    exact IH (i + 1, ov') _ _ ⟨by omega, hxo, hO, hC, by omega⟩ (by show x.ds.length - (i + 1) < x.ds.length - i; omega) ⟨rfl, rfl, rfl, rfl, rfl, rfl, trivial⟩


end Go.Proofs.Ytlflglcgpcnjdaa
