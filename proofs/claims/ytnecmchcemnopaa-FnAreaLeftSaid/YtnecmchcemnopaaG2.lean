/-
  Contracts: the draws of parts and reels. Conditions: the arguments lie in memory as the contract says.
-/
import Derived.Test.YtnecmchcemnopaaGen
import Derived.Test.YtnecmchcemnopaaLibR2
import Derived.Test.YtnecmchcemnopaaClos
import Derived.Test.YtnecmchcemnopaaHeld
namespace Go.PR
open Go Go.RowKit
section
variable {P : Program} {n md : Nat} {ops : Array Oper} {K : Env → World → Prop} {l : List Oper} {m : Env} {w : World}
/-- a cell of a box is read, while one other block is written -/
theorem T_loadCell4 {d : Nat} {x : Operand} {t ty : TypeId} {pos : String} {af : Array Edge} {b b' off : Nat} {cs : List Value} {v : Value} (ht : ∀ w, (isAgg t).run P w = .ok false w) (hx : ev m x = some (bPtr b' off)) (hd : Nat.blt d n = true)
    (hB : Box w.heap b' cs) (hv : cs[off]? = some v) (hne : b' ≠ b) (h : T P n ops (b + 4) K l ((d, v) :: m) w) : T P n ops (b + 4) K (⟨some d, .load t x, ty, pos, af, none⟩ :: l) m w :=
  T_val hd (fun a' ha w' hb => by
    have h1 := cellAt_stay (b := b) hb (hB.cell hv) (by rw [block_add]; exact hne)
    simp [execOp, ha.eval hx, bPtr, run_load ht h1]) h
/-- a whole box is read, while one other block is written -/
theorem T_loadAgg4 {d : Nat} {x : Operand} {t ty : TypeId} {pos : String} {af : Array Edge} {b b' q : Nat} {cs : List Value} (ht : ∀ w, (isAgg t).run P w = .ok true w) (hs : ∀ w, (sizeOf t).run P w = .ok q w) (hx : ev m x = some (bPtr b' 0)) (hd : Nat.blt d n = true)
    (hB : Box w.heap b' cs) (hq : cs.length = q) (hne : b' ≠ b) (h : T P n ops (b + 4) K l ((d, .agg cs.toArray) :: m) w) : T P n ops (b + 4) K (⟨some d, .load t x, ty, pos, af, none⟩ :: l) m w := by
  subst hq
  refine T_val hd (fun a' ha w' hb => ?_) h
  have := run_loadAgg (P := P) (t := t) (us := cs) ht hs (a := ⟨b', 0, none⟩) (w := w') (fun q u hq => cellAt_stay (b := b) hb (hB.cell hq) (by rw [block_add]; exact hne))
  have e : (⟨b', 0, none⟩ : Addr).add 0 = ⟨b', 0, none⟩ := by simp [Addr.add]
  simp [execOp, ha.eval hx, bPtr, e, this]
theorem Box.drew {w0 w w' : World} {b c : Nat} {cv : Value} {cs : List Int} {p q K : Int} {us : List Value} (h : Box w.heap c us) (hD : Drew w0 w w' b cv cs p q K) (hne : c ≠ b) : Box w'.heap c us := h.kept hD.grown (fun e => hne (by simpa using e))
end
section
variable {P : Program} {fn : Func} {n : Nat} {k : List Item} {m : Env} {w : World}
/-- two results in cells -/
theorem E_retC2 {Φ : Value → World → Prop} {t u b c q q' : Nat} {ty ty' : TypeId} {cs ds : List Value} (hr : fn.results = #[.cell t ty, .cell u ty']) (ht : get m t = some (bPtr b 0)) (hu : get m u = some (bPtr c 0)) (hA : ∀ w, (isAgg ty).run P w = .ok true w) (hs : ∀ w, (sizeOf ty).run P w = .ok q w) (hA' : ∀ w, (isAgg ty').run P w = .ok true w) (hs' : ∀ w, (sizeOf ty').run P w = .ok q' w) (hB : Box w.heap b cs) (hq : cs.length = q) (hC : Box w.heap c ds) (hq' : ds.length = q') (h : Φ (.tuple #[.agg cs.toArray, .agg ds.toArray]) w) :
    E P fn (fun e w' => ∃ v, e = .returned v ∧ Φ v w') n (.code .ret :: k) m w :=
  E_ret (v := .tuple #[.agg cs.toArray, .agg ds.toArray]) (fun a ha => by
    have h1 := ha.slot _ _ ht
    have h3 := ha.slot _ _ hu
    rw [bPtr0] at h1 h3
    have h2 := run_loadVarBox (P := P) hA hs hB hq
    have h4 := run_loadVarBox (P := P) hA' hs' hC hq'
    simp [results, hr, h1, h3, asAddr, h2, h4]) ⟨_, rfl, h⟩
end
end Go.PR
namespace Go.Proofs.Ytnecmchcemnopaa
open Go Go.PR Go.RowKit attribute [local irreducible] T E Ints Sl Bools OwnI OwnB OwnR Recs Box Ret
attribute [local irreducible] Bytes X

theorem bT2 (a b : Int) : StructAt Try.prog 40 [(0, .int .i64 a), (2, .int .i64 b)] (.agg (recT.enc ⟨a, 0, b, 0⟩).toArray) := fun w => by kernel_rfl

set_option maxHeartbeats 1000000 in
theorem somePart_spec (w0 w : World) (b : Nat) (cv : Value) (cs : List Int) (p W L : Int) (hR : Rd w0 w b cv cs p) (hp : p ≤ 900000) (hW : 0 ≤ W ∧ W ≤ 1000) (hL : 0 ≤ L ∧ L ≤ 1000) :
    Ret Try.prog 68 #[bPtr b 0, .int .i64 W, .int .i64 L] w (fun r w' => ∃ t q, r = .agg (recT.enc t).toArray ∧ ((0 ≤ t.l ∧ t.l ≤ 1000 ∧ 0 ≤ t.r ∧ t.r ≤ 3000) ∧ (0 ≤ t.f ∧ t.f ≤ 1000 ∧ 0 ≤ t.t ∧ t.t ≤ 3000)) ∧ Drew w0 w w' b cv cs p q 4) := by
  have hG := GS.start hR
  have hp0 := hR.pos
  have hlt0 := hG.lt
  refine Ret_of (args := [_, _, _]) Try.call68 Try.func68 rfl _ Try.ntmps68 rfl ?_
  repeat (first | refine E_seq ?_ | refine E_region ?_)
  refine T_alloc zT rfl (fun b6 w1 hn6 hx6 hb => ?_)
  have hG := hG.later hb
  have hz1 := hb.size
  have hl6 := hx6.lt
  repeat (first | refine T_move rfl rfl ?_ | refine T_nil0 ?_ | refine E_seq ?_ | refine E_region ?_)
  refine T_call rfl rfl (pick_spec _ _ _ _ _ (p) (W) hG.rd (by omega)) (fun r w2 hr => ?_); obtain ⟨l, rfl, la, lb, lc, hD⟩ := hr; have hG := hG.drew hD; have hgz := hD.grown.size
  have hx6 := hx6.drew hD (by omega)
  have hl : 0 ≤ l ∧ l ≤ 1000 := by omega
  repeat (first | refine T_move rfl rfl ?_)
  refine T_call rfl rfl (pick_spec _ _ _ _ _ (p + 1) (L) hG.rd (by omega)) (fun r w3 hr => ?_); obtain ⟨f, rfl, fa, fb, fc, hD⟩ := hr; have hG := hG.drew hD; have hgz := hD.grown.size
  have hx6 := hx6.drew hD (by omega)
  have hf : 0 ≤ f ∧ f ≤ 1000 := by omega
  skip
  refine T_build rfl rfl (bT2 l f) ?_
  refine T_new (us := recT.enc ⟨l, 0, f, 0⟩) zT sT rfl (fun _ => rfl) rfl rfl (recT.one _) (fun b7 w4 hn7 hx7 hb => ?_)
  have hG := hG.later hb
  have hx6 := hx6.later hb
  have hz4 := hb.size
  have hl7 := hx7.lt
  repeat (first | refine T_nil0 ?_ | refine E_seq ?_)
  refine E_region_heldM 9 (b + 4) w4.drew follows (by kernel_rfl) ?_
  have hdr : Below w4.heap.size w4 w4.drew := (Below.refl _ _).drew
  have hG := hG.later hdr
  have hx6 := hx6.later hdr
  have hx7 := hx7.later hdr
  have hzd : w4.drew.heap.size = w4.heap.size := rfl
  generalize w4.drew = w5 at *
  refine X_runM 0 8 (by kernel_rfl) (Stay.refl _ _ _) rfl ?_
  repeat (first | refine T_fieldBoxF (fun _ _ => by kernel_rfl) rfl rfl ?_)
  refine T_loadCell4 (v := .int .i64 l) Try.isAgg3 rfl rfl hx7 rfl (by omega) ?_
  repeat (first | refine T_move rfl rfl ?_ | refine T_add rfl rfl rfl (by omega) ?_ | refine T_fieldBoxF (fun _ _ => by kernel_rfl) rfl rfl ?_)
  refine T_loadCell4 (v := .int .i64 l) Try.isAgg3 rfl rfl hx7 rfl (by omega) ?_
  repeat (first | refine T_nil4 ?_ | refine T_sub rfl rfl rfl (by omega) ?_)
  refine X_one 8 (by kernel_rfl) ?_
  refine T_call rfl rfl (pick_spec _ _ _ _ _ (p + 1 + 1) (W - l) hG.rd (by omega)) (fun r w6 hr => ?_); obtain ⟨x, rfl, xa, xb, xc, hD⟩ := hr; have hG := hG.drew hD; have hgz := hD.grown.size
  have hst := Stay.of_box hD.grown
  have hx6 := hx6.drew hD (by omega)
  have hx7 := hx7.drew hD (by omega)
  have hx : 0 ≤ x ∧ x ≤ 1000 := by omega
  repeat (first | refine T_nil0 ?_)
  refine ⟨hst, ?_⟩
  refine X_tail (by kernel_rfl) ?_
  repeat (first | refine T_add rfl rfl rfl (by omega) ?_ | refine T_fieldBoxF (fun _ _ => by kernel_rfl) rfl rfl ?_)
  refine T_storeBox Try.sizeOf3 rfl rfl rfl hx7 (Nat.le_of_ble_eq_true rfl) (fun w7 hx7 hg _ => ?_)
  have hx7 : Box w7.heap b7 (recT.enc ⟨l, l + 1 + x, f, 0⟩) := hx7
  have hG := hG.box hg (by omega)
  have hx6 := hx6.kept hg (fun e => by simp at e; omega)
  have hz7 := hg.size
  repeat (first | refine T_nil0 ?_ | refine E_seq ?_)
  refine E_region_heldM 9 (b + 4) w7.drew follows (by kernel_rfl) ?_
  have hdr : Below w7.heap.size w7 w7.drew := (Below.refl _ _).drew
  have hG := hG.later hdr
  have hx6 := hx6.later hdr
  have hx7 := hx7.later hdr
  have hzd : w7.drew.heap.size = w7.heap.size := rfl
  generalize w7.drew = w8 at *
  refine X_runM 0 8 (by kernel_rfl) (Stay.refl _ _ _) rfl ?_
  repeat (first | refine T_fieldBoxF (fun _ _ => by kernel_rfl) rfl rfl ?_)
  refine T_loadCell4 (v := .int .i64 f) Try.isAgg3 rfl rfl hx7 rfl (by omega) ?_
  repeat (first | refine T_move rfl rfl ?_ | refine T_add rfl rfl rfl (by omega) ?_ | refine T_fieldBoxF (fun _ _ => by kernel_rfl) rfl rfl ?_)
  refine T_loadCell4 (v := .int .i64 f) Try.isAgg3 rfl rfl hx7 rfl (by omega) ?_
  repeat (first | refine T_nil4 ?_ | refine T_sub rfl rfl rfl (by omega) ?_)
  refine X_one 8 (by kernel_rfl) ?_
  refine T_call rfl rfl (pick_spec _ _ _ _ _ (p + 1 + 1 + 1) (L - f) hG.rd (by omega)) (fun r w9 hr => ?_); obtain ⟨y, rfl, ya, yb, yc, hD⟩ := hr; have hG := hG.drew hD; have hgz := hD.grown.size
  have hst := Stay.of_box hD.grown
  have hx6 := hx6.drew hD (by omega)
  have hx7 := hx7.drew hD (by omega)
  have hy : 0 ≤ y ∧ y ≤ 1000 := by omega
  repeat (first | refine T_nil0 ?_)
  refine ⟨hst, ?_⟩
  refine X_tail (by kernel_rfl) ?_
  repeat (first | refine T_add rfl rfl rfl (by omega) ?_ | refine T_fieldBoxF (fun _ _ => by kernel_rfl) rfl rfl ?_)
  refine T_storeBox Try.sizeOf3 rfl rfl rfl hx7 (Nat.le_of_ble_eq_true rfl) (fun w10 hx7 hg _ => ?_)
  have hx7 : Box w10.heap b7 (recT.enc ⟨l, l + 1 + x, f, f + 1 + y⟩) := hx7
  have hG := hG.box hg (by omega)
  have hx6 := hx6.kept hg (fun e => by simp at e; omega)
  have hz10 := hg.size
  repeat (first | refine T_nil0 ?_ | refine E_seq ?_ | refine E_region ?_)
  refine T_loadBoxA aT sT rfl rfl hx7 rfl ?_
  refine T_storeBoxA (us := recT.enc ⟨l, l + 1 + x, f, f + 1 + y⟩) sT rfl rfl rfl (recT.one _) hx6 rfl (fun w11 hx6 hg _ => ?_)
  have hG := hG.box hg (by omega)
  repeat (first | refine T_nil0 ?_)
  exact E_retC rfl rfl aT sT hx6 rfl ⟨_, _, rfl, by show (_ ∧ _ ∧ _ ∧ _) ∧ _ ∧ _ ∧ _ ∧ _; dsimp only; omega, hG.out (by omega)⟩

set_option maxHeartbeats 2000000 in
theorem someReel_spec (w0 w : World) (b : Nat) (cv : Value) (cs : List Int) (p : Int) (hR : Rd w0 w b cv cs p) (hp : p ≤ 800000) :
    Ret Try.prog 67 #[bPtr b 0] w (fun r w' => ∃ x u q, r = relV x u ∧ OwnR recD w' w.heap.size 37 u x.ds ∧ (x.ds.length ≤ 5 ∧ (0 ≤ x.w ∧ x.w ≤ 100) ∧ (0 ≤ x.n ∧ x.n ≤ 100)) ∧ Drew w0 w w' b cv cs p q 40) := by
  have hG := GS.start hR
  have hp0 := hR.pos
  have hlt0 := hG.lt
  refine Ret_of (args := [_]) Try.call67 Try.func67 rfl _ Try.ntmps67 rfl ?_
  repeat (first | refine E_seq ?_ | refine E_region ?_)
  refine T_alloc zL rfl (fun b2 w1 hn2 hx2 hb => ?_)
  have hG := hG.later hb
  have hz1 := hb.size
  have hl2 := hx2.lt
  repeat (first | refine T_move rfl rfl ?_ | refine T_nil0 ?_ | refine E_seq ?_ | refine E_region ?_)
  have hlt := hG.lt; have hgs := hG.grown.size; refine T_litI tyI rfl rfl rfl rfl (fun lv _ hL _ _ hB => ?_); have hgb := hB.size; have hG := hG.later hB; refine T_call rfl rfl (one_spec _ _ _ _ _ (p) lv _ _ hG.rd (by omega) hL (by omega) (by simp) (by simp)) (fun r w2 hr => ?_); obtain ⟨W, rfl, Wm, hD⟩ := hr; have hgz := hD.grown.size; have hG := hG.drew hD; simp only [List.mem_cons, List.not_mem_nil, or_false] at Wm
  have hx2 := (hx2.later hB).drew hD (by omega)
  have hW : 0 ≤ W ∧ W ≤ 100 := by omega
  clear hL
  repeat (first | refine T_move rfl rfl ?_)
  have hlt := hG.lt; have hgs := hG.grown.size; refine T_litI tyI rfl rfl rfl rfl (fun lv _ hL _ _ hB => ?_); have hgb := hB.size; have hG := hG.later hB; refine T_call rfl rfl (one_spec _ _ _ _ _ (p + 1) lv _ _ hG.rd (by omega) hL (by omega) (by simp) (by simp)) (fun r w3 hr => ?_); obtain ⟨N, rfl, Nm, hD⟩ := hr; have hgz := hD.grown.size; have hG := hG.drew hD; simp only [List.mem_cons, List.not_mem_nil, or_false] at Nm
  have hx2 := (hx2.later hB).drew hD (by omega)
  have hN : 0 ≤ N ∧ N ≤ 100 := by omega
  clear hL
  skip
  refine T_build rfl rfl (bL2 W N) ?_
  refine T_new (us := relC ⟨W, N, []⟩ (.slice none 0 0)) zL sL rfl (fun _ => rfl) rfl rfl (relC_one (k := 0) ⟨_, _, rfl⟩) (fun b3 w4 hn3 hx3 hb => ?_)
  have hG := hG.later hb
  have hx2 := hx2.later hb
  have hz4 := hb.size
  have hl3 := hx3.lt
  repeat (first | refine T_move rfl rfl ?_ | refine T_nil0 ?_ | refine E_seq ?_ | refine E_region ?_)
  have hlt := hG.lt; have hgs := hG.grown.size; refine T_litI tyI rfl rfl rfl rfl (fun lv _ hL _ _ hB => ?_); have hgb := hB.size; have hG := hG.later hB; refine T_call rfl rfl (one_spec _ _ _ _ _ (p + 1 + 1) lv _ _ hG.rd (by omega) hL (by omega) (by simp) (by simp)) (fun r w5 hr => ?_); obtain ⟨n, rfl, nm, hD⟩ := hr; have hgz := hD.grown.size; have hG := hG.drew hD; simp only [List.mem_cons, List.not_mem_nil, or_false] at nm
  have hx2 := (hx2.later hB).drew hD (by omega)
  have hx3 := (hx3.later hB).drew hD (by omega)
  have hn : 0 ≤ n ∧ n ≤ 5 := by omega
  have hO : OwnR recD w5 w5.heap.size 37 (.slice none 0 0) [] := OwnR.nil _ _ _ _
  clear hD hB hL
  repeat (first | refine T_assign rfl rfl ?_ | refine T_nil0 ?_)
  refine E_loop (σ := Int × List Dfc × Value × Int) (fun ⟨n, ds, u, q⟩ => [(0, bPtr b 0), (2, bPtr b2 0), (3, bPtr b3 0), (4, .int .i64 n)])
    (fun ⟨n, ds, u, q⟩ w' => 0 ≤ n ∧ n ≤ 5 ∧ (ds.length : Int) ≤ 5 - n ∧ Box w'.heap b2 (Value.agg (relC rz (.slice none 0 0)).toArray).cells.toList ∧ Box w'.heap b3 (relC ⟨W, N, []⟩ u) ∧ OwnR recD w' w5.heap.size 37 u ds ∧ GS w0 w w' b cv cs q ∧ q ≤ p + 3 + 6 * (5 - n) ∧ w5.heap.size ≤ w'.heap.size) (fun ⟨n, _⟩ => n.toNat) (n, [], .slice none 0 0, p + 1 + 1 + 1)
    ⟨by omega, by omega, by simp; omega, hx2, hx3, hO, hG, by omega, Nat.le_refl _⟩ ⟨rfl, rfl, rfl, rfl, trivial⟩ ?_
  clear hx2 hx3 hO hG hn nm
  rintro ⟨n, ds, u, q⟩ w6 ⟨hn0, hn5, hdl, hx2, hx3, hO, hG, hq, hz6⟩ IH
  have hq0 := hG.rd.pos
  have hRR := Below.refl w6.heap.size w6
  repeat (first | refine T_move rfl rfl ?_ | refine T_nil0 ?_ | refine E_seq ?_ | refine E_region ?_ | refine T_cmp rfl rfl rfl rfl ?_)
  refine E_cond_if rfl (fun hp1 => ?_) (fun hp1 => ?_)
  case refine_2 =>
    repeat (first | refine E_seq ?_ | refine E_region ?_ | refine E_exit rfl ?_ | refine T_loadBoxAB aL sL rfl rfl (by assumption) (by assumption) (by rfl) ?_)
    refine T_storeBoxA (us := relC ⟨W, N, ds⟩ u) sL rfl rfl rfl (relC_one hO.recs.rlen) hx2 rfl (fun w7 hx2 hg _ => ?_)
    have hO := hO.kept hg (hO.blk.ne_some (.inr (by omega)))
    have hG := hG.box hg (by omega)
    repeat (first | refine T_nil0 ?_)
    exact E_retC rfl rfl aL sL hx2 rfl ⟨⟨W, N, ds⟩, u, q, rfl, hO.base (by omega), ⟨by show ds.length ≤ 5; omega, hW, hN⟩, hG.out (by omega)⟩
  repeat (first | refine T_move rfl rfl ?_ | refine E_seq ?_ | refine E_region ?_ | refine E_skip ?_ | refine E_blockS ?_ | refine T_fieldBoxF (fun _ _ => by kernel_rfl) rfl rfl ?_ | refine T_loadBoxB Try.isAgg3 rfl rfl (by assumption) (by assumption) (by rfl) ?_)
  refine T_call rfl rfl (somePart_spec _ _ _ _ _ q W N hG.rd (by omega) (by omega) (by omega)) (fun r w7 hr => ?_)
  obtain ⟨t, q2, rfl, ht, hD⟩ := hr
  have hq2 := hD.most
  have hG := hG.drew hD
  have hx2 := hx2.drew hD (by omega)
  have hx3 := hx3.drew hD (by omega)
  have hO := hO.drew hD (by omega)
  have hq20 := hG.rd.pos
  have hz7 := hD.grown.size
  clear hRR hD
  skip
  refine T_new (us := recT.enc t) zT sT rfl (fun _ => rfl) rfl rfl (recT.one _) (fun b5 w8 hn5 hx5 hb => ?_)
  have hG := hG.later hb
  have hx2 := hx2.later hb
  have hx3 := hx3.later hb
  have hO := hO.later hb
  have hl5 := hx5.lt
  have hz8 := hb.size
  repeat (first | refine T_nil0 ?_)
  refine E_region_heldM 23 (b + 4) w8.drew follows (by kernel_rfl) ?_
  have hdr : Below w8.heap.size w8 w8.drew := (Below.refl _ _).drew
  have hG := hG.later hdr
  have hx2 := hx2.later hdr
  have hx3 := hx3.later hdr
  have hx5 := hx5.later hdr
  have hO := hO.later hdr
  have hzd : w8.drew.heap.size = w8.heap.size := rfl
  generalize w8.drew = w9 at *
  refine X_runM 0 19 (by kernel_rfl) (Stay.refl _ _ _) rfl ?_
  repeat (first | refine T_fieldBoxF (fun _ _ => by kernel_rfl) rfl rfl ?_)
  refine T_loadCell4 (v := u) nDs rfl rfl hx3 rfl (by omega) ?_
  repeat (first | refine T_fieldBoxF (fun _ _ => by kernel_rfl) rfl rfl ?_)
  refine T_loadCell4 (v := .int .i64 t.l) Try.isAgg3 rfl rfl hx5 rfl (by omega) ?_
  repeat (first | refine T_fieldBoxF (fun _ _ => by kernel_rfl) rfl rfl ?_)
  refine T_loadCell4 (v := .int .i64 t.r) Try.isAgg3 rfl rfl hx5 rfl (by omega) ?_
  repeat (first | refine T_fieldBoxF (fun _ _ => by kernel_rfl) rfl rfl ?_)
  refine T_loadCell4 (v := .int .i64 t.l) Try.isAgg3 rfl rfl hx5 rfl (by omega) ?_
  repeat (first | refine T_add rfl rfl rfl (by omega) ?_ | refine T_min rfl rfl rfl ?_ | refine T_fieldBoxF (fun _ _ => by kernel_rfl) rfl rfl ?_)
  refine T_loadCell4 (v := .int .i64 t.f) Try.isAgg3 rfl rfl hx5 rfl (by omega) ?_
  repeat (first | refine T_fieldBoxF (fun _ _ => by kernel_rfl) rfl rfl ?_)
  refine T_loadCell4 (v := .int .i64 t.t) Try.isAgg3 rfl rfl hx5 rfl (by omega) ?_
  repeat (first | refine T_fieldBoxF (fun _ _ => by kernel_rfl) rfl rfl ?_)
  refine T_loadCell4 (v := .int .i64 t.f) Try.isAgg3 rfl rfl hx5 rfl (by omega) ?_
  repeat (first | refine T_move rfl rfl ?_ | refine T_nil4 ?_ | refine T_add rfl rfl rfl (by omega) ?_ | refine T_min rfl rfl rfl ?_)
  refine X_one 19 (by kernel_rfl) ?_
  refine T_call rfl rfl (pick_spec _ _ _ _ _ (q2) (9) hG.rd (by omega)) (fun r w10 hr => ?_); obtain ⟨x, rfl, xa, xb, xc, hD⟩ := hr; have hG := hG.drew hD; have hgz := hD.grown.size
  have hst := Stay.of_box hD.grown
  have hx2 := hx2.drew hD (by omega)
  have hx3 := hx3.drew hD (by omega)
  have hO := hO.drew hD (by omega)
  have hx : 0 ≤ x ∧ x ≤ 9 := by omega
  clear hD
  repeat (first | refine T_nil0 ?_)
  refine ⟨hst, ?_⟩
  refine X_runM 20 2 (by kernel_rfl) hst rfl ?_
  repeat (first | refine T_add rfl rfl rfl (by omega) ?_)
  refine T_build rfl rfl (bD _ _ _ _ _) ?_
  repeat (first | refine T_nil4 ?_)
  refine X_one 22 (by kernel_rfl) ?_
  refine T_lit1 (r := recD) tyD rfl rfl rfl (fun lv w11 hL _ _ hb => ?_)
  have hst := hst.trans (Stay.of_below hb)
  have hG := hG.later hb
  have hx2 := hx2.later hb
  have hx3 := hx3.later hb
  have hO := hO.later hb
  have hz11 := hb.size
  have hbo := hO.blk
  repeat (first | refine T_nil0 ?_)
  refine ⟨hst, ?_⟩
  refine X_tail (by kernel_rfl) ?_
  skip
  refine T_appendR (r := recD) tyD rfl rfl rfl hO hL.recs (by omega) (by simp; omega) (by simp; omega) (fun u' w12 hO hg hor => ?_)
  have hz12 := hg.size
  have hx2 := hx2.kept hg (fun e => by have := hbo _ e.symm; omega)
  have hx3 := hx3.kept hg (fun e => by have := hbo _ e.symm; omega)
  have hG := hG.own hg hbo (by omega)
  repeat (first | refine T_fieldBoxF (fun _ _ => by kernel_rfl) rfl rfl ?_)
  refine T_storeBox s1Ds rfl rfl (slice_one hO.recs.rlen) hx3 (Nat.le_of_ble_eq_true rfl) (fun w13 hx3 hg _ => ?_)
  have hz13 := hg.size
  have hO := hO.kept hg (hO.blk.ne_some (.inr (by omega)))
  have hG := hG.box hg (by omega)
  have hx2 := hx2.kept hg (fun e => by simp at e; omega)
  have hx3 : Box w13.heap b3 (relC ⟨W, N, []⟩ u') := hx3
  repeat (first | refine T_move rfl rfl ?_ | refine T_assign rfl rfl ?_ | refine T_nil0 ?_ | refine E_region ?_ | refine T_sub rfl rfl rfl (by omega) ?_ | refine E_inBlock ?_)
  exact IH (n - 1, ds ++ [_], u', q2 + 1) _ _ ⟨by omega, by omega, by simp; omega, hx2, hx3, hO, hG, by omega, by omega⟩ (by show (n - 1).toNat < n.toNat; omega) ⟨rfl, rfl, rfl, rfl, trivial⟩

theorem bD134 (n : Int) : StructAt Try.prog 37 [(1, .int .i64 1), (3, .int .i64 n), (4, .int .i64 1)] (.agg (recD.enc ⟨0, 1, 0, n, 1⟩).toArray) := fun w => by kernel_rfl
theorem bD13 : StructAt Try.prog 37 [(1, .int .i64 1), (3, .int .i64 1)] (.agg (recD.enc ⟨0, 1, 0, 1, 0⟩).toArray) := fun w => by kernel_rfl

set_option maxHeartbeats 2000000 in
theorem anyReel_spec (w0 w : World) (b : Nat) (cv : Value) (cs : List Int) (p : Int) (hR : Rd w0 w b cv cs p) (hp : p ≤ 700000) :
    Ret Try.prog 58 #[bPtr b 0] w (fun r w' => ∃ x u q, r = relV x u ∧ OwnR recD w' w.heap.size 37 u x.ds ∧ (x.ds.length ≤ 6 ∧ (0 ≤ x.w ∧ x.w ≤ 500) ∧ (0 ≤ x.n ∧ x.n ≤ 500)) ∧ Drew w0 w w' b cv cs p q 50) := by
  have hG := GS.start hR
  have hp0 := hR.pos
  have hlt0 := hG.lt
  refine Ret_of (args := [_]) Try.call58 Try.func58 rfl _ Try.ntmps58 rfl ?_
  repeat (first | refine E_seq ?_ | refine E_region ?_)
  refine T_alloc zL rfl (fun b2 w1 hn2 hx2 hb => ?_)
  have hG := hG.later hb
  have hz1 := hb.size
  have hl2 := hx2.lt
  repeat (first | refine T_move rfl rfl ?_ | refine T_nil0 ?_ | refine E_seq ?_ | refine E_region ?_)
  refine T_call rfl rfl (someReel_spec _ _ _ _ _ p hG.rd (by omega)) (fun r w2 hr => ?_)
  obtain ⟨x, u, q, rfl, hO, ⟨hdl, hW, hN⟩, hD⟩ := hr
  have hq := hD.most
  have hG := hG.drew hD
  have hx2 := hx2.drew hD (by omega)
  have hq0 := hG.rd.pos
  have hz2 := hD.grown.size
  clear hD
  skip
  refine T_new (us := relC x u) zL sL rfl (fun _ => rfl) rfl rfl (relC_one hO.recs.rlen) (fun b3 w3 hn3 hx3 hb => ?_)
  have hbo := hO.blk
  have hne : u.ownBlock ≠ some b3 := fun e => by have := hbo _ e; omega
  have hG := hG.later hb
  have hx2 := hx2.later hb
  have hO := hO.later hb
  have hl3 := hx3.lt
  have hz3 := hb.size
  repeat (first | refine T_move rfl rfl ?_ | refine T_nil0 ?_ | refine E_seq ?_ | refine E_region ?_)
  refine T_call rfl rfl (pick_spec _ _ _ _ _ (q) (20) hG.rd (by omega)) (fun r w4 hr => ?_); obtain ⟨k, rfl, ka, kb, kc, hD⟩ := hr; have hG := hG.drew hD; have hgz := hD.grown.size
  have hx2 := hx2.drew hD (by omega)
  have hx3 := hx3.drew hD (by omega)
  have hO := hO.drew hD (by omega)
  clear hD hbo
  have hRR := Below.refl w4.heap.size w4
  repeat (first | refine T_assign rfl rfl ?_ | refine T_nil0 ?_ | refine E_seq ?_ | refine E_region ?_ | refine T_cmp rfl rfl rfl rfl ?_ | refine E_blockS ?_)
  refine E_cond_if rfl (fun g1 => ?_) (fun g1 => ?_)
  · skip
    repeat (first | refine T_move rfl rfl ?_ | refine E_region ?_)
    have hlt := hG.lt; have hgs := hG.grown.size; refine T_litI tyI rfl rfl rfl rfl (fun lv _ hL _ _ hB => ?_); have hgb := hB.size; have hG := hG.later hB; refine T_call rfl rfl (one_spec _ _ _ _ _ (q + 1) lv _ _ hG.rd (by omega) hL (by omega) (by simp) (by simp)) (fun r w5 hr => ?_); obtain ⟨y, rfl, ym, hD⟩ := hr; have hgz := hD.grown.size; have hG := hG.drew hD; simp only [List.mem_cons, List.not_mem_nil, or_false] at ym
    have hx2 := (hx2.later hB).drew hD (by omega)
    have hx3 := (hx3.later hB).drew hD (by omega)
    have hO := (hO.later hB).drew hD (by omega)
    have hy : 0 ≤ y ∧ y ≤ 401 := by omega
    clear hD hL
    repeat (first | refine T_fieldBoxF (fun _ _ => by kernel_rfl) rfl rfl ?_)
    refine T_storeBox Try.sizeOf3 rfl rfl rfl hx3 (Nat.le_of_ble_eq_true rfl) (fun w6 hx3 hg _ => ?_)
    have hz6 := hg.size
    have hO := hO.kept hg (.inr hne)
    have hG := hG.box hg (by omega)
    have hx2 := hx2.kept hg (fun e => by simp at e; omega)
    have hx3 : Box w6.heap b3 (relC ⟨y, x.n, x.ds⟩ u) := hx3
    have hRR := Below.refl w6.heap.size w6
    repeat (first | refine T_nil0 ?_ | refine E_seq ?_ | refine E_region ?_ | refine E_inBlock ?_ | refine T_loadBoxAB aL sL rfl rfl (by assumption) (by assumption) (by rfl) ?_)
    refine T_storeBoxA (us := relC ⟨y, x.n, x.ds⟩ u) sL rfl rfl rfl (relC_one hO.recs.rlen) hx2 rfl (fun w9 hx2 hg _ => ?_)
    have hO := hO.kept hg (hO.blk.ne_some (.inr (by omega)))
    have hG := hG.box hg (by omega)
    repeat (first | refine T_nil0 ?_)
    exact E_retC rfl rfl aL sL hx2 rfl ⟨⟨y, x.n, x.ds⟩, u, _, rfl, hO.base (by omega), ⟨by simp; omega, by dsimp only; omega, by dsimp only; omega⟩, hG.out (by omega)⟩
  repeat (first | refine T_assign rfl rfl ?_ | refine T_nil0 ?_ | refine E_seq ?_ | refine E_region ?_ | refine T_cmp rfl rfl rfl rfl ?_)
  refine E_cond_if rfl (fun g2 => ?_) (fun g2 => ?_)
  · skip
    repeat (first | refine T_move rfl rfl ?_ | refine E_region ?_)
    have hlt := hG.lt; have hgs := hG.grown.size; refine T_litI tyI rfl rfl rfl rfl (fun lv _ hL _ _ hB => ?_); have hgb := hB.size; have hG := hG.later hB; refine T_call rfl rfl (one_spec _ _ _ _ _ (q + 1) lv _ _ hG.rd (by omega) hL (by omega) (by simp) (by simp)) (fun r w5 hr => ?_); obtain ⟨y, rfl, ym, hD⟩ := hr; have hgz := hD.grown.size; have hG := hG.drew hD; simp only [List.mem_cons, List.not_mem_nil, or_false] at ym
    have hx2 := (hx2.later hB).drew hD (by omega)
    have hx3 := (hx3.later hB).drew hD (by omega)
    have hO := (hO.later hB).drew hD (by omega)
    have hy : 0 ≤ y ∧ y ≤ 401 := by omega
    clear hD hL
    repeat (first | refine T_fieldBoxF (fun _ _ => by kernel_rfl) rfl rfl ?_)
    refine T_storeBox Try.sizeOf3 rfl rfl rfl hx3 (Nat.le_of_ble_eq_true rfl) (fun w6 hx3 hg _ => ?_)
    have hz6 := hg.size
    have hO := hO.kept hg (.inr hne)
    have hG := hG.box hg (by omega)
    have hx2 := hx2.kept hg (fun e => by simp at e; omega)
    have hx3 : Box w6.heap b3 (relC ⟨x.w, y, x.ds⟩ u) := hx3
    have hRR := Below.refl w6.heap.size w6
    repeat (first | refine T_nil0 ?_ | refine E_seq ?_ | refine E_region ?_ | refine E_inBlock ?_ | refine T_loadBoxAB aL sL rfl rfl (by assumption) (by assumption) (by rfl) ?_)
    refine T_storeBoxA (us := relC ⟨x.w, y, x.ds⟩ u) sL rfl rfl rfl (relC_one hO.recs.rlen) hx2 rfl (fun w9 hx2 hg _ => ?_)
    have hO := hO.kept hg (hO.blk.ne_some (.inr (by omega)))
    have hG := hG.box hg (by omega)
    repeat (first | refine T_nil0 ?_)
    exact E_retC rfl rfl aL sL hx2 rfl ⟨⟨x.w, y, x.ds⟩, u, _, rfl, hO.base (by omega), ⟨by simp; omega, by dsimp only; omega, by dsimp only; omega⟩, hG.out (by omega)⟩
  repeat (first | refine T_assign rfl rfl ?_ | refine T_nil0 ?_ | refine E_seq ?_ | refine E_region ?_ | refine T_cmp rfl rfl rfl rfl ?_)
  refine E_cond_if rfl (fun g3 => ?_) (fun g3 => ?_)
  · skip
    repeat (first | refine E_region ?_ | refine T_add rfl rfl rfl (by omega) ?_ | refine T_fieldBoxF (fun _ _ => by kernel_rfl) rfl rfl ?_ | refine T_loadBoxB Try.isAgg3 rfl rfl (by assumption) (by assumption) (by rfl) ?_)
    refine T_build rfl rfl (bD134 _) ?_
    refine T_lit1 (r := recD) tyD rfl rfl rfl (fun lv w5 hL _ _ hb => ?_)
    have hG := hG.later hb
    have hx2 := hx2.later hb
    have hx3 := hx3.later hb
    have hO := hO.later hb
    have hz5 := hb.size
    have hbo := hO.blk
    refine T_appendR (r := recD) tyD rfl rfl rfl hO hL.recs (by omega) (by simp; omega) (by simp; omega) (fun u' w5' hO hg hor => ?_)
    have hz5' := hg.size
    have hx2 := hx2.kept hg (fun e => by have := hbo _ e.symm; omega)
    have hx3 := hx3.kept hg (fun e => hne e.symm)
    have hne : u'.ownBlock ≠ some b3 := by
      rcases hor with h | h
      · rw [h]; exact hne
      · rw [h]; intro e; simp at e; omega
    have hG := hG.own hg hbo (by omega)
    repeat (first | refine T_fieldBoxF (fun _ _ => by kernel_rfl) rfl rfl ?_)
    refine T_storeBox s1Ds rfl rfl (slice_one hO.recs.rlen) hx3 (Nat.le_of_ble_eq_true rfl) (fun w6 hx3 hg _ => ?_)
    have hz6 := hg.size
    have hO := hO.kept hg (.inr hne)
    have hG := hG.box hg (by omega)
    have hx2 := hx2.kept hg (fun e => by simp at e; omega)
    have hx3 : Box w6.heap b3 (relC ⟨x.w, x.n, x.ds ++ [⟨0, 1, 0, x.n + 1, 1⟩]⟩ u') := hx3
    have hRR := Below.refl w6.heap.size w6
    repeat (first | refine T_nil0 ?_ | refine E_seq ?_ | refine E_region ?_ | refine E_inBlock ?_ | refine T_loadBoxAB aL sL rfl rfl (by assumption) (by assumption) (by rfl) ?_)
    refine T_storeBoxA (us := relC ⟨x.w, x.n, x.ds ++ [⟨0, 1, 0, x.n + 1, 1⟩]⟩ u') sL rfl rfl rfl (relC_one hO.recs.rlen) hx2 rfl (fun w9 hx2 hg _ => ?_)
    have hO := hO.kept hg (hO.blk.ne_some (.inr (by omega)))
    have hG := hG.box hg (by omega)
    repeat (first | refine T_nil0 ?_)
    exact E_retC rfl rfl aL sL hx2 rfl ⟨⟨x.w, x.n, x.ds ++ [⟨0, 1, 0, x.n + 1, 1⟩]⟩, u', _, rfl, hO.base (by omega), ⟨by simp; omega, by dsimp only; omega, by dsimp only; omega⟩, hG.out (by omega)⟩
  repeat (first | refine T_assign rfl rfl ?_ | refine T_nil0 ?_ | refine E_seq ?_ | refine E_region ?_ | refine T_cmp rfl rfl rfl rfl ?_)
  refine E_cond_if rfl (fun g4 => ?_) (fun g4 => ?_)
  · skip
    repeat (first | refine E_region ?_ | refine T_fieldBoxF (fun _ _ => by kernel_rfl) rfl rfl ?_ | refine T_loadBoxB Try.isAgg3 rfl rfl (by assumption) (by assumption) (by rfl) ?_)
    refine T_build rfl rfl bD13 ?_
    refine T_lit1 (r := recD) tyD rfl rfl rfl (fun lv w5 hL _ _ hb => ?_)
    have hG := hG.later hb
    have hx2 := hx2.later hb
    have hx3 := hx3.later hb
    have hO := hO.later hb
    have hz5 := hb.size
    have hbo := hO.blk
    refine T_appendR (r := recD) tyD rfl rfl rfl hO hL.recs (by omega) (by simp; omega) (by simp; omega) (fun u' w5' hO hg hor => ?_)
    have hz5' := hg.size
    have hx2 := hx2.kept hg (fun e => by have := hbo _ e.symm; omega)
    have hx3 := hx3.kept hg (fun e => hne e.symm)
    have hne : u'.ownBlock ≠ some b3 := by
      rcases hor with h | h
      · rw [h]; exact hne
      · rw [h]; intro e; simp at e; omega
    have hG := hG.own hg hbo (by omega)
    repeat (first | refine T_fieldBoxF (fun _ _ => by kernel_rfl) rfl rfl ?_)
    refine T_storeBox s1Ds rfl rfl (slice_one hO.recs.rlen) hx3 (Nat.le_of_ble_eq_true rfl) (fun w6 hx3 hg _ => ?_)
    have hz6 := hg.size
    have hO := hO.kept hg (.inr hne)
    have hG := hG.box hg (by omega)
    have hx2 := hx2.kept hg (fun e => by simp at e; omega)
    have hx3 : Box w6.heap b3 (relC ⟨x.w, x.n, x.ds ++ [⟨0, 1, 0, 1, 0⟩]⟩ u') := hx3
    have hRR := Below.refl w6.heap.size w6
    repeat (first | refine T_nil0 ?_ | refine E_seq ?_ | refine E_region ?_ | refine E_inBlock ?_ | refine T_loadBoxAB aL sL rfl rfl (by assumption) (by assumption) (by rfl) ?_)
    refine T_storeBoxA (us := relC ⟨x.w, x.n, x.ds ++ [⟨0, 1, 0, 1, 0⟩]⟩ u') sL rfl rfl rfl (relC_one hO.recs.rlen) hx2 rfl (fun w9 hx2 hg _ => ?_)
    have hO := hO.kept hg (hO.blk.ne_some (.inr (by omega)))
    have hG := hG.box hg (by omega)
    repeat (first | refine T_nil0 ?_)
    exact E_retC rfl rfl aL sL hx2 rfl ⟨⟨x.w, x.n, x.ds ++ [⟨0, 1, 0, 1, 0⟩]⟩, u', _, rfl, hO.base (by omega), ⟨by simp; omega, by dsimp only; omega, by dsimp only; omega⟩, hG.out (by omega)⟩
  repeat (first | refine E_seq ?_ | refine E_region ?_ | refine E_skip ?_ | refine E_inBlock ?_ | refine T_loadBoxAB aL sL rfl rfl (by assumption) (by assumption) (by rfl) ?_)
  refine T_storeBoxA (us := relC x u) sL rfl rfl rfl (relC_one hO.recs.rlen) hx2 rfl (fun w9 hx2 hg _ => ?_)
  have hO := hO.kept hg (hO.blk.ne_some (.inr (by omega)))
  have hG := hG.box hg (by omega)
  repeat (first | refine T_nil0 ?_)
  exact E_retC rfl rfl aL sL hx2 rfl ⟨x, u, _, rfl, hO.base (by omega), ⟨by omega, by omega, by omega⟩, hG.out (by omega)⟩
end Go.Proofs.Ytnecmchcemnopaa
