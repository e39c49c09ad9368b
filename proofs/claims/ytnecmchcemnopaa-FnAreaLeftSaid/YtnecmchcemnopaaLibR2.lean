/-
  Contracts on reels: valid reels and parts, the worst grade. Conditions: the arguments lie in memory as the contract says.
-/
import Derived.Test.YtnecmchcemnopaaLibR
namespace Go.Proofs.Ytnecmchcemnopaa
open Go Go.PR Go.RowKit attribute [local irreducible] T E Ints Sl Bools OwnI OwnB OwnR Recs Box Ret

theorem okD_part {W N : Int} {d : Dfc} : okD W N d ↔ okT W N (partD d) ∧ 1 ≤ d.g ∧ d.g ≤ 9 := Iff.rfl

theorem svalidPartW_spec (x : Rel) (v : Value) (p : Prt) (w : World) :
    Ret Try.prog 60 #[relV x v, .agg (recT.enc p).toArray] w (fun r w' => r = .bool (decide (okTW x.w x.n p)) ∧ Below w.heap.size w w') := by
  refine Ret_of (args := [_, _]) Try.call60 Try.func60 rfl _ Try.ntmps60 rfl ?_
  repeat (first | refine E_seq ?_ | refine E_region ?_)
  refine T_box (cs := relC x v) rfl rfl (fun b1 w1 hn1 hx1 hB => ?_)
  refine T_box rfl rfl (fun b2 w2 hn2 hx2 hb => ?_)
  have hx1 := hx1.later hb
  have hB := hB.step hB.size hb
  have hC := Below.refl w2.heap.size w2
  repeat (first | refine T_assign rfl rfl ?_ | refine T_nil0 ?_ | refine E_seq ?_ | refine E_region ?_ | refine T_fieldBoxF (fun _ _ => by kernel_rfl) rfl rfl ?_ | refine T_loadBoxB Try.isAgg3 rfl rfl (by assumption) (by assumption) (by rfl) ?_)
  refine T_subW rfl rfl rfl ?_
  skip
  refine T_call rfl rfl (inRange_spec _ _ _ w2) (fun r w3 hr => ?_)
  obtain ⟨rfl, rfl⟩ := hr
  repeat (first | refine T_move rfl rfl ?_)
  refine T_guard rfl rfl (fun h1 => ?_) (fun h1 => ?_)
  case refine_2 =>
    repeat' (first | refine T_move rfl rfl ?_ | refine T_assign rfl rfl ?_ | refine T_nil0 ?_ | refine T_off rfl rfl rfl ?_ | refine T_pick_false rfl rfl rfl ?_ | refine E_ret1 rfl rfl ?_)
    exact ⟨vb_f (fun h => h1 ⟨h.1, h.2.1⟩), hB⟩
  repeat (first | refine T_on rfl rfl ?_ | refine T_fieldBoxF (fun _ _ => by kernel_rfl) rfl rfl ?_ | refine T_loadBoxB Try.isAgg3 rfl rfl (by assumption) (by assumption) (by rfl) ?_)
  refine T_addW rfl rfl rfl ?_
  repeat (first | refine T_on rfl rfl ?_ | refine T_fieldBoxF (fun _ _ => by kernel_rfl) rfl rfl ?_ | refine T_loadBoxB Try.isAgg3 rfl rfl (by assumption) (by assumption) (by rfl) ?_)
  refine T_call rfl rfl (inRange_spec _ _ _ w2) (fun r w3 hr => ?_)
  obtain ⟨rfl, rfl⟩ := hr
  repeat (first | refine T_move rfl rfl ?_ | refine T_pick_true rfl rfl rfl ?_)
  refine T_guard rfl rfl (fun h2 => ?_) (fun h2 => ?_)
  case refine_2 =>
    repeat' (first | refine T_move rfl rfl ?_ | refine T_assign rfl rfl ?_ | refine T_nil0 ?_ | refine T_off rfl rfl rfl ?_ | refine T_pick_false rfl rfl rfl ?_ | refine E_ret1 rfl rfl ?_)
    exact ⟨vb_f (fun h => h2 ⟨h.2.2.1, h.2.2.2.1⟩), hB⟩
  repeat (first | refine T_on rfl rfl ?_ | refine T_fieldBoxF (fun _ _ => by kernel_rfl) rfl rfl ?_ | refine T_loadBoxB Try.isAgg3 rfl rfl (by assumption) (by assumption) (by rfl) ?_)
  refine T_subW rfl rfl rfl ?_
  repeat (first | refine T_on rfl rfl ?_)
  refine T_call rfl rfl (inRange_spec _ _ _ w2) (fun r w3 hr => ?_)
  obtain ⟨rfl, rfl⟩ := hr
  repeat (first | refine T_move rfl rfl ?_ | refine T_pick_true rfl rfl rfl ?_)
  refine T_guard rfl rfl (fun h3 => ?_) (fun h3 => ?_)
  case refine_2 =>
    repeat' (first | refine T_assign rfl rfl ?_ | refine T_nil0 ?_ | refine T_off rfl rfl rfl ?_ | refine T_pick_false rfl rfl rfl ?_ | refine E_ret1 rfl rfl ?_)
    exact ⟨vb_f (fun h => h3 ⟨h.2.2.2.2.1, h.2.2.2.2.2.1⟩), hB⟩
  repeat (first | refine T_on rfl rfl ?_ | refine T_fieldBoxF (fun _ _ => by kernel_rfl) rfl rfl ?_ | refine T_loadBoxB Try.isAgg3 rfl rfl (by assumption) (by assumption) (by rfl) ?_)
  refine T_addW rfl rfl rfl ?_
  repeat (first | refine T_on rfl rfl ?_ | refine T_fieldBoxF (fun _ _ => by kernel_rfl) rfl rfl ?_ | refine T_loadBoxB Try.isAgg3 rfl rfl (by assumption) (by assumption) (by rfl) ?_)
  refine T_call rfl rfl (inRange_spec _ _ _ w2) (fun r w3 hr => ?_)
  obtain ⟨rfl, rfl⟩ := hr
  repeat' (first | refine T_assign rfl rfl ?_ | refine T_nil0 ?_ | refine T_pick_true rfl rfl rfl ?_ | refine E_ret1 rfl rfl ?_)
  exact ⟨vb_iff ⟨fun h => ⟨h1.1, h1.2, h2.1, h2.2, h3.1, h3.2, h.1, h.2⟩, fun h => ⟨h.2.2.2.2.2.2.1, h.2.2.2.2.2.2.2⟩⟩, hB⟩
theorem svalidPart_spec (x : Rel) (v : Value) (p : Prt) (w : World) (hW : 1 ≤ x.w ∧ x.w ≤ 60) (hN : 1 ≤ x.n ∧ x.n ≤ 400) :
    Ret Try.prog 60 #[relV x v, .agg (recT.enc p).toArray] w (fun r w' => r = .bool (decide (okT x.w x.n p)) ∧ Below w.heap.size w w') := by
  rw [show decide (okT x.w x.n p) = decide (okTW x.w x.n p) from decide_eq_decide.2 (okTW_iff hW hN).symm]
  exact svalidPartW_spec x v p w

theorem svalidReel_spec (x : Rel) (v : Value) (w : World) (hI : Recs recD w.heap v x.ds) (hl : x.ds.length ≤ 1048576) :
    Ret Try.prog 62 #[relV x v] w (fun r w' => r = .bool (decide (okR x)) ∧ Below w.heap.size w w') := by
  refine Ret_of (args := [_]) Try.call62 Try.func62 rfl _ Try.ntmps62 rfl ?_
  repeat (first | refine E_seq ?_ | refine E_region ?_)
  refine T_box (cs := relC x v) rfl rfl (fun b1 w1 hn1 hx1 hB => ?_)
  have hI := hI.later hB
  have hC := Below.refl w1.heap.size w1
  repeat (first | refine T_assign rfl rfl ?_ | refine T_nil0 ?_ | refine E_seq ?_ | refine E_region ?_ | refine T_fieldBoxF (fun _ _ => by kernel_rfl) rfl rfl ?_ | refine T_loadBoxB Try.isAgg3 rfl rfl (by assumption) (by assumption) (by rfl) ?_)
  refine T_call rfl rfl (inRange_spec _ _ _ w1) (fun r w3 hr => ?_)
  obtain ⟨rfl, rfl⟩ := hr
  repeat (first | refine T_move rfl rfl ?_ | refine T_not rfl rfl ?_)
  refine T_guard rfl rfl (fun h1 => ?_) (fun h1 => ?_)
  · repeat' (first | refine T_move rfl rfl ?_ | refine T_assign rfl rfl ?_ | refine T_nil0 ?_ | refine E_seq ?_ | refine E_region ?_ | refine T_off rfl rfl rfl ?_ | refine T_pick_true rfl rfl rfl ?_ | refine E_cond_true rfl ?_ | refine E_ret1 rfl rfl ?_)
    exact ⟨vb_f (fun h => h1 h.1), hB⟩
  have hW := Decidable.not_not.1 h1
  repeat (first | refine T_on rfl rfl ?_ | refine T_fieldBoxF (fun _ _ => by kernel_rfl) rfl rfl ?_ | refine T_loadBoxB Try.isAgg3 rfl rfl (by assumption) (by assumption) (by rfl) ?_)
  refine T_call rfl rfl (inRange_spec _ _ _ w1) (fun r w3 hr => ?_)
  obtain ⟨rfl, rfl⟩ := hr
  repeat (first | refine T_move rfl rfl ?_ | refine T_on rfl rfl ?_ | refine T_pick_false rfl rfl rfl ?_ | refine T_not rfl rfl ?_)
  refine T_guard rfl rfl (fun h2 => ?_) (fun h2 => ?_)
  · repeat' (first | refine T_assign rfl rfl ?_ | refine T_nil0 ?_ | refine E_seq ?_ | refine E_region ?_ | refine T_off rfl rfl rfl ?_ | refine T_pick_true rfl rfl rfl ?_ | refine E_cond_true rfl ?_ | refine E_ret1 rfl rfl ?_)
    exact ⟨vb_f (fun h => h2 h.2.1), hB⟩
  have hN := Decidable.not_not.1 h2
  repeat (first | refine T_nil0 ?_ | refine T_cmp rfl rfl rfl rfl ?_ | refine T_on rfl rfl ?_ | refine T_pick_false rfl rfl rfl ?_ | refine T_fieldBoxF (fun _ _ => by kernel_rfl) rfl rfl ?_ | refine T_loadBoxB Try.isAgg3 rfl rfl (by assumption) (by assumption) (by rfl) ?_ | refine T_len tyD rfl rfl (Recs.rlen (r := recD) (by assumption)) ?_)
  refine E_cond_if rfl (fun h3 => ?_) (fun h3 => ?_)
  · repeat' (first | refine T_assign rfl rfl ?_ | refine T_nil0 ?_ | refine E_seq ?_ | refine E_region ?_ | refine E_ret1 rfl rfl ?_)
    exact ⟨vb_f (fun h => by have := h.2.2.1; omega), hB⟩
  repeat (first | refine T_assign rfl rfl ?_ | refine T_nil0 ?_ | refine E_seq ?_ | refine E_region ?_ | refine E_skip ?_)
  refine E_loop (σ := Nat) (fun i => [(1, bPtr b1 0), (3, .int .i64 i)]) (fun i w' => i ≤ x.ds.length ∧ (∀ j, j < i → okD x.w x.n (x.ds.getD j dz)) ∧ Below w1.heap.size w1 w') (fun i => x.ds.length - i) 0 ⟨by omega, by omega, hC⟩ ⟨rfl, rfl, trivial⟩ ?_
  clear hC
  rintro i w2 ⟨hi, hall, hC⟩ IH
  repeat (first | refine T_move rfl rfl ?_ | refine T_nil0 ?_ | refine E_seq ?_ | refine E_region ?_ | refine T_cmp rfl rfl rfl rfl ?_ | refine T_fieldBoxF (fun _ _ => by kernel_rfl) rfl rfl ?_ | refine T_loadBoxB Try.isAgg3 rfl rfl (by assumption) (by assumption) (by rfl) ?_ | refine T_len tyD rfl rfl (Recs.rlen (r := recD) (by assumption)) ?_)
  refine E_cond_if rfl (fun hp => ?_) (fun hp => ?_)
  case refine_2 =>
    repeat' (first | refine T_assign rfl rfl ?_ | refine T_nil0 ?_ | refine E_seq ?_ | refine E_region ?_ | refine E_exit rfl ?_ | refine E_ret1 rfl rfl ?_)
    exact ⟨vb_t ⟨hW, hN, by omega, all_getD (z := dz) fun j hj => hall j (by omega)⟩, hB.step hB.size hC⟩
  have hil : i < x.ds.length := by omega
  repeat (first | refine E_seq ?_ | refine E_skip ?_ | refine E_blockS ?_)
  refine E_region_quiet follows (by kernel_rfl) ?_
  repeat (first | refine T_move rfl rfl ?_ | refine T_fieldBoxF (fun _ _ => by kernel_rfl) rfl rfl ?_ | refine T_loadBoxB Try.isAgg3 rfl rfl (by assumption) (by assumption) (by rfl) ?_ | refine T_loadBoxAB aL sL rfl rfl (by assumption) (by assumption) (by rfl) ?_ | refine T_indexD tyD rfl rfl rfl (by assumption) (by omega) ?_ | refine T_loadDA aD sD rfl rfl (by assumption) (by assumption) (by omega) ?_)
  refine T_callQ rfl rfl (fun w9 hb9 => validDefect_spec x v (x.ds.getD i dz) w9 hW hN) ?_
  repeat (first | refine T_not rfl rfl ?_)
  refine T_nil2 (fun w9 hb9 => ?_)
  have hC := hC.step hC.size hb9
  refine E_cond_if rfl (fun h4 => ?_) (fun h4 => ?_)
  · repeat' (first | refine T_assign rfl rfl ?_ | refine T_nil0 ?_ | refine E_seq ?_ | refine E_region ?_ | refine E_ret1 rfl rfl ?_)
    exact ⟨vb_f (fun h => h4 (h.2.2.2 _ (getM hil))), hB.step hB.size hC⟩
  repeat (first | refine T_move rfl rfl ?_ | refine T_assign rfl rfl ?_ | refine T_nil0 ?_ | refine E_region ?_ | refine T_add rfl rfl rfl (by omega) ?_ | refine E_skip ?_ | refine E_inBlock ?_)
  refine IH (i + 1) w9 _ ⟨by omega, fun j hj => ?_, hC⟩ (by omega) ⟨rfl, rfl, trivial⟩
  by_cases e : j = i
  · subst e; exact Decidable.not_not.1 h4
  · exact hall j (by omega)

theorem ValidReel_spec (x : Rel) (v : Value) (w : World) (hI : Recs recD w.heap v x.ds) :
    Ret Try.prog 40 #[relV x v] w (fun r w' => r = .bool (decide (okR x)) ∧ Below w.heap.size w w') := by
  refine Ret_of (args := [_]) Try.call40 Try.func40 rfl _ Try.ntmps40 rfl ?_
  repeat (first | refine E_seq ?_ | refine E_region ?_)
  refine T_box (cs := relC x v) rfl rfl (fun b1 w1 hn1 hx1 hB => ?_)
  have hI := hI.later hB
  have hC := Below.refl w1.heap.size w1
  repeat (first | refine T_move rfl rfl ?_ | refine T_assign rfl rfl ?_ | refine T_nil0 ?_ | refine E_seq ?_ | refine E_region ?_ | refine T_cmp rfl rfl rfl rfl ?_ | refine T_fieldBoxF (fun _ _ => by kernel_rfl) rfl rfl ?_ | refine T_loadBoxB Try.isAgg3 rfl rfl (by assumption) (by assumption) (by rfl) ?_)
  refine T_guard rfl rfl (fun h1 => ?_) (fun h1 => ?_)
  · repeat' (first | refine T_move rfl rfl ?_ | refine T_assign rfl rfl ?_ | refine T_nil0 ?_ | refine E_seq ?_ | refine E_region ?_ | refine T_off rfl rfl rfl ?_ | refine T_pick_true rfl rfl rfl ?_ | refine E_cond_true rfl ?_ | refine E_ret1 rfl rfl ?_)
    exact ⟨vb_f (fun h => by have := h.1; omega), hB⟩
  repeat (first | refine T_move rfl rfl ?_ | refine T_cmp rfl rfl rfl rfl ?_ | refine T_on rfl rfl ?_ | refine T_pick_false rfl rfl rfl ?_ | refine T_fieldBoxF (fun _ _ => by kernel_rfl) rfl rfl ?_ | refine T_loadBoxB Try.isAgg3 rfl rfl (by assumption) (by assumption) (by rfl) ?_)
  refine T_guard rfl rfl (fun h2 => ?_) (fun h2 => ?_)
  · repeat' (first | refine T_move rfl rfl ?_ | refine T_assign rfl rfl ?_ | refine T_nil0 ?_ | refine E_seq ?_ | refine E_region ?_ | refine T_off rfl rfl rfl ?_ | refine T_pick_true rfl rfl rfl ?_ | refine E_cond_true rfl ?_ | refine E_ret1 rfl rfl ?_)
    exact ⟨vb_f (fun h => by have := h.1; omega), hB⟩
  repeat (first | refine T_move rfl rfl ?_ | refine T_cmp rfl rfl rfl rfl ?_ | refine T_on rfl rfl ?_ | refine T_pick_false rfl rfl rfl ?_ | refine T_fieldBoxF (fun _ _ => by kernel_rfl) rfl rfl ?_ | refine T_loadBoxB Try.isAgg3 rfl rfl (by assumption) (by assumption) (by rfl) ?_)
  refine T_guard rfl rfl (fun h3 => ?_) (fun h3 => ?_)
  · repeat' (first | refine T_assign rfl rfl ?_ | refine T_nil0 ?_ | refine E_seq ?_ | refine E_region ?_ | refine T_off rfl rfl rfl ?_ | refine T_pick_true rfl rfl rfl ?_ | refine E_cond_true rfl ?_ | refine E_ret1 rfl rfl ?_)
    exact ⟨vb_f (fun h => by have := h.2.1; omega), hB⟩
  repeat (first | refine T_nil0 ?_ | refine T_cmp rfl rfl rfl rfl ?_ | refine T_on rfl rfl ?_ | refine T_pick_false rfl rfl rfl ?_ | refine T_fieldBoxF (fun _ _ => by kernel_rfl) rfl rfl ?_ | refine T_loadBoxB Try.isAgg3 rfl rfl (by assumption) (by assumption) (by rfl) ?_)
  refine E_cond_if rfl (fun h4 => ?_) (fun h4 => ?_)
  · repeat' (first | refine T_assign rfl rfl ?_ | refine T_nil0 ?_ | refine E_seq ?_ | refine E_region ?_ | refine E_ret1 rfl rfl ?_)
    exact ⟨vb_f (fun h => by have := h.2.1; omega), hB⟩
  repeat (first | refine T_nil0 ?_ | refine E_seq ?_ | refine E_region ?_ | refine T_cmp rfl rfl rfl rfl ?_ | refine E_skip ?_ | refine T_fieldBoxF (fun _ _ => by kernel_rfl) rfl rfl ?_ | refine T_loadBoxB Try.isAgg3 rfl rfl (by assumption) (by assumption) (by rfl) ?_ | refine T_len tyD rfl rfl (Recs.rlen (r := recD) (by assumption)) ?_)
  refine E_cond_if rfl (fun h5 => ?_) (fun h5 => ?_)
  · repeat' (first | refine T_assign rfl rfl ?_ | refine T_nil0 ?_ | refine E_seq ?_ | refine E_region ?_ | refine E_ret1 rfl rfl ?_)
    exact ⟨vb_f (fun h => by have := h.2.2.1; omega), hB⟩
  repeat (first | refine T_move rfl rfl ?_ | refine T_nil0 ?_ | refine E_seq ?_ | refine E_region ?_ | refine E_skip ?_ | refine T_fieldBoxF (fun _ _ => by kernel_rfl) rfl rfl ?_ | refine T_loadBoxB Try.isAgg3 rfl rfl (by assumption) (by assumption) (by rfl) ?_ | refine T_len tyD rfl rfl (Recs.rlen (r := recD) (by assumption)) ?_)
  refine E_loop (σ := Nat) (fun i => [(1, bPtr b1 0), (28, v), (29, .int .i64 x.ds.length), (30, .int .i64 i)]) (fun i w' => i ≤ x.ds.length ∧ (∀ j, j < i → okD x.w x.n (x.ds.getD j dz)) ∧ Below w1.heap.size w1 w') (fun i => x.ds.length - i) 0 ⟨by omega, by omega, hC⟩ ⟨rfl, rfl, rfl, rfl, trivial⟩ ?_
  clear hC
  rintro i w2 ⟨hi, hall, hC⟩ IH
  repeat (first | refine T_nil0 ?_ | refine E_seq ?_ | refine E_region ?_ | refine T_cmp rfl rfl rfl rfl ?_)
  refine E_cond_if rfl (fun hp => ?_) (fun hp => ?_)
  case refine_2 =>
    repeat' (first | refine T_assign rfl rfl ?_ | refine T_nil0 ?_ | refine E_seq ?_ | refine E_region ?_ | refine E_exit rfl ?_ | refine E_ret1 rfl rfl ?_)
    exact ⟨vb_t ⟨by omega, by omega, by omega, all_getD (z := dz) fun j hj => hall j (by omega)⟩, hB.step hB.size hC⟩
  have hil : i < x.ds.length := by omega
  repeat (first | refine E_seq ?_ | refine E_region ?_ | refine E_skip ?_ | refine E_blockS ?_ | refine T_indexD tyD rfl rfl rfl (by assumption) (by omega) ?_ | refine T_loadDA aD sD rfl rfl (by assumption) (by assumption) (by omega) ?_)
  refine T_new (us := recD.enc (x.ds.getD i dz)) zD sD rfl (fun _ => rfl) rfl rfl (recD.one _) (fun b2 w3 hn2 hx2 hb => ?_)
  have hC := hC.step hC.size hb
  have hC3 := Below.refl w3.heap.size w3
  generalize hd : x.ds.getD i dz = d at *
  have bad : ¬ okD x.w x.n d → ∀ w9, Below w1.heap.size w1 w9 → (Value.bool false = .bool (decide (okR x)) ∧ Below w.heap.size w w9) := fun h w9 h9 =>
    ⟨vb_f (fun hk => h (by rw [← hd]; exact hk.2.2.2 _ (getM hil))), hB.step hB.size h9⟩
  have good : okD x.w x.n d → ∀ j, j < i + 1 → okD x.w x.n (x.ds.getD j dz) := fun h j hj => by
    by_cases e : j = i
    · subst e; rw [hd]; exact h
    · exact hall j (by omega)
  repeat (first | refine T_nil0 ?_ | refine E_seq ?_)
  refine E_region_quiet follows (by kernel_rfl) ?_
  repeat (first | refine T_loadBoxAB aD sD rfl rfl (by assumption) (by assumption) (by rfl) ?_)
  refine T_callQ rfl rfl (fun w9 hb9 => partOf_spec d w9) ?_
  repeat (first | refine T_fieldBoxF (fun _ _ => by kernel_rfl) rfl rfl ?_ | refine T_loadBoxB Try.isAgg3 rfl rfl (by assumption) (by assumption) (by rfl) ?_)
  refine T_callQ rfl rfl (fun w9 hb9 => inside_spec (partD d) x.w x.n w9) ?_
  repeat (first | refine T_move rfl rfl ?_ | refine T_not rfl rfl ?_)
  refine T_guard rfl rfl (fun h6 => ?_) (fun h6 => ?_)
  · repeat (first | refine T_move rfl rfl ?_ | refine T_off rfl rfl rfl ?_ | refine T_pick_true rfl rfl rfl ?_)
    refine T_nil2 (fun w9 hb9 => ?_)
    repeat' (first | refine T_assign rfl rfl ?_ | refine T_nil0 ?_ | refine E_seq ?_ | refine E_region ?_ | refine E_cond_true rfl ?_ | refine E_ret1 rfl rfl ?_)
    exact bad (fun h => h6 (okD_part.1 h).1) _ (hC.step hC.size hb9)
  repeat (first | refine T_move rfl rfl ?_ | refine T_cmp rfl rfl rfl rfl ?_ | refine T_on rfl rfl ?_ | refine T_pick_false rfl rfl rfl ?_ | refine T_fieldBoxF (fun _ _ => by kernel_rfl) rfl rfl ?_ | refine T_loadBoxB Try.isAgg3 rfl rfl (by assumption) (by assumption) (by rfl) ?_)
  refine T_guard rfl rfl (fun h7 => ?_) (fun h7 => ?_)
  · repeat (first | refine T_off rfl rfl rfl ?_ | refine T_pick_true rfl rfl rfl ?_)
    refine T_nil2 (fun w9 hb9 => ?_)
    repeat' (first | refine T_assign rfl rfl ?_ | refine T_nil0 ?_ | refine E_seq ?_ | refine E_region ?_ | refine E_cond_true rfl ?_ | refine E_ret1 rfl rfl ?_)
    exact bad (fun h => by have := (okD_part.1 h).2; omega) _ (hC.step hC.size hb9)
  repeat (first | refine T_cmp rfl rfl rfl rfl ?_ | refine T_on rfl rfl ?_ | refine T_pick_false rfl rfl rfl ?_ | refine T_fieldBoxF (fun _ _ => by kernel_rfl) rfl rfl ?_ | refine T_loadBoxB Try.isAgg3 rfl rfl (by assumption) (by assumption) (by rfl) ?_)
  refine T_nil2 (fun w9 hb9 => ?_)
  refine E_cond_if rfl (fun h8 => ?_) (fun h8 => ?_)
  · repeat' (first | refine T_assign rfl rfl ?_ | refine T_nil0 ?_ | refine E_seq ?_ | refine E_region ?_ | refine E_ret1 rfl rfl ?_)
    exact bad (fun h => by have := (okD_part.1 h).2; omega) _ (hC.step hC.size hb9)
  repeat (first | refine T_move rfl rfl ?_ | refine T_nil0 ?_ | refine E_region ?_ | refine T_add rfl rfl rfl (by omega) ?_ | refine E_skip ?_ | refine E_inBlock ?_)
  exact IH (i + 1) w9 _ ⟨by omega, good (okD_part.2 ⟨Decidable.not_not.1 h6, by omega, by omega⟩), hC.step hC.size hb9⟩ (by omega) ⟨rfl, rfl, rfl, rfl, trivial⟩

theorem ValidPart_spec (x : Rel) (v : Value) (p : Prt) (w : World) (hI : Recs recD w.heap v x.ds) :
    Ret Try.prog 48 #[relV x v, .agg (recT.enc p).toArray] w (fun r w' => r = .bool (decide (okR x ∧ okT x.w x.n p)) ∧ Below w.heap.size w w') := by
  refine Ret_of (args := [_, _]) Try.call48 Try.func48 rfl _ Try.ntmps48 rfl ?_
  repeat (first | refine E_seq ?_ | refine E_region ?_)
  refine T_box (cs := relC x v) rfl rfl (fun b1 w1 hn1 hx1 hB => ?_)
  refine T_box rfl rfl (fun b2 w2 hn2 hx2 hb => ?_)
  have hx1 := hx1.later hb
  have hB := hB.step hB.size hb
  have hI := hI.later hB
  have hC := Below.refl w2.heap.size w2
  repeat (first | refine T_assign rfl rfl ?_ | refine T_nil0 ?_ | refine E_seq ?_ | refine E_region ?_ | refine T_loadBoxAB aL sL rfl rfl (by assumption) (by assumption) (by rfl) ?_)
  refine T_call rfl rfl (ValidReel_spec x v w2 hI) (fun r w3 hr => ?_)
  obtain ⟨rfl, hb⟩ := hr
  have hC := hC.step hC.size hb
  repeat (first | refine T_move rfl rfl ?_)
  refine T_guard rfl rfl (fun h1 => ?_) (fun h1 => ?_)
  case refine_2 =>
    repeat' (first | refine T_assign rfl rfl ?_ | refine T_nil0 ?_ | refine T_off rfl rfl rfl ?_ | refine T_pick_false rfl rfl rfl ?_ | refine E_ret1 rfl rfl ?_)
    exact ⟨vb_f (fun h => h1 h.1), hB.step hB.size hC⟩
  repeat (first | refine T_on rfl rfl ?_ | refine T_fieldBoxF (fun _ _ => by kernel_rfl) rfl rfl ?_ | refine T_loadBoxB Try.isAgg3 rfl rfl (by assumption) (by assumption) (by rfl) ?_ | refine T_loadBoxAB aT sT rfl rfl (by assumption) (by assumption) (by rfl) ?_)
  refine T_call rfl rfl (inside_spec p x.w x.n w3) (fun r w4 hr => ?_)
  obtain ⟨rfl, hb⟩ := hr
  have hC := hC.step hC.size hb
  repeat' (first | refine T_assign rfl rfl ?_ | refine T_nil0 ?_ | refine T_pick_true rfl rfl rfl ?_ | refine E_ret1 rfl rfl ?_)
  exact ⟨vb_iff ⟨fun h => ⟨h1, h⟩, fun h => h.2⟩, hB.step hB.size hC⟩



theorem WorstOf_spec (x : Rel) (v : Value) (p : Prt) (w : World) (hI : Recs recD w.heap v x.ds) :
    Ret Try.prog 20 #[relV x v, .agg (recT.enc p).toArray] w (fun r w' => r = .int .i64 (worstF x p) ∧ Below w.heap.size w w') := by
  refine Ret_of (args := [_, _]) Try.call20 Try.func20 rfl _ Try.ntmps20 rfl ?_
  repeat (first | refine E_seq ?_ | refine E_region ?_)
  refine T_box (cs := relC x v) rfl rfl (fun b1 w1 hn1 hx1 hB => ?_)
  refine T_box rfl rfl (fun b2 w2 hn2 hx2 hb => ?_)
  have hx1 := hx1.later hb
  have hB := hB.step hB.size hb
  have hI := hI.later hB
  have hC := Below.refl w2.heap.size w2
  repeat (first | refine T_assign rfl rfl ?_ | refine T_nil0 ?_ | refine E_seq ?_ | refine E_region ?_ | refine T_loadBoxAB aL sL rfl rfl (by assumption) (by assumption) (by rfl) ?_ | refine T_loadBoxAB aT sT rfl rfl (by assumption) (by assumption) (by rfl) ?_)
  refine T_call rfl rfl (ValidPart_spec x v p w2 hI) (fun r w3 hr => ?_)
  obtain ⟨rfl, hb⟩ := hr
  have hC := hC.step hC.size hb
  repeat (first | refine T_nil0 ?_ | refine T_not rfl rfl ?_)
  refine E_cond_if rfl (fun h1 => ?_) (fun h1 => ?_)
  · repeat' (first | refine T_assign rfl rfl ?_ | refine T_nil0 ?_ | refine E_seq ?_ | refine E_region ?_ | refine E_ret1 rfl rfl ?_)
    exact ⟨by unfold worstF; rw [if_neg h1], hB.step hB.size hC⟩
  have hok := Decidable.not_not.1 h1
  have hF : worstF x p = worstL x.ds p := by unfold worstF; rw [if_pos hok]
  have hl := hok.1.2.2.1
  rw [hF]
  repeat (first | refine T_move rfl rfl ?_ | refine T_assign rfl rfl ?_ | refine T_nil0 ?_ | refine E_seq ?_ | refine E_region ?_ | refine E_skip ?_ | refine T_fieldBoxF (fun _ _ => by kernel_rfl) rfl rfl ?_ | refine T_loadBoxB Try.isAgg3 rfl rfl (by assumption) (by assumption) (by rfl) ?_ | refine T_len tyD rfl rfl (Recs.rlen (r := recD) (by assumption)) ?_)
  refine E_loop (σ := Nat) (fun i => [(2, bPtr b1 0), (3, bPtr b2 0), (5, .int .i64 (worstL (x.ds.take i) p)), (13, v), (14, .int .i64 x.ds.length), (15, .int .i64 i)]) (fun i w' => i ≤ x.ds.length ∧ Below w2.heap.size w2 w') (fun i => x.ds.length - i) 0 ⟨by omega, hC⟩ ⟨rfl, rfl, rfl, rfl, rfl, rfl, trivial⟩ ?_
  clear hC
  rintro i w3 ⟨hi, hC⟩ IH
  repeat (first | refine T_nil0 ?_ | refine E_seq ?_ | refine E_region ?_ | refine T_cmp rfl rfl rfl rfl ?_)
  refine E_cond_if rfl (fun hp => ?_) (fun hp => ?_)
  case refine_2 =>
    have e : i = x.ds.length := by omega
    subst e
    rw [List.take_length]
    repeat' (first | refine T_move rfl rfl ?_ | refine T_assign rfl rfl ?_ | refine T_nil0 ?_ | refine E_seq ?_ | refine E_region ?_ | refine E_exit rfl ?_ | refine E_ret1 rfl rfl ?_)
    exact ⟨rfl, hB.step hB.size hC⟩
  have hil : i < x.ds.length := by omega
  have hst := worstL_step hil p
  repeat (first | refine E_seq ?_ | refine E_region ?_ | refine E_skip ?_ | refine E_blockS ?_ | refine T_indexD tyD rfl rfl rfl (by assumption) (by omega) ?_ | refine T_loadDA aD sD rfl rfl (by assumption) (by assumption) (by omega) ?_)
  refine T_new (us := recD.enc (x.ds.getD i dz)) zD sD rfl (fun _ => rfl) rfl rfl (recD.one _) (fun b3 w4 hn3 hx3 hb => ?_)
  have hC := hC.step hC.size hb
  have hC4 := Below.refl w4.heap.size w4
  generalize x.ds.getD i dz = d at *
  repeat (first | refine T_nil0 ?_ | refine E_seq ?_)
  refine E_region_quiet follows (by kernel_rfl) ?_
  repeat (first | refine T_loadBoxAB aD sD rfl rfl (by assumption) (by assumption) (by rfl) ?_)
  refine T_callQ rfl rfl (fun w9 hb9 => partOf_spec d w9) ?_
  repeat (first | refine T_loadBoxAB aT sT rfl rfl (by assumption) (by assumption) (by rfl) ?_)
  refine T_callQ rfl rfl (fun w9 hb9 => meet_spec (partD d) p w9) ?_
  skip
  refine T_nil2 (fun w9 hb9 => ?_)
  have hC := hC.step hC.size hb9
  refine E_cond_if rfl (fun h4 => ?_) (fun h4 => ?_)
  · rw [if_pos (partD_meet.1 h4)] at hst
    repeat (first | refine T_move rfl rfl ?_ | refine T_assign rfl rfl ?_ | refine T_nil0 ?_ | refine E_region ?_ | refine T_add rfl rfl rfl (by omega) ?_ | refine E_inBlock ?_ | refine T_max rfl rfl rfl ?_ | refine T_fieldBoxF (fun _ _ => by kernel_rfl) rfl rfl ?_ | refine T_loadBoxB Try.isAgg3 rfl rfl (by assumption) (by assumption) (by rfl) ?_)
    exact IH (i + 1) w9 _ ⟨by omega, hC⟩ (by omega) ⟨rfl, rfl, slotI rfl hst.symm, rfl, rfl, rfl, trivial⟩
  · rw [if_neg (fun h => h4 (partD_meet.2 h))] at hst
    repeat (first | refine T_move rfl rfl ?_ | refine T_nil0 ?_ | refine E_region ?_ | refine T_add rfl rfl rfl (by omega) ?_ | refine E_skip ?_ | refine E_inBlock ?_)
    exact IH (i + 1) w9 _ ⟨by omega, hC⟩ (by omega) ⟨rfl, rfl, slotI rfl hst.symm, rfl, rfl, rfl, trivial⟩
end Go.Proofs.Ytnecmchcemnopaa
