/-
  Contracts on reels, parts and defects: which are valid, which meet. Conditions: the arguments lie in memory as the contract says.
-/
import Derived.Test.YtnecmchcemnopaaTyR
import Derived.Test.YtnecmchcemnopaaLib
namespace Go.PR
open Go Go.RowKit
def relV (x : Rel) (v : Value) : Value := .agg (relC x v).toArray
end Go.PR
namespace Go.Proofs.Ytnecmchcemnopaa
open Go Go.PR Go.RowKit attribute [local irreducible] T E Ints Sl Bools OwnI OwnB OwnR Recs Box Ret

theorem partOf_spec (d : Dfc) (w : World) :
    Ret Try.prog 45 #[.agg (recD.enc d).toArray] w (fun r w' => r = .agg (recT.enc (partD d)).toArray ∧ Below w.heap.size w w') := by
  refine Ret_of (args := [_]) Try.call45 Try.func45 rfl _ Try.ntmps45 rfl ?_
  repeat (first | refine E_seq ?_ | refine E_region ?_)
  refine T_box rfl rfl (fun b1 w1 hn1 hx1 hB => ?_)
  refine T_alloc zT rfl (fun b2 w2 hn2 hx2 hb => ?_)
  have hz := hB.size
  have hx1 := hx1.later hb
  have hB := hB.step hB.size hb
  have hC := Below.refl w2.heap.size w2
  repeat (first | refine T_nil0 ?_ | refine E_seq ?_ | refine E_region ?_ | refine T_fieldBoxF (fun _ _ => by kernel_rfl) rfl rfl ?_ | refine T_loadBoxB Try.isAgg3 rfl rfl (by assumption) (by assumption) (by rfl) ?_)
  refine T_build rfl rfl (bT _ _ _ _) ?_
  refine T_storeBoxA sT rfl rfl rfl (recT.one _) hx2 rfl (fun w3 hx3 hg3 _ => ?_)
  repeat (first | refine T_nil0 ?_)
  refine E_retC rfl rfl aT sT hx3 rfl ⟨rfl, hB.grown hg3 hB.size (fun c hc => by simp at hc; omega)⟩

theorem inside_spec (p : Prt) (W N : Int) (w : World) :
    Ret Try.prog 41 #[.agg (recT.enc p).toArray, .int .i64 W, .int .i64 N] w (fun r w' => r = .bool (decide (okT W N p)) ∧ Below w.heap.size w w') := by
  refine Ret_of (args := [_, _, _]) Try.call41 Try.func41 rfl _ Try.ntmps41 rfl ?_
  repeat (first | refine E_seq ?_ | refine E_region ?_)
  refine T_box rfl rfl (fun b1 w1 hn1 hx1 hB => ?_)
  have hC := Below.refl w1.heap.size w1
  repeat' (first | refine T_move rfl rfl ?_ | refine T_assign rfl rfl ?_ | refine T_nil0 ?_ | refine E_seq ?_ | refine E_region ?_ | refine T_cmp rfl rfl rfl rfl ?_ | refine T_on rfl rfl ?_ | refine T_off rfl rfl rfl ?_ | refine T_pick_true rfl rfl rfl ?_ | refine T_pick_false rfl rfl rfl ?_ | refine T_fieldBoxF (fun _ _ => by kernel_rfl) rfl rfl ?_ | refine T_loadBoxB Try.isAgg3 rfl rfl (by assumption) (by assumption) (by rfl) ?_ | refine T_guard rfl rfl (fun hp => ?_) (fun hp => ?_) | refine E_ret1 rfl rfl ?_)
  all_goals (first | exact ⟨vb_iff (by unfold okT; omega), hB⟩ | exact ⟨vb_f (by unfold okT; omega), hB⟩ | exact ⟨vb_t (by unfold okT; omega), hB⟩)

theorem meet_spec (p q : Prt) (w : World) :
    Ret Try.prog 42 #[.agg (recT.enc p).toArray, .agg (recT.enc q).toArray] w (fun r w' => r = .bool (decide (meetT p q)) ∧ Below w.heap.size w w') := by
  refine Ret_of (args := [_, _]) Try.call42 Try.func42 rfl _ Try.ntmps42 rfl ?_
  repeat (first | refine E_seq ?_ | refine E_region ?_)
  refine T_box rfl rfl (fun b1 w1 hn1 hx1 hB => ?_)
  refine T_box rfl rfl (fun b2 w2 hn2 hx2 hb => ?_)
  have hx1 := hx1.later hb
  have hB := hB.step hB.size hb
  have hC := Below.refl w2.heap.size w2
  repeat' (first | refine T_move rfl rfl ?_ | refine T_assign rfl rfl ?_ | refine T_nil0 ?_ | refine E_seq ?_ | refine E_region ?_ | refine T_cmp rfl rfl rfl rfl ?_ | refine T_on rfl rfl ?_ | refine T_off rfl rfl rfl ?_ | refine T_pick_true rfl rfl rfl ?_ | refine T_pick_false rfl rfl rfl ?_ | refine T_fieldBoxF (fun _ _ => by kernel_rfl) rfl rfl ?_ | refine T_loadBoxB Try.isAgg3 rfl rfl (by assumption) (by assumption) (by rfl) ?_ | refine T_guard rfl rfl (fun hp => ?_) (fun hp => ?_) | refine E_ret1 rfl rfl ?_)
  all_goals (first | exact ⟨vb_iff (by unfold meetT; omega), hB⟩ | exact ⟨vb_f (by unfold meetT; omega), hB⟩ | exact ⟨vb_t (by unfold meetT; omega), hB⟩)

theorem meets_spec (d : Dfc) (p : Prt) (w : World) :
    Ret Try.prog 63 #[.agg (recD.enc d).toArray, .agg (recT.enc p).toArray] w (fun r w' => r = .bool (decide (meetD d p)) ∧ Below w.heap.size w w') := by
  refine Ret_of (args := [_, _]) Try.call63 Try.func63 rfl _ Try.ntmps63 rfl ?_
  repeat (first | refine E_seq ?_ | refine E_region ?_)
  refine T_box rfl rfl (fun b1 w1 hn1 hx1 hB => ?_)
  refine T_box rfl rfl (fun b2 w2 hn2 hx2 hb => ?_)
  have hx1 := hx1.later hb
  have hB := hB.step hB.size hb
  have hC := Below.refl w2.heap.size w2
  repeat' (first | refine T_move rfl rfl ?_ | refine T_assign rfl rfl ?_ | refine T_nil0 ?_ | refine E_seq ?_ | refine E_region ?_ | refine T_cmp rfl rfl rfl rfl ?_ | refine T_on rfl rfl ?_ | refine T_off rfl rfl rfl ?_ | refine T_pick_true rfl rfl rfl ?_ | refine T_pick_false rfl rfl rfl ?_ | refine T_fieldBoxF (fun _ _ => by kernel_rfl) rfl rfl ?_ | refine T_loadBoxB Try.isAgg3 rfl rfl (by assumption) (by assumption) (by rfl) ?_ | refine T_guard rfl rfl (fun hp => ?_) (fun hp => ?_) | refine E_ret1 rfl rfl ?_)
  all_goals (first | exact ⟨vb_iff (by unfold meetD; omega), hB⟩ | exact ⟨vb_f (by unfold meetD; omega), hB⟩ | exact ⟨vb_t (by unfold meetD; omega), hB⟩)

theorem partsMeet_spec (p q : Prt) (w : World) :
    Ret Try.prog 61 #[.agg (recT.enc p).toArray, .agg (recT.enc q).toArray] w (fun r w' => r = .bool (decide (meetT p q)) ∧ Below w.heap.size w w') := by
  refine Ret_of (args := [_, _]) Try.call61 Try.func61 rfl _ Try.ntmps61 rfl ?_
  repeat (first | (first | refine T_move rfl rfl ?_ | refine T_assign rfl rfl ?_ | refine T_nil0 ?_ | refine T_nil1 ?_ | refine T_nil3 ?_ | refine T_nil4 ?_ | refine E_seq ?_ | refine E_region ?_ | refine T_cmp rfl rfl rfl rfl ?_ | refine T_on rfl rfl ?_ | refine T_off rfl rfl rfl ?_ | refine T_offU rfl rfl rfl ?_ | refine T_add rfl rfl rfl (by omega) ?_ | refine T_sub rfl rfl rfl (by omega) ?_ | refine T_pick_true rfl rfl rfl ?_ | refine T_pick_false rfl rfl rfl ?_ | refine E_cond_true rfl ?_ | refine E_cond_false rfl ?_ | refine E_skip ?_ | refine E_blockS ?_ | refine E_blockR ?_ | refine E_blockC ?_ | refine E_blockB ?_ | refine E_inBlock ?_ | refine E_exit rfl ?_ | refine T_not rfl rfl ?_ | refine T_notB rfl rfl ?_ | refine T_max rfl rfl rfl ?_ | refine T_min rfl rfl rfl ?_ | refine T_extract rfl rfl rfl ?_) | (first | refine T_fieldBoxF (fun _ _ => by kernel_rfl) rfl rfl ?_ | refine T_loadBoxB Try.isAgg3 rfl rfl (by assumption) (by assumption) (by rfl) ?_ | refine T_loadBoxB nDs rfl rfl (by assumption) (by assumption) (by rfl) ?_ | refine T_loadBoxAB aL sL rfl rfl (by assumption) (by assumption) (by rfl) ?_ | refine T_loadBoxAB aD sD rfl rfl (by assumption) (by assumption) (by rfl) ?_ | refine T_loadBoxAB aT sT rfl rfl (by assumption) (by assumption) (by rfl) ?_ | refine T_len tyD rfl rfl (Recs.rlen (r := recD) (by assumption)) ?_ | refine T_indexD tyD rfl rfl rfl (by assumption) (by omega) ?_ | refine T_indexDI tyD rfl rfl rfl (by assumption) (by omega) ?_ | refine T_loadDA aD sD rfl rfl (by assumption) (by assumption) (by omega) ?_ | refine T_fieldD (fun _ _ => by kernel_rfl) rfl rfl (by assumption) (by omega) ?_ | refine T_loadD Try.isAgg3 rfl rfl (by assumption) (by assumption) (by omega) (by rfl) ?_))
  refine T_box rfl rfl (fun b1 w1 hn1 hx1 hB => ?_)
  refine T_box rfl rfl (fun b2 w2 hn2 hx2 hb => ?_)
  have hx1 := hx1.later hb
  have hB := hB.step hB.size hb
  have hC := Below.refl w2.heap.size w2
  repeat' (first | (first | refine T_move rfl rfl ?_ | refine T_assign rfl rfl ?_ | refine T_nil0 ?_ | refine T_nil1 ?_ | refine T_nil3 ?_ | refine T_nil4 ?_ | refine E_seq ?_ | refine E_region ?_ | refine T_cmp rfl rfl rfl rfl ?_ | refine T_on rfl rfl ?_ | refine T_off rfl rfl rfl ?_ | refine T_offU rfl rfl rfl ?_ | refine T_add rfl rfl rfl (by omega) ?_ | refine T_sub rfl rfl rfl (by omega) ?_ | refine T_pick_true rfl rfl rfl ?_ | refine T_pick_false rfl rfl rfl ?_ | refine E_cond_true rfl ?_ | refine E_cond_false rfl ?_ | refine E_skip ?_ | refine E_blockS ?_ | refine E_blockR ?_ | refine E_blockC ?_ | refine E_blockB ?_ | refine E_inBlock ?_ | refine E_exit rfl ?_ | refine T_not rfl rfl ?_ | refine T_notB rfl rfl ?_ | refine T_max rfl rfl rfl ?_ | refine T_min rfl rfl rfl ?_ | refine T_extract rfl rfl rfl ?_) | (first | refine T_fieldBoxF (fun _ _ => by kernel_rfl) rfl rfl ?_ | refine T_loadBoxB Try.isAgg3 rfl rfl (by assumption) (by assumption) (by rfl) ?_ | refine T_loadBoxB nDs rfl rfl (by assumption) (by assumption) (by rfl) ?_ | refine T_loadBoxAB aL sL rfl rfl (by assumption) (by assumption) (by rfl) ?_ | refine T_loadBoxAB aD sD rfl rfl (by assumption) (by assumption) (by rfl) ?_ | refine T_loadBoxAB aT sT rfl rfl (by assumption) (by assumption) (by rfl) ?_ | refine T_len tyD rfl rfl (Recs.rlen (r := recD) (by assumption)) ?_ | refine T_indexD tyD rfl rfl rfl (by assumption) (by omega) ?_ | refine T_indexDI tyD rfl rfl rfl (by assumption) (by omega) ?_ | refine T_loadDA aD sD rfl rfl (by assumption) (by assumption) (by omega) ?_ | refine T_fieldD (fun _ _ => by kernel_rfl) rfl rfl (by assumption) (by omega) ?_ | refine T_loadD Try.isAgg3 rfl rfl (by assumption) (by assumption) (by omega) (by rfl) ?_) | (first | refine T_guard rfl rfl (fun hp => ?_) (fun hp => ?_) | refine T_guardB rfl rfl (fun hp => ?_) (fun hp => ?_) | refine E_cond_if rfl (fun hp => ?_) (fun hp => ?_) | refine E_cond_bool rfl (fun hp => ?_) (fun hp => ?_)) | (first | refine E_ret1 rfl rfl ?_ | refine E_ret2 rfl rfl rfl ?_ | refine E_ret3 rfl rfl rfl rfl ?_))
  all_goals (first | exact ⟨vb_iff (by unfold meetT; omega), hB⟩ | exact ⟨vb_f (by unfold meetT; omega), hB⟩ | exact ⟨vb_t (by unfold meetT; omega), hB⟩)

theorem partD_meet {d : Dfc} {p : Prt} : meetT (partD d) p ↔ meetD d p := Iff.rfl

/-- what spec.inRange tells of a defect, sums and all -/
def okDW (W N : Int) (d : Dfc) : Prop := 0 ≤ d.l ∧ d.l ≤ IntKind.i64.wrap (W - 1) ∧ IntKind.i64.wrap (d.l + 1) ≤ d.r ∧ d.r ≤ W ∧ 0 ≤ d.f ∧ d.f ≤ IntKind.i64.wrap (N - 1) ∧ IntKind.i64.wrap (d.f + 1) ≤ d.t ∧ d.t ≤ N ∧ 1 ≤ d.g ∧ d.g ≤ 9
instance (W N : Int) (d : Dfc) : Decidable (okDW W N d) := by unfold okDW; infer_instance
theorem okDW_iff {W N : Int} {d : Dfc} (hW : 1 ≤ W ∧ W ≤ 60) (hN : 1 ≤ N ∧ N ≤ 400) : okDW W N d ↔ okD W N d := by
  unfold okDW okD
  rw [wrap_in (x := W - 1) (by omega), wrap_in (x := N - 1) (by omega)]
  constructor
  · rintro ⟨h1, h2, h3, h4, h5, h6, h7, h8, h9, h10⟩
    rw [wrap_in (by omega)] at h3
    rw [wrap_in (by omega)] at h7
    omega
  · rintro ⟨⟨h1, h2, h3, h4, h5, h6⟩, h7, h8⟩
    rw [wrap_in (by omega), wrap_in (by omega)]
    omega
def okTW (W N : Int) (p : Prt) : Prop := 0 ≤ p.l ∧ p.l ≤ IntKind.i64.wrap (W - 1) ∧ IntKind.i64.wrap (p.l + 1) ≤ p.r ∧ p.r ≤ W ∧ 0 ≤ p.f ∧ p.f ≤ IntKind.i64.wrap (N - 1) ∧ IntKind.i64.wrap (p.f + 1) ≤ p.t ∧ p.t ≤ N
instance (W N : Int) (p : Prt) : Decidable (okTW W N p) := by unfold okTW; infer_instance
theorem okTW_iff {W N : Int} {p : Prt} (hW : 1 ≤ W ∧ W ≤ 60) (hN : 1 ≤ N ∧ N ≤ 400) : okTW W N p ↔ okT W N p := by
  unfold okTW okT
  rw [wrap_in (x := W - 1) (by omega), wrap_in (x := N - 1) (by omega)]
  constructor
  · rintro ⟨h1, h2, h3, h4, h5, h6, h7, h8⟩
    rw [wrap_in (by omega)] at h3
    rw [wrap_in (by omega)] at h7
    omega
  · rintro ⟨h1, h2, h3, h4, h5, h6⟩
    rw [wrap_in (by omega), wrap_in (by omega)]
    omega

theorem validDefectW_spec (x : Rel) (v : Value) (d : Dfc) (w : World) (hW : 0 ≤ x.w ∧ x.w ≤ 1000) (hN : 0 ≤ x.n ∧ x.n ≤ 1000) :
    Ret Try.prog 70 #[relV x v, .agg (recD.enc d).toArray] w (fun r w' => r = .bool (decide (okDW x.w x.n d)) ∧ Below w.heap.size w w') := by
  refine Ret_of (args := [_, _]) Try.call70 Try.func70 rfl _ Try.ntmps70 rfl ?_
  repeat (first | refine E_seq ?_ | refine E_region ?_)
  refine T_box (cs := relC x v) rfl rfl (fun b1 w1 hn1 hx1 hB => ?_)
  refine T_box rfl rfl (fun b2 w2 hn2 hx2 hb => ?_)
  have hx1 := hx1.later hb
  have hB := hB.step hB.size hb
  have hC := Below.refl w2.heap.size w2
  repeat (first | refine T_assign rfl rfl ?_ | refine T_nil0 ?_ | refine E_seq ?_ | refine E_region ?_ | refine T_sub rfl rfl rfl (by omega) ?_ | refine T_fieldBoxF (fun _ _ => by kernel_rfl) rfl rfl ?_ | refine T_loadBoxB Try.isAgg3 rfl rfl (by assumption) (by assumption) (by rfl) ?_)
  refine T_call rfl rfl (inRange_spec _ _ _ w2) (fun r w3 hr => ?_)
  obtain ⟨rfl, rfl⟩ := hr
  rw [← wrap_in (x := x.w - 1) (by omega)]
  repeat (first | refine T_move rfl rfl ?_)
  refine T_guard rfl rfl (fun h1 => ?_) (fun h1 => ?_)
  case refine_2 =>
    repeat' (first | refine T_move rfl rfl ?_ | refine T_assign rfl rfl ?_ | refine T_nil0 ?_ | refine T_off rfl rfl rfl ?_ | refine T_pick_false rfl rfl rfl ?_ | refine E_ret1 rfl rfl ?_)
    exact ⟨vb_f (fun h => h1 ⟨h.1, h.2.1⟩), hB⟩
  refine T_on rfl rfl ?_
  repeat (first | refine T_on rfl rfl ?_ | refine T_fieldBoxF (fun _ _ => by kernel_rfl) rfl rfl ?_ | refine T_loadBoxB Try.isAgg3 rfl rfl (by assumption) (by assumption) (by rfl) ?_)
  refine T_addW rfl rfl rfl ?_
  repeat (first | refine T_on rfl rfl ?_ | refine T_fieldBoxF (fun _ _ => by kernel_rfl) rfl rfl ?_ | refine T_loadBoxB Try.isAgg3 rfl rfl (by assumption) (by assumption) (by rfl) ?_)
  refine T_call rfl rfl (inRange_spec _ _ _ w2) (fun r w3 hr => ?_)
  obtain ⟨rfl, rfl⟩ := hr
  repeat (first | refine T_move rfl rfl ?_ | refine T_pick_true rfl rfl rfl ?_)
  refine T_guard rfl rfl (fun h2 => ?_) (fun h2 => ?_)
  case refine_2 =>
    repeat' (first | refine T_move rfl rfl ?_ | refine T_assign rfl rfl ?_ | refine T_nil0 ?_ | refine T_off rfl rfl rfl ?_ | refine T_pick_false rfl rfl rfl ?_ | refine E_ret1 rfl rfl ?_)
    exact ⟨vb_f (fun h => h2 ⟨h.2.2.1, h.2.2.2.1⟩), hB⟩
  refine T_on rfl rfl ?_
  repeat (first | refine T_on rfl rfl ?_ | refine T_sub rfl rfl rfl (by omega) ?_ | refine T_fieldBoxF (fun _ _ => by kernel_rfl) rfl rfl ?_ | refine T_loadBoxB Try.isAgg3 rfl rfl (by assumption) (by assumption) (by rfl) ?_)
  refine T_call rfl rfl (inRange_spec _ _ _ w2) (fun r w3 hr => ?_)
  obtain ⟨rfl, rfl⟩ := hr
  rw [← wrap_in (x := x.n - 1) (by omega)]
  repeat (first | refine T_move rfl rfl ?_ | refine T_pick_true rfl rfl rfl ?_)
  refine T_guard rfl rfl (fun h3 => ?_) (fun h3 => ?_)
  case refine_2 =>
    repeat' (first | refine T_move rfl rfl ?_ | refine T_assign rfl rfl ?_ | refine T_nil0 ?_ | refine T_off rfl rfl rfl ?_ | refine T_pick_false rfl rfl rfl ?_ | refine E_ret1 rfl rfl ?_)
    exact ⟨vb_f (fun h => h3 ⟨h.2.2.2.2.1, h.2.2.2.2.2.1⟩), hB⟩
  refine T_on rfl rfl ?_
  repeat (first | refine T_on rfl rfl ?_ | refine T_fieldBoxF (fun _ _ => by kernel_rfl) rfl rfl ?_ | refine T_loadBoxB Try.isAgg3 rfl rfl (by assumption) (by assumption) (by rfl) ?_)
  refine T_addW rfl rfl rfl ?_
  repeat (first | refine T_on rfl rfl ?_ | refine T_fieldBoxF (fun _ _ => by kernel_rfl) rfl rfl ?_ | refine T_loadBoxB Try.isAgg3 rfl rfl (by assumption) (by assumption) (by rfl) ?_)
  refine T_call rfl rfl (inRange_spec _ _ _ w2) (fun r w3 hr => ?_)
  obtain ⟨rfl, rfl⟩ := hr
  repeat (first | refine T_move rfl rfl ?_ | refine T_pick_true rfl rfl rfl ?_)
  refine T_guard rfl rfl (fun h4 => ?_) (fun h4 => ?_)
  case refine_2 =>
    repeat' (first | refine T_assign rfl rfl ?_ | refine T_nil0 ?_ | refine T_off rfl rfl rfl ?_ | refine T_pick_false rfl rfl rfl ?_ | refine E_ret1 rfl rfl ?_)
    exact ⟨vb_f (fun h => h4 ⟨h.2.2.2.2.2.2.1, h.2.2.2.2.2.2.2.1⟩), hB⟩
  refine T_on rfl rfl ?_
  repeat (first | refine T_on rfl rfl ?_ | refine T_fieldBoxF (fun _ _ => by kernel_rfl) rfl rfl ?_ | refine T_loadBoxB Try.isAgg3 rfl rfl (by assumption) (by assumption) (by rfl) ?_)
  refine T_call rfl rfl (inRange_spec _ _ _ w2) (fun r w3 hr => ?_)
  obtain ⟨rfl, rfl⟩ := hr
  repeat' (first | refine T_assign rfl rfl ?_ | refine T_nil0 ?_ | refine T_pick_true rfl rfl rfl ?_ | refine E_ret1 rfl rfl ?_)
  exact ⟨vb_iff ⟨fun h => ⟨h1.1, h1.2, h2.1, h2.2, h3.1, h3.2, h4.1, h4.2, h.1, h.2⟩, fun h => ⟨h.2.2.2.2.2.2.2.2.1, h.2.2.2.2.2.2.2.2.2⟩⟩, hB⟩
theorem validDefect_spec (x : Rel) (v : Value) (d : Dfc) (w : World) (hW : 1 ≤ x.w ∧ x.w ≤ 60) (hN : 1 ≤ x.n ∧ x.n ≤ 400) :
    Ret Try.prog 70 #[relV x v, .agg (recD.enc d).toArray] w (fun r w' => r = .bool (decide (okD x.w x.n d)) ∧ Below w.heap.size w w') := by
  rw [show decide (okD x.w x.n d) = decide (okDW x.w x.n d) from decide_eq_decide.2 (okDW_iff hW hN).symm]
  exact validDefectW_spec x v d w (by omega) (by omega)
end Go.Proofs.Ytnecmchcemnopaa
