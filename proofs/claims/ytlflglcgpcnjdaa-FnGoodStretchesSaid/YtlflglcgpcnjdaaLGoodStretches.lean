/-
  The walk of laws.FnGoodStretches: it returns true, and writes nothing that was there. Conditions: the arguments lie in memory as the contract says.
-/
import Derived.Test.YtlflglcgpcnjdaaC2b
import Derived.Test.YtlflglcgpcnjdaaC2e
import Derived.Test.YtlflglcgpcnjdaaG2d
import Derived.Test.YtlflglcgpcnjdaaLibSt
import Derived.Test.YtlflglcgpcnjdaaRowY
namespace Go.Proofs.Ytlflglcgpcnjdaa
open Go Go.PR Go.RowKit attribute [local irreducible] T E Ints Sl Bools OwnI OwnB OwnR Recs Box Ret
attribute [local irreducible] Bytes X

set_option maxHeartbeats 1000000 in
theorem FnGoodStretches_walk (cv : Value) (cs : List Int) (w : World) (hY : Bytes w.heap cv cs ∧ ∀ c ∈ cs, 0 ≤ c ∧ c ≤ 255) :
    Ret Try.prog 8 #[cv] w (fun r w' => r = .bool true ∧ Below w.heap.size w w') := by
  obtain ⟨hY, hby⟩ := hY
  refine Ret_of (args := [_]) Try.call8 Try.func8 rfl _ Try.ntmps8 rfl ?_
  repeat (first | refine T_move rfl rfl ?_ | refine T_assign rfl rfl ?_ | refine T_nil0 ?_ | refine E_seq ?_ | refine E_region ?_)
  refine T_len tyY rfl rfl hY.len ?_
  repeat (first | refine T_nil0 ?_ | refine T_cmp rfl rfl rfl rfl ?_)
  refine E_cond_if rfl (fun hp => ?_) (fun hp => ?_)
  · repeat' (first | refine T_assign rfl rfl ?_ | refine T_nil0 ?_ | refine E_seq ?_ | refine E_region ?_ | refine E_ret1 rfl rfl ?_)
    exact ⟨rfl, Below.refl _ _⟩
  repeat (first | refine T_move rfl rfl ?_ | refine E_seq ?_ | refine E_region ?_ | refine E_skip ?_)
  refine T_call rfl rfl (DrawGoodStretches_spec cv cs w hY hby) (fun r w1 hr => ?_)
  obtain ⟨x, u, l, h, m, rfl, hO, hdl, hB⟩ := hr
  repeat (first | refine T_move rfl rfl ?_ | refine T_extract rfl rfl rfl ?_)
  refine T_new (us := relC x u) zL sL rfl (fun _ => rfl) rfl rfl (relC_one hO.recs.rlen) (fun b3 w2 hn3 hx3 hb => ?_)
  have hI := (hO.later hb).recs
  have hB := hB.step hB.size hb
  have hE := Below.refl w2.heap.size w2
  clear hO hb
  repeat (first | refine T_move rfl rfl ?_ | refine T_assign rfl rfl ?_ | refine T_nil0 ?_ | refine E_seq ?_ | refine E_region ?_ | refine T_loadBoxAB aL sL rfl rfl (by assumption) (by assumption) (by rfl) ?_)
  refine T_call rfl rfl (GoodStretches_spec x u l h m w2 hI) (fun g w3 hr => ?_)
  obtain ⟨hg, hb⟩ := hr
  have hJ := hg.recs
  have hB := hB.step hB.size hb
  have hE := hE.step hE.size hb
  have hI := hI.later hb
  have hsl := strF_len (x := x) l h m
  clear hg hb
  repeat (first | refine T_move rfl rfl ?_ | refine T_assign rfl rfl ?_ | refine T_nil0 ?_ | refine E_seq ?_ | refine E_region ?_ | refine T_loadBoxAB aL sL rfl rfl (by assumption) (by assumption) (by rfl) ?_)
  refine T_call rfl rfl (sGoodStretches_spec x u l h m w3 hI (by omega)) (fun g2 w4 hr => ?_)
  obtain ⟨hg2, hb⟩ := hr
  have hB := hB.step hB.size hb
  have hE := hE.step hE.size hb
  have hI := hI.later hb
  have hJ := hJ.later hb
  clear hb
  skip
  refine T_call rfl rfl (equalStretches_same _ _ g g2 w4 rfl hJ hg2.recs (by omega)) (fun r w5 hr => ?_)
  obtain ⟨rfl, hb⟩ := hr
  have hB := hB.step hB.size hb
  have hE := hE.step hE.size hb
  have hI := hI.later hb
  have hJ := hJ.later hb
  clear hb hg2
  repeat (first | refine T_move rfl rfl ?_ | refine T_cmp rfl rfl rfl rfl ?_ | refine T_on rfl rfl ?_ | refine T_pick_false rfl rfl rfl ?_ | refine T_notB rfl rfl ?_ | refine T_len tySt rfl rfl (Recs.rlen (r := recS) (by assumption)) ?_)
  refine T_guard rfl rfl (fun h0 => ?_) (fun h0 => ?_)
  · repeat (first | refine T_move rfl rfl ?_ | refine T_nil0 ?_ | refine E_seq ?_ | refine E_region ?_ | refine T_off rfl rfl rfl ?_ | refine T_pick_true rfl rfl rfl ?_ | refine E_cond_true rfl ?_ | refine T_loadBoxAB aL sL rfl rfl (by assumption) (by assumption) (by rfl) ?_)
    refine T_call rfl rfl (sGoodStretches_spec x u l h m w5 hI (by omega)) (fun g2 w6 hr => ?_)
    obtain ⟨hg2, hb⟩ := hr
    have hB := hB.step hB.size hb
    have hJ := hJ.later hb
    skip
    refine T_call rfl rfl (equalStretches_same _ _ g g2 w6 rfl hJ hg2.recs (by omega)) (fun r w7 hr => ?_)
    obtain ⟨rfl, hb⟩ := hr
    have hB := hB.step hB.size hb
    repeat' (first | refine T_assign rfl rfl ?_ | refine T_nil0 ?_ | refine E_ret1 rfl rfl ?_)
    exact ⟨rfl, hB⟩
  repeat (first | refine T_move rfl rfl ?_ | refine T_nil0 ?_ | refine T_cmp rfl rfl rfl rfl ?_ | refine T_on rfl rfl ?_ | refine T_pick_false rfl rfl rfl ?_)
  refine E_cond_if rfl (fun h1 => ?_) (fun h1 => ?_)
  · repeat (first | refine T_move rfl rfl ?_ | refine E_seq ?_ | refine E_region ?_ | refine T_loadBoxAB aL sL rfl rfl (by assumption) (by assumption) (by rfl) ?_)
    refine T_call rfl rfl (sGoodStretches_spec x u l h m w5 hI (by omega)) (fun g2 w6 hr => ?_)
    obtain ⟨hg2, hb⟩ := hr
    have hB := hB.step hB.size hb
    have hJ := hJ.later hb
    skip
    refine T_call rfl rfl (equalStretches_same _ _ g g2 w6 rfl hJ hg2.recs (by omega)) (fun r w7 hr => ?_)
    obtain ⟨rfl, hb⟩ := hr
    have hB := hB.step hB.size hb
    repeat' (first | refine T_assign rfl rfl ?_ | refine T_nil0 ?_ | refine E_ret1 rfl rfl ?_)
    exact ⟨rfl, hB⟩
  have hok : okL x l h := by
    apply Decidable.byContradiction
    intro hn
    apply h0
    unfold strF
    rw [if_neg hn]
    rfl
  obtain ⟨hokr, hl0, hlh, hhw⟩ := hok
  have hw1 := hokr.1
  have hn1 := hokr.2.1
  have hsF : strF x l h m = strL (badL x.ds l h m x.n) := by unfold strF; rw [if_pos ⟨hokr, hl0, hlh, hhw⟩]
  have hm : 0 ≤ m := by omega
  have hgd := fun s hs => str_good (x := x) hokr (l := l) (r := h) (most := m) hm (s := s) hs
  have hbf := fun s hs => str_before (x := x) (l := l) (r := h) (most := m) hm (s := s) hs
  have hbh := fun s hs => str_behind (x := x) (l := l) (r := h) (most := m) hm (s := s) hs
  have hgap := fun i h1 h2 => str_gap (b := badL x.ds l h m x.n) (i := i) h1 h2
  have hrng : ∀ s ∈ strL (badL x.ds l h m x.n), 0 ≤ s.f ∧ s.f < s.t ∧ s.t ≤ x.n := fun s hs => by
    have := mem_strL.1 hs
    rw [badL_length] at this
    exact ⟨this.1, this.2.1, by have := this.2.2.1; omega⟩
  rw [hsF] at hJ hsl
  generalize strL (badL x.ds l h m x.n) = L at *
  have hx3 := hx3.later hE
  have hC := Below.refl w5.heap.size w5
  clear hE hsF
  repeat (first | refine T_assign rfl rfl ?_ | refine T_nil0 ?_ | refine E_seq ?_ | refine E_region ?_ | refine E_skip ?_)
  refine E_loop (σ := Nat) (fun i => [(3, bPtr b3 0), (4, .int .i64 l), (5, .int .i64 h), (6, .int .i64 m), (7, g), (8, .int .i64 (i : Int))])
    (fun i w' => i ≤ L.length ∧ Below w5.heap.size w5 w') (fun i => L.length - i) 0
    ⟨by omega, hC⟩ ⟨rfl, rfl, rfl, rfl, rfl, rfl, trivial⟩ ?_
  clear hC
  rintro i w6 ⟨hi, hC⟩ IH
  repeat (first | refine T_move rfl rfl ?_ | refine T_nil0 ?_ | refine E_seq ?_ | refine E_region ?_ | refine T_cmp rfl rfl rfl rfl ?_ | refine T_len tySt rfl rfl (Recs.rlen (r := recS) (by assumption)) ?_)
  refine E_cond_if rfl (fun hp1 => ?_) (fun hp1 => ?_)
  case refine_2 =>
    repeat' (first | refine T_assign rfl rfl ?_ | refine T_nil0 ?_ | refine E_seq ?_ | refine E_region ?_ | refine E_exit rfl ?_ | refine E_ret1 rfl rfl ?_)
    exact ⟨rfl, hB.step hB.size hC⟩
  have hil : i < L.length := by omega
  have hmem := getM (z := sz0) hil
  have hs := hrng _ hmem
  have hG := hgd _ hmem
  have hF := hbf _ hmem
  have hT := hbh _ hmem
  have hgi : 1 ≤ i → (L.getD (i - 1) sz0).t < (L.getD i sz0).f := fun h => hgap i h hil
  repeat (first | refine T_move rfl rfl ?_ | refine E_seq ?_ | refine E_region ?_ | refine E_skip ?_ | refine E_blockS ?_ | refine T_indexSt tySt rfl rfl rfl (by assumption) (by omega) ?_ | refine T_loadSA' aSt sSt rfl rfl (by assumption) (by assumption) (by omega) ?_)
  refine T_new (us := recS.enc (L.getD i sz0)) zSt sSt rfl (fun _ => rfl) rfl rfl (recS.one _) (fun b9 w7 hn9 hx9 hb => ?_)
  generalize L.getD i sz0 = s at *
  have hB := hB.step hB.size hC
  have hI7 := (hI.later hC).later hb
  have hx3' := (hx3.later hC).later hb
  have hJ7 := (hJ.later hC).later hb
  have hB := hB.step hB.size hb
  have hC := hC.step hC.size hb
  clear hb
  have e0 : worstF x ⟨l, h, s.f, s.t⟩ = worstL x.ds ⟨l, h, s.f, s.t⟩ := by unfold worstF; rw [if_pos ⟨hokr, by show 0 ≤ l ∧ l < h ∧ h ≤ x.w ∧ 0 ≤ s.f ∧ s.f < s.t ∧ s.t ≤ x.n; omega⟩]
  have e1 : 0 < s.f → worstF x ⟨l, h, s.f - 1, s.f⟩ = worstL x.ds ⟨l, h, s.f - 1, s.f⟩ := fun h0 => by unfold worstF; rw [if_pos ⟨hokr, by show 0 ≤ l ∧ l < h ∧ h ≤ x.w ∧ 0 ≤ s.f - 1 ∧ s.f - 1 < s.f ∧ s.f ≤ x.n; omega⟩]
  have e2 : s.t < x.n → worstF x ⟨l, h, s.t, s.t + 1⟩ = worstL x.ds ⟨l, h, s.t, s.t + 1⟩ := fun h0 => by unfold worstF; rw [if_pos ⟨hokr, by show 0 ≤ l ∧ l < h ∧ h ≤ x.w ∧ 0 ≤ s.t ∧ s.t < s.t + 1 ∧ s.t + 1 ≤ x.n; omega⟩]
  repeat (first | refine T_nil0 ?_ | refine E_seq ?_)
  refine E_cut (fun m' w' => Sub [(3, bPtr b3 0), (4, .int .i64 l), (5, .int .i64 h), (6, .int .i64 m), (7, g), (8, .int .i64 (i : Int)), (9, bPtr b9 0), (84, .bool false)] m' ∧ Below w7.heap.size w7 w') (fun join => ?_) ?_
  case refine_1 =>
    refine E_region_held 25 w7.drew follows (by kernel_rfl) ?_
    have hdr : Below w7.heap.size w7 w7.drew := (Below.refl _ _).drew
    have hE := hdr
    generalize w7.drew = w8 at *
    have hS := Below.refl w8.heap.size w8
    refine X_run 0 8 (by kernel_rfl) hS ?_
    repeat (first | refine T_move rfl rfl ?_ | refine T_fieldBoxF (fun _ _ => by kernel_rfl) rfl rfl ?_ | refine T_loadBoxB Try.isAgg3 rfl rfl (by assumption) (by assumption) (by rfl) ?_ | refine T_loadBoxAB aL sL rfl rfl (by assumption) (by assumption) (by rfl) ?_)
    refine T_build rfl rfl (bT _ _ _ _) ?_
    repeat (first | refine T_nil3 ?_)
    refine X_run 9 1 (by kernel_rfl) hS ?_
    repeat (first | refine T_move rfl rfl ?_ | refine T_nil3 ?_)
    refine X_one 8 (by kernel_rfl) ?_
    refine T_call rfl rfl (WorstOf_spec x u ⟨l, h, s.f, s.t⟩ w8 (hI7.later hE)) (fun r w9 hr => ?_)
    obtain ⟨rfl, hb⟩ := hr
    have hS := hS.step hS.size hb
    repeat (first | refine T_nil0 ?_)
    refine ⟨hS, ?_⟩
    refine X_run 10 15 (by kernel_rfl) hS ?_
    repeat (first | refine T_move rfl rfl ?_ | refine T_cmp rfl rfl rfl rfl ?_)
    rw [decide_eq_false (show ¬ m < worstF x ⟨l, h, s.f, s.t⟩ by rw [e0]; omega)]
    repeat (first | refine T_move rfl rfl ?_ | refine T_cmp rfl rfl rfl rfl ?_ | refine T_on rfl rfl ?_)
    refine T_guard rfl rfl (fun h3 => ?_) (fun h3 => ?_)
    · repeat (first | refine T_move rfl rfl ?_ | refine T_nil3 ?_ | refine T_cmp rfl rfl rfl rfl ?_ | refine T_on rfl rfl ?_ | refine T_sub rfl rfl rfl (by omega) ?_ | refine T_pick_true rfl rfl rfl ?_ | refine T_fieldBoxF (fun _ _ => by kernel_rfl) rfl rfl ?_ | refine T_loadBoxB Try.isAgg3 rfl rfl (by assumption) (by assumption) (by rfl) ?_ | refine T_indexStI tySt rfl rfl rfl (by assumption) (by omega) ?_ | refine T_fieldSt (fun _ _ => by kernel_rfl) rfl rfl (by assumption) (by omega) ?_ | refine T_loadSt Try.isAgg3 rfl rfl (by assumption) (by assumption) (by omega) (by rfl) ?_)
      rw [decide_eq_false (show ¬ s.f ≤ (L.getD ((i : Int) - 1).toNat sz0).t by rw [show ((i : Int) - 1).toNat = i - 1 by omega]; have := hgi (by omega); omega)]
      skip
      refine X_tail (by kernel_rfl) ?_
      repeat (first | refine join _ _ ?_ | refine T_nil0 ?_ | refine T_pick_false rfl rfl rfl ?_)
      exact ⟨⟨rfl, rfl, rfl, rfl, rfl, rfl, rfl, rfl, trivial⟩, hE.step hE.size hS⟩
    · repeat (first | refine T_nil3 ?_ | refine T_on rfl rfl ?_ | refine T_off rfl rfl rfl ?_ | refine T_pick_false rfl rfl rfl ?_)
      refine X_tail (by kernel_rfl) ?_
      repeat (first | refine join _ _ ?_ | refine T_nil0 ?_ | refine T_pick_false rfl rfl rfl ?_)
      exact ⟨⟨rfl, rfl, rfl, rfl, rfl, rfl, rfl, rfl, trivial⟩, hE.step hE.size hS⟩
  rintro m' w10 ⟨hsub, hE⟩
  refine E.weaken hsub ?_
  have hC := hC.step hC.size hE
  repeat (first | refine T_move rfl rfl ?_ | refine E_seq ?_ | refine E_region ?_ | refine T_cmp rfl rfl rfl rfl ?_ | refine E_cond_false rfl ?_ | refine E_skip ?_ | refine T_fieldBoxF (fun _ _ => by kernel_rfl) rfl rfl ?_ | refine T_loadBoxB Try.isAgg3 rfl rfl (by assumption) (by assumption) (by rfl) ?_)
  refine T_guard rfl rfl (fun h5 => ?_) (fun h5 => ?_)
  · repeat (first | refine T_move rfl rfl ?_ | refine T_on rfl rfl ?_ | refine T_sub rfl rfl rfl (by omega) ?_ | refine T_fieldBoxF (fun _ _ => by kernel_rfl) rfl rfl ?_ | refine T_loadBoxB Try.isAgg3 rfl rfl (by assumption) (by assumption) (by rfl) ?_ | refine T_loadBoxAB aL sL rfl rfl (by assumption) (by assumption) (by rfl) ?_)
    refine T_build rfl rfl (bT _ _ _ _) ?_
    refine T_on rfl rfl ?_
    refine T_call rfl rfl (WorstOf_spec x u ⟨l, h, s.f - 1, s.f⟩ _ (hI7.later hE)) (fun r w12 hr => ?_)
    obtain ⟨rfl, hb⟩ := hr
    have hC := hC.step hC.size hb
    have hE := hE.step hE.size hb
    repeat (first | refine T_move rfl rfl ?_ | refine T_cmp rfl rfl rfl rfl ?_ | refine T_on rfl rfl ?_ | refine T_pick_true rfl rfl rfl ?_)
    rw [decide_eq_false (show ¬ worstF x ⟨l, h, s.f - 1, s.f⟩ ≤ m by rw [e1 h5]; have := hF h5; omega)]
    repeat (first | refine T_move rfl rfl ?_ | refine T_cmp rfl rfl rfl rfl ?_ | refine T_on rfl rfl ?_ | refine T_fieldBoxF (fun _ _ => by kernel_rfl) rfl rfl ?_ | refine T_loadBoxB Try.isAgg3 rfl rfl (by assumption) (by assumption) (by rfl) ?_)
    refine T_guard rfl rfl (fun h6 => ?_) (fun h6 => ?_)
    · repeat (first | refine T_move rfl rfl ?_ | refine T_on rfl rfl ?_ | refine T_add rfl rfl rfl (by omega) ?_ | refine T_fieldBoxF (fun _ _ => by kernel_rfl) rfl rfl ?_ | refine T_loadBoxB Try.isAgg3 rfl rfl (by assumption) (by assumption) (by rfl) ?_ | refine T_loadBoxAB aL sL rfl rfl (by assumption) (by assumption) (by rfl) ?_)
      refine T_build rfl rfl (bT _ _ _ _) ?_
      refine T_on rfl rfl ?_
      refine T_call rfl rfl (WorstOf_spec x u ⟨l, h, s.t, s.t + 1⟩ _ (hI7.later hE)) (fun r w11 hr => ?_)
      obtain ⟨rfl, hb⟩ := hr
      have hC := hC.step hC.size hb
      repeat (first | refine T_move rfl rfl ?_ | refine T_nil0 ?_ | refine T_cmp rfl rfl rfl rfl ?_ | refine T_on rfl rfl ?_ | refine T_pick_true rfl rfl rfl ?_ | refine T_pick_false rfl rfl rfl ?_)
      rw [decide_eq_false (show ¬ worstF x ⟨l, h, s.t, s.t + 1⟩ ≤ m by rw [e2 h6]; have := hT h6; omega)]
      repeat (first | refine T_move rfl rfl ?_ | refine T_assign rfl rfl ?_ | refine T_nil0 ?_ | refine E_region ?_ | refine T_add rfl rfl rfl (by omega) ?_ | refine E_cond_false rfl ?_ | refine E_skip ?_ | refine E_inBlock ?_)
      exact IH (i + 1) w11 _ ⟨by omega, hC⟩ (by omega) ⟨rfl, rfl, rfl, rfl, rfl, rfl, trivial⟩
    · repeat (first | refine T_move rfl rfl ?_ | refine T_assign rfl rfl ?_ | refine T_nil0 ?_ | refine E_region ?_ | refine T_on rfl rfl ?_ | refine T_off rfl rfl rfl ?_ | refine T_add rfl rfl rfl (by omega) ?_ | refine T_pick_false rfl rfl rfl ?_ | refine E_cond_false rfl ?_ | refine E_skip ?_ | refine E_inBlock ?_)
      exact IH (i + 1) _ _ ⟨by omega, hC⟩ (by omega) ⟨rfl, rfl, rfl, rfl, rfl, rfl, trivial⟩
  · repeat (first | refine T_move rfl rfl ?_ | refine T_cmp rfl rfl rfl rfl ?_ | refine T_on rfl rfl ?_ | refine T_off rfl rfl rfl ?_ | refine T_pick_false rfl rfl rfl ?_ | refine T_fieldBoxF (fun _ _ => by kernel_rfl) rfl rfl ?_ | refine T_loadBoxB Try.isAgg3 rfl rfl (by assumption) (by assumption) (by rfl) ?_)
    refine T_guard rfl rfl (fun h6 => ?_) (fun h6 => ?_)
    · repeat (first | refine T_move rfl rfl ?_ | refine T_on rfl rfl ?_ | refine T_add rfl rfl rfl (by omega) ?_ | refine T_fieldBoxF (fun _ _ => by kernel_rfl) rfl rfl ?_ | refine T_loadBoxB Try.isAgg3 rfl rfl (by assumption) (by assumption) (by rfl) ?_ | refine T_loadBoxAB aL sL rfl rfl (by assumption) (by assumption) (by rfl) ?_)
      refine T_build rfl rfl (bT _ _ _ _) ?_
      refine T_on rfl rfl ?_
      refine T_call rfl rfl (WorstOf_spec x u ⟨l, h, s.t, s.t + 1⟩ _ (hI7.later hE)) (fun r w11 hr => ?_)
      obtain ⟨rfl, hb⟩ := hr
      have hC := hC.step hC.size hb
      repeat (first | refine T_move rfl rfl ?_ | refine T_nil0 ?_ | refine T_cmp rfl rfl rfl rfl ?_ | refine T_on rfl rfl ?_ | refine T_pick_true rfl rfl rfl ?_ | refine T_pick_false rfl rfl rfl ?_)
      rw [decide_eq_false (show ¬ worstF x ⟨l, h, s.t, s.t + 1⟩ ≤ m by rw [e2 h6]; have := hT h6; omega)]
      repeat (first | refine T_move rfl rfl ?_ | refine T_assign rfl rfl ?_ | refine T_nil0 ?_ | refine E_region ?_ | refine T_add rfl rfl rfl (by omega) ?_ | refine E_cond_false rfl ?_ | refine E_skip ?_ | refine E_inBlock ?_)
      exact IH (i + 1) w11 _ ⟨by omega, hC⟩ (by omega) ⟨rfl, rfl, rfl, rfl, rfl, rfl, trivial⟩
    · repeat (first | refine T_move rfl rfl ?_ | refine T_assign rfl rfl ?_ | refine T_nil0 ?_ | refine E_region ?_ | refine T_on rfl rfl ?_ | refine T_off rfl rfl rfl ?_ | refine T_add rfl rfl rfl (by omega) ?_ | refine T_pick_false rfl rfl rfl ?_ | refine E_cond_false rfl ?_ | refine E_skip ?_ | refine E_inBlock ?_)
      exact IH (i + 1) _ _ ⟨by omega, hC⟩ (by omega) ⟨rfl, rfl, rfl, rfl, rfl, rfl, trivial⟩
end Go.Proofs.Ytlflglcgpcnjdaa
