/-
  The walk of laws.FnRollsWith: it returns true, and writes nothing that was there. Conditions: the arguments lie in memory as the contract says.
-/
import Derived.Test.YtnecmchcemnopaaC7c
import Derived.Test.YtnecmchcemnopaaG2f
import Derived.Test.YtnecmchcemnopaaLibL
import Derived.Test.YtnecmchcemnopaaLibT
import Derived.Test.YtnecmchcemnopaaRowY
namespace Go.PR
theorem ascU_snoc {xs : List Int} {z : Int} (h : ascU xs) (hz : ∀ y ∈ xs, y < z) : ascU (xs ++ [z]) := by
  intro j hj
  rw [List.length_append, List.length_singleton, Nat.add_sub_cancel] at hj
  by_cases e : j + 1 < xs.length
  · rw [getD_append_left (by omega), getD_append_left e]
    exact h j (by omega)
  · have e2 : (xs ++ [z]).getD (j + 1) 0 = z := by
      rw [List.getD_eq_getElem?_getD, List.getElem?_append_right (by omega), show j + 1 - xs.length = 0 by omega]; rfl
    rw [e2, getD_append_left (by omega)]
    exact hz _ (getD_mem (by omega))
theorem rollsN_asc (ps : List Prt) (d : Dfc) : ∀ k, ascU (rollsN ps d k)
  | 0 => fun j hj => by simp [rollsN] at hj
  | k + 1 => by
    show ascU (if meetD d (ps.getD k pz) then _ else _)
    split
    · exact ascU_snoc (rollsN_asc ps d k) (fun y hy => (rollsN_mem_nonneg ps d k y hy).2)
    · exact rollsN_asc ps d k
end Go.PR
namespace Go.Proofs.Ytnecmchcemnopaa
open Go Go.PR Go.RowKit attribute [local irreducible] T E Ints Sl Bools OwnI OwnB OwnR Recs Box Ret
attribute [local irreducible] Bytes X

set_option maxHeartbeats 2000000 in
theorem FnRollsWith_walk (cv : Value) (cs : List Int) (w : World) (hY : Bytes w.heap cv cs ∧ ∀ c ∈ cs, 0 ≤ c ∧ c ≤ 255) :
    Ret Try.prog 4 #[cv] w (fun r w' => r = .bool true ∧ Below w.heap.size w w') := by
  obtain ⟨hY, hby⟩ := hY
  refine Ret_of (args := [_]) Try.call4 Try.func4 rfl _ Try.ntmps4 rfl ?_
  repeat (first | refine T_move rfl rfl ?_ | refine T_assign rfl rfl ?_ | refine T_nil0 ?_ | refine E_seq ?_ | refine E_region ?_)
  refine T_len tyY rfl rfl hY.len ?_
  repeat (first | refine T_nil0 ?_ | refine T_cmp rfl rfl rfl rfl ?_)
  refine E_cond_if rfl (fun hp => ?_) (fun hp => ?_)
  · repeat' (first | refine T_assign rfl rfl ?_ | refine T_nil0 ?_ | refine E_seq ?_ | refine E_region ?_ | refine E_ret1 rfl rfl ?_)
    exact ⟨rfl, Below.refl _ _⟩
  repeat (first | refine T_move rfl rfl ?_ | refine E_seq ?_ | refine E_region ?_ | refine E_skip ?_)
  refine T_call rfl rfl (DrawRollsWith_spec cv cs w hY hby) (fun r w1 hr => ?_)
  obtain ⟨x, u, ps, v, a, rfl, hO, hV, hdl, hpl, hB⟩ := hr
  repeat (first | refine T_move rfl rfl ?_ | refine T_extract rfl rfl rfl ?_)
  refine T_new (us := relC x u) zL sL rfl (fun _ => rfl) rfl rfl (relC_one hO.recs.rlen) (fun b3 w2 hn3 hx3 hb => ?_)
  have hI := (hO.later hb).recs
  have hJ := (hV.later hb).recs
  have hB := hB.step hB.size hb
  have hE := Below.refl w2.heap.size w2
  clear hO hV hb
  repeat (first | refine T_move rfl rfl ?_ | refine T_assign rfl rfl ?_ | refine T_nil0 ?_ | refine E_seq ?_ | refine E_region ?_ | refine T_loadBoxAB aL sL rfl rfl (by assumption) (by assumption) (by rfl) ?_)
  have hrl : (rollsF x ps a).length ≤ 60 := by
    unfold rollsF
    split
    · have := rollsN_length ps (x.ds.getD a.toNat dz) ps.length; omega
    · simp
  refine T_call rfl rfl (RollsWith_spec x u ps v a w2 hI hJ) (fun g w3 hr => ?_)
  obtain ⟨hg, hb⟩ := hr
  have hg := hg.ints
  have hB := hB.step hB.size hb
  have hE := hE.step hE.size hb
  have hI := hI.later hb
  have hJ := hJ.later hb
  clear hb
  repeat (first | refine T_move rfl rfl ?_ | refine T_assign rfl rfl ?_ | refine T_nil0 ?_ | refine E_seq ?_ | refine E_region ?_ | refine T_loadBoxAB aL sL rfl rfl (by assumption) (by assumption) (by rfl) ?_)
  refine T_call rfl rfl (sRollsWith_spec x u ps v a w3 hI hJ (by omega) (by omega)) (fun s w4 hr => ?_)
  obtain ⟨hs, hb⟩ := hr
  have hB := hB.step hB.size hb
  have hE := hE.step hE.size hb
  have hI := hI.later hb
  have hJ := hJ.later hb
  have hg := hg.later hb
  clear hb
  skip
  refine T_call rfl rfl (equalInts_spec g s _ _ w4 hg hs.ints (by omega)) (fun r w5 hr => ?_)
  obtain ⟨rfl, hb⟩ := hr
  have hB := hB.step hB.size hb
  have hE := hE.step hE.size hb
  have hI := hI.later hb
  have hJ := hJ.later hb
  have hg := hg.later hb
  clear hb hs
  repeat (first | refine T_move rfl rfl ?_ | refine T_not rfl rfl ?_)
  refine T_guard rfl rfl (fun h1 => ?_) (fun h1 => ?_)
  · exact absurd rfl h1
  repeat (first | refine T_move rfl rfl ?_ | refine T_on rfl rfl ?_ | refine T_loadBoxAB aL sL rfl rfl (by assumption) (by assumption) (by rfl) ?_)
  refine T_call rfl rfl (ValidCuts_spec x u ps v w5 hI hJ) (fun r w6 hr => ?_)
  obtain ⟨rfl, hb⟩ := hr
  have hB := hB.step hB.size hb
  have hE := hE.step hE.size hb
  have hI := hI.later hb
  have hJ := hJ.later hb
  have hg := hg.later hb
  clear hb
  repeat (first | refine T_move rfl rfl ?_ | refine T_on rfl rfl ?_ | refine T_pick_false rfl rfl rfl ?_ | refine T_not rfl rfl ?_)
  refine T_guard rfl rfl (fun h2 => ?_) (fun h2 => ?_)
  · repeat (first | refine T_move rfl rfl ?_ | refine T_nil0 ?_ | refine E_seq ?_ | refine E_region ?_ | refine T_off rfl rfl rfl ?_ | refine T_pick_true rfl rfl rfl ?_ | refine E_cond_true rfl ?_ | refine T_loadBoxAB aL sL rfl rfl (by assumption) (by assumption) (by rfl) ?_)
    refine T_call rfl rfl (sRollsWith_spec x u ps v a w6 hI hJ (by omega) (by omega)) (fun s w8 hr => ?_)
    obtain ⟨hs, hb⟩ := hr
    have hB := hB.step hB.size hb
    skip
    refine T_call rfl rfl (equalInts_spec g s _ _ w8 (hg.later hb) hs.ints (by omega)) (fun r w9 hr => ?_)
    obtain ⟨rfl, hb⟩ := hr
    repeat' (first | refine T_assign rfl rfl ?_ | refine T_nil0 ?_ | refine E_ret1 rfl rfl ?_)
    exact ⟨by simp, hB.step hB.size hb⟩
  have hk := Decidable.not_not.1 h2
  repeat (first | refine T_move rfl rfl ?_ | refine T_cmp rfl rfl rfl rfl ?_ | refine T_on rfl rfl ?_ | refine T_pick_false rfl rfl rfl ?_)
  refine T_guard rfl rfl (fun h3 => ?_) (fun h3 => ?_)
  · repeat (first | refine T_move rfl rfl ?_ | refine T_nil0 ?_ | refine E_seq ?_ | refine E_region ?_ | refine T_off rfl rfl rfl ?_ | refine T_pick_true rfl rfl rfl ?_ | refine E_cond_true rfl ?_ | refine T_loadBoxAB aL sL rfl rfl (by assumption) (by assumption) (by rfl) ?_)
    refine T_call rfl rfl (sRollsWith_spec x u ps v a w6 hI hJ (by omega) (by omega)) (fun s w8 hr => ?_)
    obtain ⟨hs, hb⟩ := hr
    have hB := hB.step hB.size hb
    skip
    refine T_call rfl rfl (equalInts_spec g s _ _ w8 (hg.later hb) hs.ints (by omega)) (fun r w9 hr => ?_)
    obtain ⟨rfl, hb⟩ := hr
    repeat' (first | refine T_assign rfl rfl ?_ | refine T_nil0 ?_ | refine E_ret1 rfl rfl ?_)
    exact ⟨by simp, hB.step hB.size hb⟩
  repeat (first | refine T_move rfl rfl ?_ | refine T_nil0 ?_ | refine T_cmp rfl rfl rfl rfl ?_ | refine T_on rfl rfl ?_ | refine T_pick_false rfl rfl rfl ?_ | refine T_fieldBoxF (fun _ _ => by kernel_rfl) rfl rfl ?_ | refine T_loadBoxB Try.isAgg3 rfl rfl (by assumption) (by assumption) (by rfl) ?_ | refine T_len tyD rfl rfl (Recs.rlen (r := recD) (by assumption)) ?_)
  refine E_cond_if rfl (fun h4 => ?_) (fun h4 => ?_)
  · repeat (first | refine T_move rfl rfl ?_ | refine E_seq ?_ | refine E_region ?_ | refine T_loadBoxAB aL sL rfl rfl (by assumption) (by assumption) (by rfl) ?_)
    refine T_call rfl rfl (sRollsWith_spec x u ps v a w6 hI hJ (by omega) (by omega)) (fun s w8 hr => ?_)
    obtain ⟨hs, hb⟩ := hr
    have hB := hB.step hB.size hb
    skip
    refine T_call rfl rfl (equalInts_spec g s _ _ w8 (hg.later hb) hs.ints (by omega)) (fun r w9 hr => ?_)
    obtain ⟨rfl, hb⟩ := hr
    repeat' (first | refine T_assign rfl rfl ?_ | refine T_nil0 ?_ | refine E_ret1 rfl rfl ?_)
    exact ⟨by simp, hB.step hB.size hb⟩
  obtain ⟨k, rfl⟩ : ∃ k : Nat, a = k := ⟨a.toNat, by omega⟩
  have hkl : k < x.ds.length := by omega
  have hF : rollsF x ps k = rollsN ps (x.ds.getD k dz) ps.length := by unfold rollsF; rw [if_pos ⟨hk, by omega, by omega⟩, Int.toNat_natCast]
  have hpl60 := hk.2.1
  have h66 := Below.refl w6.heap.size w6
  repeat (first | refine T_move rfl rfl ?_ | refine E_seq ?_ | refine E_region ?_ | refine E_skip ?_ | refine T_fieldBoxF (fun _ _ => by kernel_rfl) rfl rfl ?_ | refine T_loadBoxB Try.isAgg3 rfl rfl (by assumption) (by assumption) (by rfl) ?_ | refine T_indexD tyD rfl rfl rfl (by assumption) (by omega) ?_ | refine T_loadDA aD sD rfl rfl (by assumption) (by assumption) (by omega) ?_)
  refine T_new (us := recD.enc (x.ds.getD k dz)) zD sD rfl (fun _ => rfl) rfl rfl (recD.one _) (fun b7 w7 hn7 hx7 hb => ?_)
  have hB := hB.step hB.size hb
  have hE := hE.step hE.size hb
  have hI := hI.later hb
  have hJ := hJ.later hb
  have hg := hg.later hb
  clear hb
  have hx3 := hx3.later hE
  clear hE
  repeat (first | refine T_nil0 ?_ | refine E_seq ?_)
  refine E_cut (fun m' w' => ∃ b8 sv, Sub [(3, bPtr b3 0), (4, v), (6, g), (7, bPtr b7 0), (8, bPtr b8 0)] m' ∧ Box w'.heap b8 (relC ⟨x.w, x.n, less x.ds k⟩ sv) ∧ OwnR recD w' w7.heap.size 37 sv (less x.ds k) ∧ Below w7.heap.size w7 w') (fun join => ?_) ?_
  case refine_1 =>
    refine E_region_held 18 w7.drew follows (by kernel_rfl) ?_
    have hS : Below w7.heap.size w7 w7.drew := (Below.refl _ _).drew
    have hI7 := hI
    have hE8 := hS
    have hzd : w7.drew.heap.size = w7.heap.size := rfl
    generalize w7.drew = w8 at *
    refine X_run 0 4 (by kernel_rfl) (Below.refl _ _) ?_
    repeat (first | refine T_nil3 ?_ | refine T_fieldBoxF (fun _ _ => by kernel_rfl) rfl rfl ?_ | refine T_loadBoxB Try.isAgg3 rfl rfl (by assumption) (by assumption) (by rfl) ?_)
    refine X_run 5 4 (by kernel_rfl) (Below.refl _ _) ?_
    repeat (first | refine T_move rfl rfl ?_ | refine T_fieldBoxF (fun _ _ => by kernel_rfl) rfl rfl ?_ | refine T_loadBoxB Try.isAgg3 rfl rfl (by assumption) (by assumption) (by rfl) ?_)
    refine T_sliceHiR (r := recD) tyD rfl rfl rfl hI7 (by omega) ?_
    repeat (first | refine T_nil3 ?_)
    refine X_run 10 5 (by kernel_rfl) (Below.refl _ _) ?_
    repeat (first | refine T_move rfl rfl ?_ | refine T_add rfl rfl rfl (by omega) ?_ | refine T_fieldBoxF (fun _ _ => by kernel_rfl) rfl rfl ?_ | refine T_loadBoxB Try.isAgg3 rfl rfl (by assumption) (by assumption) (by rfl) ?_)
    refine T_sliceLoR (r := recD) (lo := k + 1) tyD rfl rfl rfl hI7 (by omega) (by omega) ?_
    repeat (first | refine T_nil3 ?_)
    have hI7 := hI7.later hE8
    have hS := Below.refl w8.heap.size w8
    refine X_two 4 17 (by kernel_rfl) ?_ ?_
    · skip
      refine T_lit0R (r := recD) tyD rfl (fun ov _ hO _ _ hb => ?_)
      have hS := hS.step hS.size hb
      have hzz := hS.size
      have hzb := hb.size
      have hO := hO.base (show w7.heap.size ≤ _ by omega)
      clear hb
      repeat (first | refine T_nil0 ?_)
      refine ⟨hS, ?_⟩
      refine X_two 9 17 (by kernel_rfl) ?_ ?_
      · skip
        have hTk := (hI7.later hS).cutHi (hi := k) (by omega)
        have hbo := hO.blk
        have hzz := hS.size
        refine T_appendR (r := recD) tyD rfl rfl rfl hO hTk (by omega) (by simp; omega) (by simp; omega) (fun ov _ hO hg hor => ?_)
        have hS := hS.own hg hbo (by omega) (by omega)
        rw [List.nil_append] at hO
        clear hg hor
        repeat (first | refine T_nil0 ?_)
        refine ⟨hS, ?_⟩
        refine X_two 15 17 (by kernel_rfl) ?_ ?_
        · skip
          have hDr := (hI7.later hS).cutLo (lo := k + 1) (by omega)
          have hbo := hO.blk
          have hzz := hS.size
          refine T_appendR (r := recD) tyD rfl rfl rfl hO hDr (by omega) (by simp; omega) (by simp; omega) (fun ov _ hO hg hor => ?_)
          have hS := hS.own hg hbo (by omega) (by omega)
          clear hg hor
          repeat (first | refine T_nil0 ?_)
          refine ⟨hS, ?_⟩
          refine X_run 16 1 (by kernel_rfl) hS ?_
          refine T_build rfl rfl (bL3 _ _ _ hO.recs.rlen) ?_
          repeat (first | refine T_nil3 ?_)
          refine X_one 17 (by kernel_rfl) ?_
          have hbo := hO.blk
          have hz17 := hS.size
          refine T_alloc zL rfl (fun b8 _ hn8 hx8 hb => ?_)
          have hS := hS.step hS.size hb
          have hO := hO.later hb
          have hne : ov.ownBlock ≠ some b8 := fun e => by have := hbo _ e; omega
          clear hb
          repeat (first | refine T_nil0 ?_)
          refine ⟨hS, ?_⟩
          refine X_tail (by kernel_rfl) ?_
          skip
          refine T_storeBoxA (us := relC ⟨x.w, x.n, []⟩ ov) sL rfl rfl rfl (relC_one hO.recs.rlen) hx8 rfl (fun _ hx8 hg _ => ?_)
          have hO := hO.kept hg (.inr hne)
          have hS := hS.grown hg (by have := hS.size; omega) (fun c hc => by simp at hc; omega)
          have hx8 : Box _ b8 (relC ⟨x.w, x.n, less x.ds k⟩ ov) := hx8
          repeat (first | refine join _ _ ?_ | refine T_nil0 ?_)
          exact ⟨b8, ov, ⟨rfl, rfl, rfl, rfl, rfl, trivial⟩, hx8, hO, hE8.step hE8.size hS⟩
        · skip
          have hbo := hO.blk
          have hz17 := hS.size
          refine T_alloc zL rfl (fun b8 _ hn8 hx8 hb => ?_)
          have hS := hS.step hS.size hb
          have hO := hO.later hb
          have hne : ov.ownBlock ≠ some b8 := fun e => by have := hbo _ e; omega
          clear hb
          repeat (first | refine T_nil0 ?_)
          refine ⟨hS, ?_⟩
          refine X_one 15 (by kernel_rfl) ?_
          have hDr := (hI7.later hS).cutLo (lo := k + 1) (by omega)
          have hbo := hO.blk
          have hzz := hS.size
          have hl8 := hx8.lt
          refine T_appendR (r := recD) tyD rfl rfl rfl hO hDr (by omega) (by simp; omega) (by simp; omega) (fun ov _ hO hg hor => ?_)
          have hS := hS.own hg hbo (by omega) (by omega)
          have hx8 := hx8.kept hg (fun e => hne e.symm)
          have hne : ov.ownBlock ≠ some b8 := by rcases hor with h | h; (rw [h]; exact hne); (rw [h]; intro e; simp at e; omega)
          clear hg hor
          repeat (first | refine T_nil0 ?_)
          refine ⟨hS, ?_⟩
          refine X_run 16 1 (by kernel_rfl) hS ?_
          refine T_build rfl rfl (bL3 _ _ _ hO.recs.rlen) ?_
          repeat (first | refine T_nil3 ?_)
          refine X_tail (by kernel_rfl) ?_
          skip
          refine T_storeBoxA (us := relC ⟨x.w, x.n, []⟩ ov) sL rfl rfl rfl (relC_one hO.recs.rlen) hx8 rfl (fun _ hx8 hg _ => ?_)
          have hO := hO.kept hg (.inr hne)
          have hS := hS.grown hg (by have := hS.size; omega) (fun c hc => by simp at hc; omega)
          have hx8 : Box _ b8 (relC ⟨x.w, x.n, less x.ds k⟩ ov) := hx8
          repeat (first | refine join _ _ ?_ | refine T_nil0 ?_)
          exact ⟨b8, ov, ⟨rfl, rfl, rfl, rfl, rfl, trivial⟩, hx8, hO, hE8.step hE8.size hS⟩
      · skip
        have hbo := hO.blk
        have hz17 := hS.size
        refine T_alloc zL rfl (fun b8 _ hn8 hx8 hb => ?_)
        have hS := hS.step hS.size hb
        have hO := hO.later hb
        have hne : ov.ownBlock ≠ some b8 := fun e => by have := hbo _ e; omega
        clear hb
        repeat (first | refine T_nil0 ?_)
        refine ⟨hS, ?_⟩
        refine X_one 9 (by kernel_rfl) ?_
        have hTk := (hI7.later hS).cutHi (hi := k) (by omega)
        have hbo := hO.blk
        have hzz := hS.size
        have hl8 := hx8.lt
        refine T_appendR (r := recD) tyD rfl rfl rfl hO hTk (by omega) (by simp; omega) (by simp; omega) (fun ov _ hO hg hor => ?_)
        have hS := hS.own hg hbo (by omega) (by omega)
        have hx8 := hx8.kept hg (fun e => hne e.symm)
        have hne : ov.ownBlock ≠ some b8 := by rcases hor with h | h; (rw [h]; exact hne); (rw [h]; intro e; simp at e; omega)
        rw [List.nil_append] at hO
        clear hg hor
        repeat (first | refine T_nil0 ?_)
        refine ⟨hS, ?_⟩
        refine X_one 15 (by kernel_rfl) ?_
        have hDr := (hI7.later hS).cutLo (lo := k + 1) (by omega)
        have hbo := hO.blk
        have hzz := hS.size
        have hl8 := hx8.lt
        refine T_appendR (r := recD) tyD rfl rfl rfl hO hDr (by omega) (by simp; omega) (by simp; omega) (fun ov _ hO hg hor => ?_)
        have hS := hS.own hg hbo (by omega) (by omega)
        have hx8 := hx8.kept hg (fun e => hne e.symm)
        have hne : ov.ownBlock ≠ some b8 := by rcases hor with h | h; (rw [h]; exact hne); (rw [h]; intro e; simp at e; omega)
        clear hg hor
        repeat (first | refine T_nil0 ?_)
        refine ⟨hS, ?_⟩
        refine X_run 16 1 (by kernel_rfl) hS ?_
        refine T_build rfl rfl (bL3 _ _ _ hO.recs.rlen) ?_
        repeat (first | refine T_nil3 ?_)
        refine X_tail (by kernel_rfl) ?_
        skip
        refine T_storeBoxA (us := relC ⟨x.w, x.n, []⟩ ov) sL rfl rfl rfl (relC_one hO.recs.rlen) hx8 rfl (fun _ hx8 hg _ => ?_)
        have hO := hO.kept hg (.inr hne)
        have hS := hS.grown hg (by have := hS.size; omega) (fun c hc => by simp at hc; omega)
        have hx8 : Box _ b8 (relC ⟨x.w, x.n, less x.ds k⟩ ov) := hx8
        repeat (first | refine join _ _ ?_ | refine T_nil0 ?_)
        exact ⟨b8, ov, ⟨rfl, rfl, rfl, rfl, rfl, trivial⟩, hx8, hO, hE8.step hE8.size hS⟩
    · skip
      have hz17 := hS.size
      refine T_alloc zL rfl (fun b8 _ hn8 hx8 hb => ?_)
      have hS := hS.step hS.size hb
      clear hb
      repeat (first | refine T_nil0 ?_)
      refine ⟨hS, ?_⟩
      refine X_one 4 (by kernel_rfl) ?_
      refine T_lit0R (r := recD) tyD rfl (fun ov _ hO _ _ hb => ?_)
      have hS := hS.step hS.size hb
      have hzz := hS.size
      have hzb := hb.size
      have hl8 := hx8.lt
      have hx8 := hx8.later hb
      have hne : ov.ownBlock ≠ some b8 := fun e => by have := hO.blk _ e; omega
      have hO := hO.base (show w7.heap.size ≤ _ by omega)
      clear hb
      repeat (first | refine T_nil0 ?_)
      refine ⟨hS, ?_⟩
      refine X_one 9 (by kernel_rfl) ?_
      have hTk := (hI7.later hS).cutHi (hi := k) (by omega)
      have hbo := hO.blk
      have hzz := hS.size
      have hl8 := hx8.lt
      refine T_appendR (r := recD) tyD rfl rfl rfl hO hTk (by omega) (by simp; omega) (by simp; omega) (fun ov _ hO hg hor => ?_)
      have hS := hS.own hg hbo (by omega) (by omega)
      have hx8 := hx8.kept hg (fun e => hne e.symm)
      have hne : ov.ownBlock ≠ some b8 := by rcases hor with h | h; (rw [h]; exact hne); (rw [h]; intro e; simp at e; omega)
      rw [List.nil_append] at hO
      clear hg hor
      repeat (first | refine T_nil0 ?_)
      refine ⟨hS, ?_⟩
      refine X_one 15 (by kernel_rfl) ?_
      have hDr := (hI7.later hS).cutLo (lo := k + 1) (by omega)
      have hbo := hO.blk
      have hzz := hS.size
      have hl8 := hx8.lt
      refine T_appendR (r := recD) tyD rfl rfl rfl hO hDr (by omega) (by simp; omega) (by simp; omega) (fun ov _ hO hg hor => ?_)
      have hS := hS.own hg hbo (by omega) (by omega)
      have hx8 := hx8.kept hg (fun e => hne e.symm)
      have hne : ov.ownBlock ≠ some b8 := by rcases hor with h | h; (rw [h]; exact hne); (rw [h]; intro e; simp at e; omega)
      clear hg hor
      repeat (first | refine T_nil0 ?_)
      refine ⟨hS, ?_⟩
      refine X_run 16 1 (by kernel_rfl) hS ?_
      refine T_build rfl rfl (bL3 _ _ _ hO.recs.rlen) ?_
      repeat (first | refine T_nil3 ?_)
      refine X_tail (by kernel_rfl) ?_
      skip
      refine T_storeBoxA (us := relC ⟨x.w, x.n, []⟩ ov) sL rfl rfl rfl (relC_one hO.recs.rlen) hx8 rfl (fun _ hx8 hg _ => ?_)
      have hO := hO.kept hg (.inr hne)
      have hS := hS.grown hg (by have := hS.size; omega) (fun c hc => by simp at hc; omega)
      have hx8 : Box _ b8 (relC ⟨x.w, x.n, less x.ds k⟩ ov) := hx8
      repeat (first | refine join _ _ ?_ | refine T_nil0 ?_)
      exact ⟨b8, ov, ⟨rfl, rfl, rfl, rfl, rfl, trivial⟩, hx8, hO, hE8.step hE8.size hS⟩
  rintro m' w9 ⟨b8, sv, hsub, hx8, hsv, hE⟩
  refine E.weaken hsub ?_
  have hB := hB.step hB.size hE
  have hI := hI.later hE
  have hJ := hJ.later hE
  have hg := hg.later hE
  have hx3 := hx3.later hE
  have hx7 := hx7.later hE
  have hK := hsv.recs
  have hC := Below.refl w9.heap.size w9
  have hokl := okR_less hk.1 k
  have hWL := fun p => worst_less hkl p
  have hmem : ∀ j : Nat, j < ps.length → ((j : Int) ∈ rollsF x ps k ↔ meetD (x.ds.getD k dz) (ps.getD j pz)) := fun j hj => by
    rw [hF, mem_rollsN, Int.toNat_natCast]
    exact ⟨fun h => h.2.2, fun h => ⟨by omega, by omega, h⟩⟩
  have hasc : ascU (rollsF x ps k) := by rw [hF]; exact rollsN_asc _ _ _
  clear hF hsub hsv hE
  generalize rollsF x ps k = RL at *
  generalize x.ds.getD k dz = d at *
  repeat (first | refine T_assign rfl rfl ?_ | refine T_nil0 ?_ | refine E_seq ?_ | refine E_region ?_)
  refine E_loop (σ := Nat) (fun i => [(3, bPtr b3 0), (4, v), (6, g), (7, bPtr b7 0), (8, bPtr b8 0), (9, .int .i64 (i : Int))])
    (fun i w' => i ≤ ps.length ∧ Below w9.heap.size w9 w') (fun i => ps.length - i) 0
    ⟨by omega, hC⟩ ⟨rfl, rfl, rfl, rfl, rfl, rfl, trivial⟩ ?_
  clear hC
  rintro i w10 ⟨hi, hC⟩ IH
  repeat (first | refine T_move rfl rfl ?_ | refine T_nil0 ?_ | refine E_seq ?_ | refine E_region ?_ | refine T_cmp rfl rfl rfl rfl ?_ | refine T_len tyT rfl rfl (Recs.rlen (r := recT) (by assumption)) ?_)
  refine E_cond_if rfl (fun hp1 => ?_) (fun hp1 => ?_)
  case refine_2 =>
    repeat (first | refine T_move rfl rfl ?_ | refine E_seq ?_ | refine E_region ?_ | refine E_exit rfl ?_)
    refine T_call rfl rfl (lascends_spec g RL w10 (hg.later hC) (by omega)) (fun r w11 hr => ?_)
    obtain ⟨rfl, hb⟩ := hr
    repeat' (first | refine T_assign rfl rfl ?_ | refine T_nil0 ?_ | refine E_ret1 rfl rfl ?_)
    exact ⟨vb_t hasc ▸ rfl, (hB.step hB.size hC).step (by have := hB.size; have := hC.size; omega) hb⟩
  have hil : i < ps.length := by omega
  have hpt := hk.at hil
  have hmi := hmem i hil
  have hwl := hWL (ps.getD i pz)
  have eA : worstF x (ps.getD i pz) = worstL x.ds (ps.getD i pz) := by unfold worstF; rw [if_pos ⟨hk.1, hpt⟩]
  have eB : worstF ⟨x.w, x.n, less x.ds k⟩ (ps.getD i pz) = worstL (less x.ds k) (ps.getD i pz) := by unfold worstF; rw [if_pos ⟨hokl, hpt⟩]
  repeat (first | refine E_seq ?_ | refine E_skip ?_ | refine E_blockS ?_)
  refine E_region_quiet follows (by kernel_rfl) ?_
  repeat (first | refine T_move rfl rfl ?_ | refine T_loadBoxAB aL sL rfl rfl (by assumption) (by assumption) (by rfl) ?_ | refine T_indexT tyT rfl rfl rfl (by assumption) (by omega) ?_ | refine T_loadTA aT sT rfl rfl (by assumption) (by assumption) (by omega) ?_)
  refine T_callQ rfl rfl (fun w99 hb99 => WorstOf_spec x u (ps.getD i pz) w99 (hI.later (hC.step hC.size hb99))) ?_
  repeat (first | refine T_assign rfl rfl ?_)
  refine T_nil2 (fun w11 hb => ?_)
  have hC := hC.step hC.size hb
  clear hb
  repeat (first | refine E_seq ?_)
  refine E_region_quiet follows (by kernel_rfl) ?_
  repeat (first | refine T_move rfl rfl ?_ | refine T_loadBoxAB aL sL rfl rfl (by assumption) (by assumption) (by rfl) ?_ | refine T_indexT tyT rfl rfl rfl (by assumption) (by omega) ?_ | refine T_loadTA aT sT rfl rfl (by assumption) (by assumption) (by omega) ?_)
  refine T_callQ rfl rfl (fun w99 hb99 => WorstOf_spec ⟨x.w, x.n, less x.ds k⟩ sv (ps.getD i pz) w99 (hK.later (hC.step hC.size hb99))) ?_
  repeat (first | refine T_assign rfl rfl ?_)
  refine T_nil2 (fun w12 hb => ?_)
  have hC := hC.step hC.size hb
  clear hb
  generalize worstF x (ps.getD i pz) = A at *
  generalize worstF ⟨x.w, x.n, less x.ds k⟩ (ps.getD i pz) = B at *
  repeat (first | refine T_move rfl rfl ?_ | refine E_seq ?_ | refine E_region ?_)
  refine T_call rfl rfl (lisIn_spec g RL i w12 (hg.later hC) (by omega)) (fun r w13 hr => ?_)
  obtain ⟨rfl, rfl⟩ := hr
  repeat (first | refine T_move rfl rfl ?_)
  refine T_guard rfl rfl (fun h5 => ?_) (fun h5 => ?_)
  · rw [if_pos (hmi.1 h5)] at hwl
    repeat (first | refine T_move rfl rfl ?_ | refine T_cmp rfl rfl rfl rfl ?_ | refine T_on rfl rfl ?_ | refine T_pick_true rfl rfl rfl ?_ | refine T_max rfl rfl rfl ?_ | refine T_fieldBoxF (fun _ _ => by kernel_rfl) rfl rfl ?_ | refine T_loadBoxB Try.isAgg3 rfl rfl (by assumption) (by assumption) (by rfl) ?_)
    rw [decide_eq_false (show ¬ A ≠ max B d.g by rw [eA, eB, hwl]; exact fun h => h rfl)]
    repeat (first | refine T_move rfl rfl ?_ | refine T_on rfl rfl ?_)
    refine T_call rfl rfl (lisIn_spec g RL i w12 (hg.later hC) (by omega)) (fun r w13 hr => ?_)
    obtain ⟨rfl, rfl⟩ := hr
    repeat (first | refine T_move rfl rfl ?_ | refine T_on rfl rfl ?_ | refine T_not rfl rfl ?_)
    refine T_guard rfl rfl (fun h6 => absurd h5 h6) (fun h6 => ?_)
    repeat (first | refine T_move rfl rfl ?_ | refine T_assign rfl rfl ?_ | refine T_nil0 ?_ | refine E_region ?_ | refine T_on rfl rfl ?_ | refine T_off rfl rfl rfl ?_ | refine T_add rfl rfl rfl (by omega) ?_ | refine T_pick_false rfl rfl rfl ?_ | refine E_cond_false rfl ?_ | refine E_skip ?_ | refine E_inBlock ?_)
    exact IH (i + 1) w12 _ ⟨by omega, hC⟩ (by omega) ⟨rfl, rfl, rfl, rfl, rfl, rfl, trivial⟩
  · rw [if_neg (fun h => h5 (hmi.2 h))] at hwl
    repeat (first | refine T_move rfl rfl ?_ | refine T_on rfl rfl ?_ | refine T_off rfl rfl rfl ?_ | refine T_pick_false rfl rfl rfl ?_)
    refine T_call rfl rfl (lisIn_spec g RL i w12 (hg.later hC) (by omega)) (fun r w13 hr => ?_)
    obtain ⟨rfl, rfl⟩ := hr
    repeat (first | refine T_move rfl rfl ?_ | refine T_on rfl rfl ?_ | refine T_not rfl rfl ?_)
    refine T_guard rfl rfl (fun h6 => ?_) (fun h6 => absurd h5 h6)
    repeat (first | refine T_move rfl rfl ?_ | refine T_nil0 ?_ | refine T_cmp rfl rfl rfl rfl ?_ | refine T_on rfl rfl ?_ | refine T_pick_true rfl rfl rfl ?_ | refine T_pick_false rfl rfl rfl ?_)
    rw [decide_eq_false (show ¬ A ≠ B by rw [eA, eB, hwl]; exact fun h => h rfl)]
    repeat (first | refine T_move rfl rfl ?_ | refine T_assign rfl rfl ?_ | refine T_nil0 ?_ | refine E_region ?_ | refine T_add rfl rfl rfl (by omega) ?_ | refine E_cond_false rfl ?_ | refine E_skip ?_ | refine E_inBlock ?_)
    exact IH (i + 1) w12 _ ⟨by omega, hC⟩ (by omega) ⟨rfl, rfl, rfl, rfl, rfl, rfl, trivial⟩
end Go.Proofs.Ytnecmchcemnopaa
