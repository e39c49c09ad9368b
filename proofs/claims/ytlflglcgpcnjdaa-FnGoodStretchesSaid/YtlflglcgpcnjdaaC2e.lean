/-
  Contracts: good stretches, the longest one, the best lanes, of both sides. Conditions: the arguments lie in memory as the contract says.
-/
import Derived.Test.YtlflglcgpcnjdaaC2d
import Derived.Test.YtlflglcgpcnjdaaC2b
namespace Go.Proofs.Ytlflglcgpcnjdaa
open Go Go.PR Go.RowKit attribute [local irreducible] T E Ints Sl Bools OwnI OwnB OwnR Recs Box Ret

theorem set_last {α : Type} (xs : List α) (a b : α) : (xs ++ [a]).set xs.length b = xs ++ [b] := by
  rw [List.set_append_right _ _ (Nat.le_refl _), Nat.sub_self]; rfl

theorem lanesOf_spec (x : Rel) (v : Value) (l r : Int) (w : World) (hI : Recs recD w.heap v x.ds) :
    Ret Try.prog 37 #[relV x v, .int .i64 l, .int .i64 r] w (fun q w' => q = .bool (decide (okL x l r)) ∧ Below w.heap.size w w') := by
  refine Ret_of (args := [_, _, _]) Try.call37 Try.func37 rfl _ Try.ntmps37 rfl ?_
  repeat (first | refine E_seq ?_ | refine E_region ?_)
  refine T_box (cs := relC x v) rfl rfl (fun b1 w1 hn1 hx1 hB => ?_)
  have hI := hI.later hB
  have hC := Below.refl w1.heap.size w1
  repeat (first | refine T_assign rfl rfl ?_ | refine T_nil0 ?_ | refine E_seq ?_ | refine E_region ?_ | refine T_loadBoxAB aL sL rfl rfl (by assumption) (by assumption) (by rfl) ?_)
  refine T_call rfl rfl (ValidReel_spec x v w1 hI) (fun r w2 hr => ?_)
  obtain ⟨rfl, hb⟩ := hr
  have hC := hC.step hC.size hb
  have hB := hB.step hB.size hb
  repeat (first | refine T_move rfl rfl ?_)
  refine T_guard rfl rfl (fun h1 => ?_) (fun h1 => ?_)
  case refine_2 =>
    repeat' (first | refine T_move rfl rfl ?_ | refine T_assign rfl rfl ?_ | refine T_nil0 ?_ | refine T_off rfl rfl rfl ?_ | refine T_pick_false rfl rfl rfl ?_ | refine E_ret1 rfl rfl ?_)
    exact ⟨vb_f (fun h => h1 h.1), hB⟩
  repeat' (first | refine T_move rfl rfl ?_ | refine T_assign rfl rfl ?_ | refine T_nil0 ?_ | refine T_cmp rfl rfl rfl rfl ?_ | refine T_on rfl rfl ?_ | refine T_off rfl rfl rfl ?_ | refine T_pick_true rfl rfl rfl ?_ | refine T_pick_false rfl rfl rfl ?_ | refine T_fieldBoxF (fun _ _ => by kernel_rfl) rfl rfl ?_ | refine T_loadBoxB Try.isAgg3 rfl rfl (by assumption) (by assumption) (by rfl) ?_ | refine T_guard rfl rfl (fun hp => ?_) (fun hp => ?_) | refine E_ret1 rfl rfl ?_)
  all_goals (first | exact ⟨vb_iff ⟨fun h => ⟨h1, by omega⟩, fun h => by have := h.2; omega⟩, hB⟩ | exact ⟨vb_f (fun h => by have := h.2; omega), hB⟩)

set_option maxHeartbeats 1000000 in
theorem GoodStretches_spec (x : Rel) (v : Value) (l r most : Int) (w : World) (hI : Recs recD w.heap v x.ds) :
    Ret Try.prog 14 #[relV x v, .int .i64 l, .int .i64 r, .int .i64 most] w (fun q w' => OwnR recS w' w.heap.size 32 q (strF x l r most) ∧ Below w.heap.size w w') := by
  refine Ret_of (args := [_, _, _, _]) Try.call14 Try.func14 rfl _ Try.ntmps14 rfl ?_
  repeat (first | refine E_seq ?_ | refine E_region ?_)
  refine T_box (cs := relC x v) rfl rfl (fun b1 w1 hn1 hx1 hB => ?_)
  have hI := hI.later hB
  have hz1 := hB.size
  have hC := Below.refl w1.heap.size w1
  repeat (first | refine T_move rfl rfl ?_ | refine T_assign rfl rfl ?_ | refine T_nil0 ?_ | refine E_seq ?_ | refine E_region ?_ | refine T_loadBoxAB aL sL rfl rfl (by assumption) (by assumption) (by rfl) ?_)
  refine T_call rfl rfl (lanesOf_spec x v l r w1 hI) (fun q w2 hr => ?_)
  obtain ⟨rfl, hb⟩ := hr
  have hC := hC.step hC.size hb
  repeat (first | refine T_nil0 ?_ | refine T_not rfl rfl ?_)
  refine E_cond_if rfl (fun h1 => ?_) (fun h1 => ?_)
  · repeat' (first | refine T_assign rfl rfl ?_ | refine T_nil0 ?_ | refine E_seq ?_ | refine E_region ?_ | refine E_ret1 rfl rfl ?_)
    exact ⟨by unfold strF; rw [if_neg h1]; exact OwnR.nil _ _ _ _, hB.step hB.size hC⟩
  have hok := Decidable.not_not.1 h1
  have hF : strF x l r most = strL (badL x.ds l r most x.n) := by unfold strF; rw [if_pos hok]
  have hn := hok.1.2.1
  rw [hF]
  repeat (first | refine T_move rfl rfl ?_ | refine T_assign rfl rfl ?_ | refine T_nil0 ?_ | refine E_seq ?_ | refine E_region ?_ | refine E_skip ?_ | refine T_loadBoxAB aL sL rfl rfl (by assumption) (by assumption) (by rfl) ?_)
  refine T_call rfl rfl (badPlaces_spec x v l r most w2 (hI.later hC) hok.1) (fun bv w3 hr => ?_)
  obtain ⟨hO, hb⟩ := hr
  have hC := hC.step hC.size hb
  have hBo := hO.bools
  have hll := badL_length x.ds l r most x.n
  generalize badL x.ds l r most x.n = L at *
  clear hO
  have hS0 : OwnR recS w3 w1.heap.size 32 (.slice none 0 0) (clN L 0).1 := OwnR.nil _ _ _ _
  have h33 := Below.refl w3.heap.size w3
  have hz3 := hC.size
  repeat (first | refine T_move rfl rfl ?_ | refine T_nil0 ?_ | refine T_len tyBo rfl rfl (Bools.len (by assumption)) ?_)
  refine E_loop (σ := Nat × Value) (fun ⟨k, ov⟩ => [(4, bPtr b1 0), (9, ov), (10, .int .i64 ((clN L k).2 : Int)), (22, bv), (23, .int .i64 L.length), (24, .int .i64 k)])
    (fun ⟨k, ov⟩ w' => k ≤ L.length ∧ OwnR recS w' w3.heap.size 32 ov (clN L k).1 ∧ Below w1.heap.size w1 w' ∧ Below w3.heap.size w3 w') (fun ⟨k, _⟩ => L.length - k) (0, .slice none 0 0)
    ⟨by omega, OwnR.nil _ _ _ _, hC, h33⟩ ⟨rfl, rfl, rfl, rfl, rfl, rfl, trivial⟩ ?_
  clear hC h33 hS0
  rintro ⟨k, ov⟩ w4 ⟨hk, hO, hC, h34⟩ IH
  have hBo4 := hBo.later h34
  have hfr := clN_fr L k
  have hol := opN_length L k
  have hz4 := h34.size
  have hopn : opN L k = (clN L k).1 ++ if (clN L k).2 < k then [⟨(clN L k).2, k⟩] else [] := rfl
  have hcl : (clN L k).1.length ≤ k := by rw [hopn] at hol; simp at hol; omega
  repeat (first | refine T_nil0 ?_ | refine E_seq ?_ | refine E_region ?_ | refine T_cmp rfl rfl rfl rfl ?_)
  refine E_cond_if rfl (fun hp => ?_) (fun hp => ?_)
  case refine_2 =>
    have e : k = L.length := by omega
    have hst : strL L = opN L k := by unfold strL; rw [e]
    have hnn : (k : Int) = x.n := by omega
    repeat (first | refine T_move rfl rfl ?_ | refine T_nil0 ?_ | refine E_seq ?_ | refine E_region ?_ | refine T_cmp rfl rfl rfl rfl ?_ | refine E_exit rfl ?_ | refine T_fieldBoxF (fun _ _ => by kernel_rfl) rfl rfl ?_ | refine T_loadBoxB Try.isAgg3 rfl rfl (by assumption) (by assumption) (by rfl) ?_)
    refine E_cond_if rfl (fun h2 => ?_) (fun h2 => ?_)
    · rw [if_pos (by omega)] at hopn
      repeat (first | refine T_move rfl rfl ?_ | refine E_region ?_ | refine T_fieldBoxF (fun _ _ => by kernel_rfl) rfl rfl ?_ | refine T_loadBoxB Try.isAgg3 rfl rfl (by assumption) (by assumption) (by rfl) ?_)
      refine T_build rfl rfl (bSt _ _) ?_
      refine T_lit1 (r := recS) tySt rfl rfl rfl (fun lv w5 hL _ _ hb => ?_)
      have hO := hO.later hb
      have hC := hC.step hC.size hb
      have hz5 := hb.size
      refine T_appendR (r := recS) tySt rfl rfl rfl hO hL.recs (by omega) (by simp; omega) (by simp; omega) (fun ov' w6 hO6 hg _ => ?_)
      have hC := hC.own hg hO.blk (by omega) hC.size
      rw [← hnn, ← hopn, ← hst] at hO6
      repeat' (first | refine T_move rfl rfl ?_ | refine T_assign rfl rfl ?_ | refine T_nil0 ?_ | refine E_seq ?_ | refine E_region ?_ | refine E_ret1 rfl rfl ?_)
      exact ⟨hO6.base (by omega), hB.step hB.size hC⟩
    · rw [if_neg (by omega), List.append_nil] at hopn
      rw [← hopn, ← hst] at hO
      repeat' (first | refine T_move rfl rfl ?_ | refine T_assign rfl rfl ?_ | refine T_nil0 ?_ | refine E_seq ?_ | refine E_region ?_ | refine E_skip ?_ | refine E_ret1 rfl rfl ?_)
      exact ⟨hO.base (by omega), hB.step hB.size hC⟩
  have hkl : k < L.length := by omega
  repeat (first | refine T_move rfl rfl ?_ | refine T_assign rfl rfl ?_ | refine T_nil0 ?_ | refine E_seq ?_ | refine E_region ?_ | refine E_skip ?_ | refine E_blockS ?_ | refine T_notB rfl rfl ?_ | refine T_indexBN tyBo rfl rfl rfl (by assumption) (by omega) ?_ | refine T_loadB Try.isAgg4 rfl rfl (by assumption) (by omega) ?_)
  refine E_cond_bool rfl (fun h2 => ?_) (fun h2 => ?_)
  · have hg := clN_good (b := L) (k := k) (by simpa using h2)
    repeat (first | refine T_move rfl rfl ?_ | refine T_nil0 ?_ | refine E_region ?_ | refine T_add rfl rfl rfl (by omega) ?_ | refine E_exit rfl ?_)
    exact IH (k + 1, ov) w4 _ ⟨by omega, by rw [hg]; exact hO, hC, h34⟩ (by show L.length - (k + 1) < L.length - k; omega) ⟨rfl, rfl, slotI rfl (by rw [hg]), rfl, rfl, rfl, trivial⟩
  have hg := clN_bad (b := L) (k := k) (by simpa using h2)
  repeat (first | refine T_move rfl rfl ?_ | refine T_nil0 ?_ | refine E_seq ?_ | refine E_region ?_ | refine T_cmp rfl rfl rfl rfl ?_ | refine E_skip ?_)
  refine E_cond_if rfl (fun h3 => ?_) (fun h3 => ?_)
  · rw [if_pos (by omega)] at hopn
    repeat (first | refine T_move rfl rfl ?_ | refine E_region ?_)
    refine T_build rfl rfl (bSt _ _) ?_
    refine T_lit1 (r := recS) tySt rfl rfl rfl (fun lv w5 hL _ _ hb => ?_)
    have hO := hO.later hb
    have hC := hC.step hC.size hb
    have h34 := h34.step h34.size hb
    have hz5 := hb.size
    refine T_appendR (r := recS) tySt rfl rfl rfl hO hL.recs (by omega) (by simp; omega) (by simp; omega) (fun ov' w6 hO6 hgr _ => ?_)
    have hC := hC.own hgr hO.blk (by omega) hC.size
    have h34 := h34.own hgr hO.blk (by omega) h34.size
    rw [← hopn] at hO6
    repeat (first | refine T_move rfl rfl ?_ | refine T_assign rfl rfl ?_ | refine T_nil0 ?_ | refine E_region ?_ | refine T_add rfl rfl rfl (by omega) ?_ | refine E_inBlock ?_)
    exact IH (k + 1, ov') w6 _ ⟨by omega, by rw [hg]; exact hO6, hC, h34⟩ (by show L.length - (k + 1) < L.length - k; omega) ⟨rfl, rfl, slotI rfl (by rw [hg]; simp), rfl, rfl, rfl, trivial⟩
  · rw [if_neg (by omega), List.append_nil] at hopn
    rw [← hopn] at hO
    repeat (first | refine T_move rfl rfl ?_ | refine T_assign rfl rfl ?_ | refine T_nil0 ?_ | refine E_region ?_ | refine T_add rfl rfl rfl (by omega) ?_ | refine E_skip ?_ | refine E_inBlock ?_)
    exact IH (k + 1, ov) w4 _ ⟨by omega, by rw [hg]; exact hO, hC, h34⟩ (by show L.length - (k + 1) < L.length - k; omega) ⟨rfl, rfl, slotI rfl (by rw [hg]; simp), rfl, rfl, rfl, trivial⟩

set_option maxHeartbeats 1000000 in
theorem stretches_spec (bv : Value) (L : List Bool) (w : World) (hBo : Bools w.heap bv L) (hl : L.length ≤ 1000) :
    Ret Try.prog 44 #[bv] w (fun q w' => OwnR recS w' w.heap.size 32 q (strL L) ∧ Below w.heap.size w w') := by
  refine Ret_of (args := [_]) Try.call44 Try.func44 rfl _ Try.ntmps44 rfl ?_
  repeat (first | refine T_assign rfl rfl ?_ | refine T_nil0 ?_ | refine E_seq ?_ | refine E_region ?_)
  refine T_lit0R (r := recS) tySt rfl (fun ov w1 hO _ _ hB => ?_)
  repeat (first | refine T_assign rfl rfl ?_ | refine T_nil0 ?_ | refine E_seq ?_ | refine E_region ?_)
  refine E_loop (σ := Nat × Value) (fun ⟨k, ov⟩ => [(0, bv), (3, ov), (4, .int .i64 k)])
    (fun ⟨k, ov⟩ w' => k ≤ L.length ∧ OwnR recS w' w.heap.size 32 ov (opN L k) ∧ Below w.heap.size w w') (fun ⟨k, _⟩ => L.length - k) (0, ov)
    ⟨by omega, hO, hB⟩ ⟨rfl, rfl, rfl, trivial⟩ ?_
  clear hO hB
  rintro ⟨k, ov⟩ w2 ⟨hk, hO, hB⟩ IH
  have hBo2 := hBo.later hB
  have hol := opN_length L k
  repeat (first | refine T_move rfl rfl ?_ | refine T_nil0 ?_ | refine E_seq ?_ | refine E_region ?_ | refine T_cmp rfl rfl rfl rfl ?_ | refine T_len tyBo rfl rfl (Bools.len (by assumption)) ?_)
  refine E_cond_if rfl (fun hp => ?_) (fun hp => ?_)
  case refine_2 =>
    have e : k = L.length := by omega
    subst e
    repeat' (first | refine T_move rfl rfl ?_ | refine T_assign rfl rfl ?_ | refine T_nil0 ?_ | refine E_seq ?_ | refine E_region ?_ | refine E_exit rfl ?_ | refine E_ret1 rfl rfl ?_)
    exact ⟨hO, hB⟩
  have hkl : k < L.length := by omega
  repeat (first | refine T_move rfl rfl ?_ | refine T_nil0 ?_ | refine E_seq ?_ | refine E_region ?_ | refine E_skip ?_ | refine E_blockS ?_ | refine T_indexBN tyBo rfl rfl rfl (by assumption) (by omega) ?_ | refine T_loadB Try.isAgg4 rfl rfl (by assumption) (by omega) ?_)
  refine E_cond_bool rfl (fun h1 => ?_) (fun h1 => ?_)
  · have hg := opN_bad h1
    repeat (first | refine T_move rfl rfl ?_ | refine T_assign rfl rfl ?_ | refine T_nil0 ?_ | refine E_region ?_ | refine T_add rfl rfl rfl (by omega) ?_ | refine E_exit rfl ?_)
    exact IH (k + 1, ov) w2 _ ⟨by omega, by rw [hg]; exact hO, hB⟩ (by show L.length - (k + 1) < L.length - k; omega) ⟨rfl, rfl, rfl, trivial⟩
  have more : ∀ (xs : List Str) (fr : Int), opN L k = xs ++ [⟨fr, (k : Int)⟩] → opN L (k + 1) = xs ++ [⟨fr, ((k + 1 : Nat) : Int)⟩] → ∀ s, s ∈ xs → True := fun _ _ _ _ _ _ => trivial
  have new : (k = 0 ∨ L.getD (k - 1) false = true) → opN L (k + 1) = opN L k ++ [⟨k, (k + 1 : Nat)⟩] := fun h => opN_new h1 h
  have old := fun h => opN_more (b := L) (k := k) h1 h
  have e1 : ((k : Int) - 1).toNat = k - 1 := by omega
  have tl : ∀ (ys : List Str) (f : Int) (s : Int), (ys ++ [(⟨f, s⟩ : Str)]).getD (((ys ++ [(⟨f, s⟩ : Str)]).length : Int) - 1).toNat recS.zero = ⟨f, s⟩ := fun ys f s => by
    rw [show ((((ys ++ [(⟨f, s⟩ : Str)]).length : Nat) : Int) - 1).toNat = ys.length by simp, List.getD_eq_getElem?_getD, List.getElem?_append_right (Nat.le_refl _), Nat.sub_self]; rfl
  have ts : ∀ (ys : List Str) (f s t : Int), (ys ++ [(⟨f, s⟩ : Str)]).set (((ys ++ [(⟨f, s⟩ : Str)]).length : Int) - 1).toNat ⟨f, t⟩ = ys ++ [⟨f, t⟩] := fun ys f s t => by
    rw [show ((((ys ++ [(⟨f, s⟩ : Str)]).length : Nat) : Int) - 1).toNat = ys.length by simp, set_last]
  refine E_skip ?_
  refine E_seq ?_
  refine E_cut (fun m' w' => ∃ (ov : Value) (ys : List Str) (f s : Int), Sub [(0, bv), (3, ov), (4, .int .i64 k)] m' ∧ OwnR recS w' w.heap.size 32 ov (ys ++ [⟨f, s⟩]) ∧ Below w.heap.size w w' ∧ opN L (k + 1) = ys ++ [⟨f, ((k + 1 : Nat) : Int)⟩] ∧ ys.length ≤ k) (fun join => ?_) ?_
  case refine_2 =>
    rintro m' w3 ⟨ov, ys, f, s, hsub, hO, hB, he, hyl⟩
    refine E.weaken hsub ?_
    have hR := hO.recs
    have hyl2 : (ys ++ [(⟨f, s⟩ : Str)]).length = ys.length + 1 := by simp
    repeat (first | refine T_move rfl rfl ?_ | refine E_region ?_ | refine T_add rfl rfl rfl (by omega) ?_ | refine T_sub rfl rfl rfl (by omega) ?_ | refine T_len tySt rfl rfl (Recs.rlen (r := recS) (by assumption)) ?_ | refine T_indexStI tySt rfl rfl rfl (by assumption) (by omega) ?_ | refine T_fieldSt (fun _ _ => by kernel_rfl) rfl rfl (by assumption) (by omega) ?_)
    refine T_storeR (r := recS) (a' := ⟨f, (k : Int) + 1⟩) Try.sizeOf3 rfl rfl rfl hO (by omega) (by decide) (by rw [tl]; rfl) (fun w4 hO4 hg4 _ => ?_)
    rw [ts] at hO4
    have hB := hB.own hg4 hO.blk (Nat.le_refl _) hB.size
    repeat (first | refine T_move rfl rfl ?_ | refine T_assign rfl rfl ?_ | refine T_nil0 ?_ | refine E_region ?_ | refine T_add rfl rfl rfl (by omega) ?_ | refine E_inBlock ?_)
    exact IH (k + 1, ov) w4 _ ⟨by omega, by rw [he]; exact hO4, hB⟩ (by show L.length - (k + 1) < L.length - k; omega) ⟨rfl, rfl, rfl, trivial⟩
  have hnew : ∀ (K : Prop), (k = 0 ∨ L.getD (k - 1) false = true) → True := fun _ _ => trivial
  repeat (first | refine T_move rfl rfl ?_ | refine E_seq ?_ | refine E_region ?_ | refine T_cmp rfl rfl rfl rfl ?_)
  refine T_guard rfl rfl (fun h2 => ?_) (fun h2 => ?_)
  · have hk0 : k = 0 := by omega
    repeat (first | refine T_move rfl rfl ?_ | refine T_nil0 ?_ | refine E_region ?_ | refine T_off rfl rfl rfl ?_ | refine T_pick_true rfl rfl rfl ?_ | refine E_cond_true rfl ?_)
    refine T_build rfl rfl (bSt1 _) ?_
    refine T_lit1 (r := recS) tySt rfl rfl rfl (fun lv w5 hL _ _ hb => ?_)
    have hO := hO.later hb
    have hB := hB.step hB.size hb
    refine T_appendR (r := recS) tySt rfl rfl rfl hO hL.recs hB.size (by simp; omega) (by simp; omega) (fun ov' w6 hO6 hgr _ => ?_)
    have hB := hB.own hgr hO.blk (Nat.le_refl _) hB.size
    repeat (first | refine join _ _ ?_ | refine T_assign rfl rfl ?_ | refine T_nil0 ?_)
    exact ⟨ov', opN L k, k, 0, ⟨rfl, rfl, rfl, trivial⟩, hO6, hB, new (.inl hk0), hol⟩
  repeat (first | refine T_move rfl rfl ?_ | refine T_nil0 ?_ | refine T_on rfl rfl ?_ | refine T_sub rfl rfl rfl (by omega) ?_ | refine T_pick_false rfl rfl rfl ?_ | refine T_indexB tyBo rfl rfl rfl (by assumption) (by omega) ?_ | refine T_loadB Try.isAgg4 rfl rfl (by assumption) (by omega) ?_)
  rw [e1]
  refine E_cond_bool rfl (fun h3 => ?_) (fun h3 => ?_)
  · repeat (first | refine T_move rfl rfl ?_ | refine E_region ?_)
    refine T_build rfl rfl (bSt1 _) ?_
    refine T_lit1 (r := recS) tySt rfl rfl rfl (fun lv w5 hL _ _ hb => ?_)
    have hO := hO.later hb
    have hB := hB.step hB.size hb
    refine T_appendR (r := recS) tySt rfl rfl rfl hO hL.recs hB.size (by simp; omega) (by simp; omega) (fun ov' w6 hO6 hgr _ => ?_)
    have hB := hB.own hgr hO.blk (Nat.le_refl _) hB.size
    repeat (first | refine join _ _ ?_ | refine T_assign rfl rfl ?_ | refine T_nil0 ?_)
    exact ⟨ov', opN L k, k, 0, ⟨rfl, rfl, rfl, trivial⟩, hO6, hB, new (.inr h3), hol⟩
  · obtain ⟨ys, f, a1, a2, _⟩ := old (fun h => by rcases h with h | h; (omega); (rw [h3] at h; cases h))
    rw [a1] at hO hol
    repeat (first | refine join _ _ ?_ | refine E_skip ?_)
    exact ⟨ov, ys, f, k, ⟨rfl, rfl, rfl, trivial⟩, hO, hB, a2, by simp at hol; omega⟩

/-- the lanes, as the reference looks at them -/
theorem okL_iff {x : Rel} (h : okR x) {l r : Int} : okL x l r ↔ (0 ≤ l ∧ l ≤ x.w - 1) ∧ (l + 1 ≤ r ∧ r ≤ x.w) := by
  unfold okL
  constructor
  · rintro ⟨_, h1, h2, h3⟩; omega
  · rintro ⟨h1, h2⟩; exact ⟨h, by omega, by omega, by omega⟩

theorem sGoodStretches_spec (x : Rel) (v : Value) (l r most : Int) (w : World) (hI : Recs recD w.heap v x.ds) (hl : x.ds.length ≤ 1048576) :
    Ret Try.prog 23 #[relV x v, .int .i64 l, .int .i64 r, .int .i64 most] w (fun q w' => OwnR recS w' w.heap.size 32 q (strF x l r most) ∧ Below w.heap.size w w') := by
  refine Ret_of (args := [_, _, _, _]) Try.call23 Try.func23 rfl _ Try.ntmps23 rfl ?_
  repeat (first | refine E_seq ?_ | refine E_region ?_)
  refine T_box (cs := relC x v) rfl rfl (fun b1 w1 hn1 hx1 hB => ?_)
  have hI := hI.later hB
  have hz1 := hB.size
  have hC := Below.refl w1.heap.size w1
  have bad : ∀ w9, Below w1.heap.size w1 w9 → ¬ okL x l r → OwnR recS w9 w.heap.size 32 (.slice none 0 0) (strF x l r most) ∧ Below w.heap.size w w9 := fun w9 h9 h => ⟨by unfold strF; rw [if_neg h]; exact OwnR.nil _ _ _ _, hB.step hB.size h9⟩
  repeat (first | refine T_assign rfl rfl ?_ | refine T_nil0 ?_ | refine E_seq ?_ | refine E_region ?_ | refine T_loadBoxAB aL sL rfl rfl (by assumption) (by assumption) (by rfl) ?_)
  refine T_call rfl rfl (svalidReel_spec x v w1 hI hl) (fun q w2 hr => ?_)
  obtain ⟨rfl, hb⟩ := hr
  have hC := hC.step hC.size hb
  repeat (first | refine T_move rfl rfl ?_ | refine T_not rfl rfl ?_)
  refine T_guard rfl rfl (fun h1 => ?_) (fun h1 => ?_)
  · repeat' (first | refine T_move rfl rfl ?_ | refine T_assign rfl rfl ?_ | refine T_nil0 ?_ | refine E_seq ?_ | refine E_region ?_ | refine T_off rfl rfl rfl ?_ | refine T_pick_true rfl rfl rfl ?_ | refine E_cond_true rfl ?_ | refine E_ret1 rfl rfl ?_)
    exact bad _ hC (fun h => h1 h.1)
  have hok := Decidable.not_not.1 h1
  have hw := hok.1
  have hn := hok.2.1
  repeat (first | refine T_move rfl rfl ?_ | refine T_on rfl rfl ?_ | refine T_sub rfl rfl rfl (by omega) ?_ | refine T_fieldBoxF (fun _ _ => by kernel_rfl) rfl rfl ?_ | refine T_loadBoxB Try.isAgg3 rfl rfl (by assumption) (by assumption) (by rfl) ?_)
  refine T_call rfl rfl (inRange_spec _ _ _ w2) (fun q w3 hr => ?_)
  obtain ⟨rfl, rfl⟩ := hr
  repeat (first | refine T_move rfl rfl ?_ | refine T_on rfl rfl ?_ | refine T_pick_false rfl rfl rfl ?_ | refine T_not rfl rfl ?_)
  refine T_guard rfl rfl (fun h2 => ?_) (fun h2 => ?_)
  · repeat' (first | refine T_assign rfl rfl ?_ | refine T_nil0 ?_ | refine E_seq ?_ | refine E_region ?_ | refine T_off rfl rfl rfl ?_ | refine T_pick_true rfl rfl rfl ?_ | refine E_cond_true rfl ?_ | refine E_ret1 rfl rfl ?_)
    exact bad _ hC (fun h => h2 ((okL_iff hok).1 h).1)
  have h2 := Decidable.not_not.1 h2
  repeat (first | refine T_move rfl rfl ?_ | refine T_on rfl rfl ?_ | refine T_add rfl rfl rfl (by omega) ?_ | refine T_fieldBoxF (fun _ _ => by kernel_rfl) rfl rfl ?_ | refine T_loadBoxB Try.isAgg3 rfl rfl (by assumption) (by assumption) (by rfl) ?_)
  refine T_call rfl rfl (inRange_spec _ _ _ w2) (fun q w3 hr => ?_)
  obtain ⟨rfl, rfl⟩ := hr
  repeat (first | refine T_nil0 ?_ | refine T_on rfl rfl ?_ | refine T_pick_false rfl rfl rfl ?_ | refine T_not rfl rfl ?_)
  refine E_cond_if rfl (fun h3 => ?_) (fun h3 => ?_)
  · repeat' (first | refine T_assign rfl rfl ?_ | refine T_nil0 ?_ | refine E_seq ?_ | refine E_region ?_ | refine E_ret1 rfl rfl ?_)
    exact bad _ hC (fun h => h3 ((okL_iff hok).1 h).2)
  have hL : okL x l r := (okL_iff hok).2 ⟨h2, Decidable.not_not.1 h3⟩
  repeat (first | refine T_move rfl rfl ?_ | refine E_seq ?_ | refine E_region ?_ | refine E_skip ?_ | refine T_loadBoxAB aL sL rfl rfl (by assumption) (by assumption) (by rfl) ?_)
  refine T_call rfl rfl (sbadPlaces_spec x v l r most w2 (hI.later hC) hok) (fun bv w3 hr => ?_)
  obtain ⟨hO, hb⟩ := hr
  have hC := hC.step hC.size hb
  have hz3 := hC.size
  skip
  refine T_call rfl rfl (stretches_spec bv _ w3 hO.bools (by rw [badL_length]; omega)) (fun q w4 hr => ?_)
  obtain ⟨hS, hb⟩ := hr
  have hC := hC.step hC.size hb
  repeat' (first | refine T_assign rfl rfl ?_ | refine T_nil0 ?_ | refine E_ret1 rfl rfl ?_)
  exact ⟨by unfold strF; rw [if_pos hL]; exact hS.base (by omega), hB.step hB.size hC⟩

set_option maxHeartbeats 1000000 in
theorem LongestGood_spec (x : Rel) (v : Value) (l r most : Int) (w : World) (hI : Recs recD w.heap v x.ds) :
    Ret Try.prog 19 #[relV x v, .int .i64 l, .int .i64 r, .int .i64 most] w (fun q w' => q = .int .i64 (longF x l r most) ∧ Below w.heap.size w w') := by
  refine Ret_of (args := [_, _, _, _]) Try.call19 Try.func19 rfl _ Try.ntmps19 rfl ?_
  repeat (first | refine E_seq ?_ | refine E_region ?_)
  refine T_box (cs := relC x v) rfl rfl (fun b1 w1 hn1 hx1 hB => ?_)
  have hI := hI.later hB
  have hC := Below.refl w1.heap.size w1
  repeat (first | refine T_move rfl rfl ?_ | refine T_assign rfl rfl ?_ | refine T_nil0 ?_ | refine E_seq ?_ | refine E_region ?_ | refine T_loadBoxAB aL sL rfl rfl (by assumption) (by assumption) (by rfl) ?_)
  refine T_call rfl rfl (lanesOf_spec x v l r w1 hI) (fun q w2 hr => ?_)
  obtain ⟨rfl, hb⟩ := hr
  have hC := hC.step hC.size hb
  repeat (first | refine T_nil0 ?_ | refine T_not rfl rfl ?_)
  refine E_cond_if rfl (fun h1 => ?_) (fun h1 => ?_)
  · repeat' (first | refine T_assign rfl rfl ?_ | refine T_nil0 ?_ | refine E_seq ?_ | refine E_region ?_ | refine E_ret1 rfl rfl ?_)
    exact ⟨by unfold longF; rw [if_neg h1], hB.step hB.size hC⟩
  have hok := Decidable.not_not.1 h1
  have hF : longF x l r most = lngL (strF x l r most) := by unfold longF strF longN; rw [if_pos hok, if_pos hok]
  have hsl := strF_len (x := x) l r most
  have hsr : ∀ s ∈ strF x l r most, 0 ≤ s.f ∧ s.f < s.t ∧ s.t ≤ 400 := fun s hs => by
    unfold strF at hs
    rw [if_pos hok] at hs
    have h1 := opN_range _ _ s hs
    rw [badL_length] at h1
    have := hok.1.2.1
    omega
  rw [hF]
  repeat (first | refine T_move rfl rfl ?_ | refine T_assign rfl rfl ?_ | refine T_nil0 ?_ | refine E_seq ?_ | refine E_region ?_ | refine E_skip ?_ | refine T_loadBoxAB aL sL rfl rfl (by assumption) (by assumption) (by rfl) ?_)
  refine T_call rfl rfl (GoodStretches_spec x v l r most w2 (hI.later hC)) (fun sv w3 hr => ?_)
  obtain ⟨hS, hb⟩ := hr
  have hC := hC.step hC.size hb
  have hS := hS.recs
  generalize strF x l r most = S at *
  have h33 := Below.refl w3.heap.size w3
  repeat (first | refine T_move rfl rfl ?_ | refine T_nil0 ?_ | refine T_len tySt rfl rfl (Recs.rlen (r := recS) (by assumption)) ?_)
  refine E_loop (σ := Nat) (fun k => [(9, .int .i64 (lngL (S.take k))), (21, sv), (22, .int .i64 S.length), (23, .int .i64 k)])
    (fun k w' => k ≤ S.length ∧ Below w1.heap.size w1 w' ∧ Below w3.heap.size w3 w') (fun k => S.length - k) 0
    ⟨by omega, hC, h33⟩ ⟨rfl, rfl, rfl, rfl, trivial⟩ ?_
  clear hC h33
  rintro k w4 ⟨hk, hC, h34⟩ IH
  repeat (first | refine T_nil0 ?_ | refine E_seq ?_ | refine E_region ?_ | refine T_cmp rfl rfl rfl rfl ?_)
  refine E_cond_if rfl (fun hp => ?_) (fun hp => ?_)
  case refine_2 =>
    have e : k = S.length := by omega
    subst e
    rw [List.take_length]
    repeat' (first | refine T_move rfl rfl ?_ | refine T_assign rfl rfl ?_ | refine T_nil0 ?_ | refine E_seq ?_ | refine E_region ?_ | refine E_exit rfl ?_ | refine E_ret1 rfl rfl ?_)
    exact ⟨rfl, hB.step hB.size hC⟩
  have hkl : k < S.length := by omega
  have hst := lngL_step hkl
  have hsk := hsr _ (getM (z := sz0) hkl)
  repeat (first | refine E_seq ?_ | refine E_region ?_ | refine E_skip ?_ | refine E_blockS ?_ | refine T_indexSt tySt rfl rfl rfl (by assumption) (by omega) ?_ | refine T_loadSA' aSt sSt rfl rfl (by assumption) (by assumption) (by omega) ?_)
  refine T_new (us := recS.enc (S.getD k sz0)) zSt sSt rfl (fun _ => rfl) rfl rfl (recS.one _) (fun b7 w5 hn7 hx7 hb => ?_)
  have hC := hC.step hC.size hb
  have h34 := h34.step h34.size hb
  have h55 := Below.refl w5.heap.size w5
  repeat (first | refine T_move rfl rfl ?_ | refine T_assign rfl rfl ?_ | refine T_nil0 ?_ | refine E_region ?_ | refine T_add rfl rfl rfl (by omega) ?_ | refine T_sub rfl rfl rfl (by omega) ?_ | refine E_inBlock ?_ | refine T_max rfl rfl rfl ?_ | refine T_fieldBoxF (fun _ _ => by kernel_rfl) rfl rfl ?_ | refine T_loadBoxB Try.isAgg3 rfl rfl (by assumption) (by assumption) (by rfl) ?_)
  exact IH (k + 1) w5 _ ⟨by omega, hC, h34⟩ (by omega) ⟨slotI rfl hst.symm, rfl, rfl, rfl, trivial⟩

set_option maxHeartbeats 1000000 in
theorem slongest_spec (x : Rel) (v : Value) (l r most : Int) (w : World) (hI : Recs recD w.heap v x.ds) (hok : okR x) :
    Ret Try.prog 42 #[relV x v, .int .i64 l, .int .i64 r, .int .i64 most] w (fun q w' => q = .int .i64 (longN x l r most) ∧ Below w.heap.size w w') := by
  have hn := hok.2.1
  refine Ret_of (args := [_, _, _, _]) Try.call42 Try.func42 rfl _ Try.ntmps42 rfl ?_
  repeat (first | refine E_seq ?_ | refine E_region ?_)
  refine T_box (cs := relC x v) rfl rfl (fun b1 w1 hn1 hx1 hB => ?_)
  have hI := hI.later hB
  have hC := Below.refl w1.heap.size w1
  repeat (first | refine T_move rfl rfl ?_ | refine T_assign rfl rfl ?_ | refine T_nil0 ?_ | refine E_seq ?_ | refine E_region ?_ | refine T_loadBoxAB aL sL rfl rfl (by assumption) (by assumption) (by rfl) ?_)
  refine T_call rfl rfl (sbadPlaces_spec x v l r most w1 (hI.later hC) hok) (fun bv w2 hr => ?_)
  obtain ⟨hO, hb⟩ := hr
  have hC := hC.step hC.size hb
  skip
  refine T_call rfl rfl (stretches_spec bv _ w2 hO.bools (by rw [badL_length]; omega)) (fun sv w3 hr => ?_)
  obtain ⟨hS, hb⟩ := hr
  have hC := hC.step hC.size hb
  have hS := hS.recs
  have hL : longN x l r most = lngL (strL (badL x.ds l r most x.n)) := rfl
  have hsr := opN_range (badL x.ds l r most x.n) (badL x.ds l r most x.n).length
  have hsl := opN_length (badL x.ds l r most x.n) (badL x.ds l r most x.n).length
  have hsd : opN (badL x.ds l r most x.n) (badL x.ds l r most x.n).length = strL (badL x.ds l r most x.n) := rfl
  rw [hsd, badL_length] at hsr hsl
  rw [hL]
  generalize strL (badL x.ds l r most x.n) = S at *
  have h33 := Below.refl w3.heap.size w3
  repeat (first | refine T_assign rfl rfl ?_ | refine T_nil0 ?_ | refine E_seq ?_ | refine E_region ?_)
  refine E_loop (σ := Nat) (fun k => [(9, .int .i64 (lngL (S.take k))), (10, sv), (11, .int .i64 k)])
    (fun k w' => k ≤ S.length ∧ Below w1.heap.size w1 w' ∧ Below w3.heap.size w3 w') (fun k => S.length - k) 0
    ⟨by omega, hC, h33⟩ ⟨rfl, rfl, rfl, trivial⟩ ?_
  clear hC h33
  rintro k w4 ⟨hk, hC, h34⟩ IH
  repeat (first | refine T_move rfl rfl ?_ | refine T_nil0 ?_ | refine E_seq ?_ | refine E_region ?_ | refine T_cmp rfl rfl rfl rfl ?_ | refine T_len tySt rfl rfl (Recs.rlen (r := recS) (by assumption)) ?_)
  refine E_cond_if rfl (fun hp => ?_) (fun hp => ?_)
  case refine_2 =>
    have e : k = S.length := by omega
    subst e
    rw [List.take_length]
    repeat' (first | refine T_move rfl rfl ?_ | refine T_assign rfl rfl ?_ | refine T_nil0 ?_ | refine E_seq ?_ | refine E_region ?_ | refine E_exit rfl ?_ | refine E_ret1 rfl rfl ?_)
    exact ⟨rfl, hB.step hB.size hC⟩
  have hkl : k < S.length := by omega
  have hst := lngL_step hkl
  have hsk := hsr _ (getM (z := sz0) hkl)
  repeat (first | refine E_seq ?_ | refine E_skip ?_ | refine E_blockR ?_)
  refine E_region_still follows (by kernel_rfl) ?_
  repeat (first | refine T_move rfl rfl ?_ | refine T_assign rfl rfl ?_ | refine T_nil0 ?_ | refine T_nil1 ?_ | refine E_region ?_ | refine T_add rfl rfl rfl (by omega) ?_ | refine T_sub rfl rfl rfl (by omega) ?_ | refine E_inBlock ?_ | refine T_max rfl rfl rfl ?_ | refine T_indexSt tySt rfl rfl rfl (by assumption) (by omega) ?_ | refine T_fieldSt (fun _ _ => by kernel_rfl) rfl rfl (by assumption) (by omega) ?_ | refine T_loadSt Try.isAgg3 rfl rfl (by assumption) (by assumption) (by omega) (by rfl) ?_)
  exact IH (k + 1) _ _ ⟨by omega, hC.drew, h34.drew⟩ (by omega) ⟨slotI rfl hst.symm, rfl, rfl, trivial⟩

theorem sLongestGood_spec (x : Rel) (v : Value) (l r most : Int) (w : World) (hI : Recs recD w.heap v x.ds) (hl : x.ds.length ≤ 1048576) :
    Ret Try.prog 20 #[relV x v, .int .i64 l, .int .i64 r, .int .i64 most] w (fun q w' => q = .int .i64 (longF x l r most) ∧ Below w.heap.size w w') := by
  refine Ret_of (args := [_, _, _, _]) Try.call20 Try.func20 rfl _ Try.ntmps20 rfl ?_
  repeat (first | refine E_seq ?_ | refine E_region ?_)
  refine T_box (cs := relC x v) rfl rfl (fun b1 w1 hn1 hx1 hB => ?_)
  have hI := hI.later hB
  have hC := Below.refl w1.heap.size w1
  have bad : ∀ w9, Below w1.heap.size w1 w9 → ¬ okL x l r → Value.int .i64 (-1) = .int .i64 (longF x l r most) ∧ Below w.heap.size w w9 := fun w9 h9 h => ⟨by unfold longF; rw [if_neg h], hB.step hB.size h9⟩
  repeat (first | refine T_assign rfl rfl ?_ | refine T_nil0 ?_ | refine E_seq ?_ | refine E_region ?_ | refine T_loadBoxAB aL sL rfl rfl (by assumption) (by assumption) (by rfl) ?_)
  refine T_call rfl rfl (svalidReel_spec x v w1 hI hl) (fun q w2 hr => ?_)
  obtain ⟨rfl, hb⟩ := hr
  have hC := hC.step hC.size hb
  repeat (first | refine T_move rfl rfl ?_ | refine T_not rfl rfl ?_)
  refine T_guard rfl rfl (fun h1 => ?_) (fun h1 => ?_)
  · repeat' (first | refine T_move rfl rfl ?_ | refine T_assign rfl rfl ?_ | refine T_nil0 ?_ | refine E_seq ?_ | refine E_region ?_ | refine T_off rfl rfl rfl ?_ | refine T_pick_true rfl rfl rfl ?_ | refine E_cond_true rfl ?_ | refine E_ret1 rfl rfl ?_)
    exact bad _ hC (fun h => h1 h.1)
  have hok := Decidable.not_not.1 h1
  have hw := hok.1
  repeat (first | refine T_move rfl rfl ?_ | refine T_on rfl rfl ?_ | refine T_sub rfl rfl rfl (by omega) ?_ | refine T_fieldBoxF (fun _ _ => by kernel_rfl) rfl rfl ?_ | refine T_loadBoxB Try.isAgg3 rfl rfl (by assumption) (by assumption) (by rfl) ?_)
  refine T_call rfl rfl (inRange_spec _ _ _ w2) (fun q w3 hr => ?_)
  obtain ⟨rfl, rfl⟩ := hr
  repeat (first | refine T_move rfl rfl ?_ | refine T_on rfl rfl ?_ | refine T_pick_false rfl rfl rfl ?_ | refine T_not rfl rfl ?_)
  refine T_guard rfl rfl (fun h2 => ?_) (fun h2 => ?_)
  · repeat' (first | refine T_assign rfl rfl ?_ | refine T_nil0 ?_ | refine E_seq ?_ | refine E_region ?_ | refine T_off rfl rfl rfl ?_ | refine T_pick_true rfl rfl rfl ?_ | refine E_cond_true rfl ?_ | refine E_ret1 rfl rfl ?_)
    exact bad _ hC (fun h => h2 ((okL_iff hok).1 h).1)
  have h2 := Decidable.not_not.1 h2
  repeat (first | refine T_move rfl rfl ?_ | refine T_on rfl rfl ?_ | refine T_add rfl rfl rfl (by omega) ?_ | refine T_fieldBoxF (fun _ _ => by kernel_rfl) rfl rfl ?_ | refine T_loadBoxB Try.isAgg3 rfl rfl (by assumption) (by assumption) (by rfl) ?_)
  refine T_call rfl rfl (inRange_spec _ _ _ w2) (fun q w3 hr => ?_)
  obtain ⟨rfl, rfl⟩ := hr
  repeat (first | refine T_nil0 ?_ | refine T_on rfl rfl ?_ | refine T_pick_false rfl rfl rfl ?_ | refine T_not rfl rfl ?_)
  refine E_cond_if rfl (fun h3 => ?_) (fun h3 => ?_)
  · repeat' (first | refine T_assign rfl rfl ?_ | refine T_nil0 ?_ | refine E_seq ?_ | refine E_region ?_ | refine E_ret1 rfl rfl ?_)
    exact bad _ hC (fun h => h3 ((okL_iff hok).1 h).2)
  have hL : okL x l r := (okL_iff hok).2 ⟨h2, Decidable.not_not.1 h3⟩
  repeat (first | refine T_move rfl rfl ?_ | refine E_seq ?_ | refine E_region ?_ | refine E_skip ?_ | refine T_loadBoxAB aL sL rfl rfl (by assumption) (by assumption) (by rfl) ?_)
  refine T_call rfl rfl (slongest_spec x v l r most w2 (hI.later hC) hok) (fun q w3 hr => ?_)
  obtain ⟨rfl, hb⟩ := hr
  have hC := hC.step hC.size hb
  repeat' (first | refine T_assign rfl rfl ?_ | refine T_nil0 ?_ | refine E_ret1 rfl rfl ?_)
  exact ⟨by unfold longF; rw [if_pos hL], hB.step hB.size hC⟩

theorem longF_lane {x : Rel} {wd most : Int} (hok : okR x) (h1 : 1 ≤ wd) {k : Int} (h0 : 0 ≤ k) (h2 : k + wd ≤ x.w) : longF x k (k + wd) most = laneG x wd most k := by
  unfold longF laneG
  rw [if_pos ⟨hok, by omega, by omega, by omega⟩]
def bestV (x : Rel) (wd most : Int) (k : Nat) : Int := if k = 0 then -1 else laneG x wd most (bestN x wd most k)

set_option maxHeartbeats 1000000 in
theorem BestLanes_spec (x : Rel) (v : Value) (wd most : Int) (w : World) (hI : Recs recD w.heap v x.ds) :
    Ret Try.prog 26 #[relV x v, .int .i64 wd, .int .i64 most] w (fun q w' => q = .int .i64 (bestF x wd most) ∧ Below w.heap.size w w') := by
  refine Ret_of (args := [_, _, _]) Try.call26 Try.func26 rfl _ Try.ntmps26 rfl ?_
  repeat (first | refine E_seq ?_ | refine E_region ?_)
  refine T_box (cs := relC x v) rfl rfl (fun b1 w1 hn1 hx1 hB => ?_)
  have hI := hI.later hB
  have hC := Below.refl w1.heap.size w1
  have bad : ∀ w9, Below w1.heap.size w1 w9 → ¬ (okR x ∧ 1 ≤ wd ∧ wd ≤ x.w) → Value.int .i64 (-1) = .int .i64 (bestF x wd most) ∧ Below w.heap.size w w9 := fun w9 h9 h => ⟨by unfold bestF; rw [if_neg h], hB.step hB.size h9⟩
  repeat (first | refine T_assign rfl rfl ?_ | refine T_nil0 ?_ | refine E_seq ?_ | refine E_region ?_ | refine T_loadBoxAB aL sL rfl rfl (by assumption) (by assumption) (by rfl) ?_)
  refine T_call rfl rfl (ValidReel_spec x v w1 hI) (fun q w2 hr => ?_)
  obtain ⟨rfl, hb⟩ := hr
  have hC := hC.step hC.size hb
  repeat (first | refine T_move rfl rfl ?_ | refine T_not rfl rfl ?_)
  refine T_guard rfl rfl (fun h1 => ?_) (fun h1 => ?_)
  · repeat' (first | refine T_move rfl rfl ?_ | refine T_assign rfl rfl ?_ | refine T_nil0 ?_ | refine E_seq ?_ | refine E_region ?_ | refine T_off rfl rfl rfl ?_ | refine T_pick_true rfl rfl rfl ?_ | refine E_cond_true rfl ?_ | refine E_ret1 rfl rfl ?_)
    exact bad _ hC (fun h => h1 h.1)
  have hok := Decidable.not_not.1 h1
  have hw := hok.1
  repeat (first | refine T_move rfl rfl ?_ | refine T_cmp rfl rfl rfl rfl ?_ | refine T_on rfl rfl ?_ | refine T_pick_false rfl rfl rfl ?_)
  refine T_guard rfl rfl (fun h2 => ?_) (fun h2 => ?_)
  · repeat' (first | refine T_assign rfl rfl ?_ | refine T_nil0 ?_ | refine E_seq ?_ | refine E_region ?_ | refine T_off rfl rfl rfl ?_ | refine T_pick_true rfl rfl rfl ?_ | refine E_cond_true rfl ?_ | refine E_ret1 rfl rfl ?_)
    exact bad _ hC (fun h => by have := h.2; omega)
  repeat (first | refine T_move rfl rfl ?_ | refine T_nil0 ?_ | refine T_cmp rfl rfl rfl rfl ?_ | refine T_on rfl rfl ?_ | refine T_pick_false rfl rfl rfl ?_ | refine T_fieldBoxF (fun _ _ => by kernel_rfl) rfl rfl ?_ | refine T_loadBoxB Try.isAgg3 rfl rfl (by assumption) (by assumption) (by rfl) ?_)
  refine E_cond_if rfl (fun h3 => ?_) (fun h3 => ?_)
  · repeat' (first | refine T_assign rfl rfl ?_ | refine T_nil0 ?_ | refine E_seq ?_ | refine E_region ?_ | refine E_ret1 rfl rfl ?_)
    exact bad _ hC (fun h => by have := h.2; omega)
  have hF : bestF x wd most = bestN x wd most (x.w - wd + 1).toNat := by unfold bestF; rw [if_pos ⟨hok, by omega, by omega⟩]
  rw [hF]
  repeat (first | refine T_assign rfl rfl ?_ | refine T_nil0 ?_ | refine E_seq ?_ | refine E_region ?_ | refine E_skip ?_)
  refine E_loop (σ := Nat) (fun k => [(1, .int .i64 wd), (2, .int .i64 most), (3, bPtr b1 0), (7, .int .i64 (bestN x wd most k)), (8, .int .i64 (bestV x wd most k)), (9, .int .i64 k)])
    (fun k w' => k ≤ (x.w - wd + 1).toNat ∧ Below w1.heap.size w1 w') (fun k => (x.w - wd + 1).toNat - k) 0
    ⟨by omega, hC⟩ ⟨rfl, rfl, rfl, rfl, rfl, rfl, trivial⟩ ?_
  clear hC
  rintro k w3 ⟨hk, hC⟩ IH
  repeat (first | refine T_move rfl rfl ?_ | refine T_nil0 ?_ | refine E_seq ?_ | refine E_region ?_ | refine T_cmp rfl rfl rfl rfl ?_ | refine T_add rfl rfl rfl (by omega) ?_ | refine T_fieldBoxF (fun _ _ => by kernel_rfl) rfl rfl ?_ | refine T_loadBoxB Try.isAgg3 rfl rfl (by assumption) (by assumption) (by rfl) ?_)
  refine E_cond_if rfl (fun hp => ?_) (fun hp => ?_)
  case refine_2 =>
    have e : k = (x.w - wd + 1).toNat := by omega
    subst e
    repeat' (first | refine T_move rfl rfl ?_ | refine T_assign rfl rfl ?_ | refine T_nil0 ?_ | refine E_seq ?_ | refine E_region ?_ | refine E_exit rfl ?_ | refine E_ret1 rfl rfl ?_)
    exact ⟨rfl, hB.step hB.size hC⟩
  have hlane := longF_lane (most := most) hok (wd := wd) (by omega) (k := k) (by omega) (by omega)
  have hlb := longN_bound hok (k : Int) (k + wd) most
  have hlg : laneG x wd most k = longN x k (k + wd) most := rfl
  have hst : bestN x wd most (k + 1) = if laneG x wd most (bestN x wd most k) < laneG x wd most k then (k : Int) else bestN x wd most k := rfl
  repeat (first | refine T_move rfl rfl ?_ | refine E_seq ?_ | refine E_region ?_ | refine T_add rfl rfl rfl (by omega) ?_ | refine E_skip ?_ | refine E_blockS ?_ | refine T_loadBoxAB aL sL rfl rfl (by assumption) (by assumption) (by rfl) ?_)
  refine T_call rfl rfl (LongestGood_spec x v k (k + wd) most w3 (hI.later hC)) (fun q w4 hr => ?_)
  obtain ⟨rfl, hb⟩ := hr
  have hC := hC.step hC.size hb
  rw [hlane]
  repeat (first | refine T_move rfl rfl ?_ | refine T_assign rfl rfl ?_ | refine T_nil0 ?_ | refine E_seq ?_ | refine E_region ?_ | refine T_cmp rfl rfl rfl rfl ?_)
  refine E_cond_if rfl (fun h4 => ?_) (fun h4 => ?_)
  · have hb1 : bestN x wd most (k + 1) = k := by
      rw [hst]
      by_cases e : k = 0
      · subst e; simp [bestN]
      · unfold bestV at h4
        rw [if_neg e] at h4
        rw [if_pos h4]
    repeat (first | refine T_move rfl rfl ?_ | refine T_assign rfl rfl ?_ | refine T_nil0 ?_ | refine E_region ?_ | refine T_add rfl rfl rfl (by omega) ?_ | refine E_inBlock ?_)
    exact IH (k + 1) w4 _ ⟨by omega, hC⟩ (by omega) ⟨rfl, rfl, rfl, slotI rfl hb1.symm, slotI rfl (by unfold bestV; rw [if_neg (by omega), hb1]), rfl, trivial⟩
  · have hk0 : k ≠ 0 := fun e => by unfold bestV at h4; rw [if_pos e] at h4; omega
    have hb1 : bestN x wd most (k + 1) = bestN x wd most k := by
      rw [hst, if_neg]
      unfold bestV at h4
      rw [if_neg hk0] at h4
      exact h4
    repeat (first | refine T_move rfl rfl ?_ | refine T_assign rfl rfl ?_ | refine T_nil0 ?_ | refine E_region ?_ | refine T_add rfl rfl rfl (by omega) ?_ | refine E_skip ?_ | refine E_inBlock ?_)
    exact IH (k + 1) w4 _ ⟨by omega, hC⟩ (by omega) ⟨rfl, rfl, rfl, slotI rfl hb1.symm, slotI rfl (by unfold bestV; rw [if_neg hk0, if_neg (by omega), hb1]), rfl, trivial⟩

set_option maxHeartbeats 1000000 in
theorem sBestLanes_spec (x : Rel) (v : Value) (wd most : Int) (w : World) (hI : Recs recD w.heap v x.ds) (hl : x.ds.length ≤ 1048576) :
    Ret Try.prog 27 #[relV x v, .int .i64 wd, .int .i64 most] w (fun q w' => q = .int .i64 (bestF x wd most) ∧ Below w.heap.size w w') := by
  refine Ret_of (args := [_, _, _]) Try.call27 Try.func27 rfl _ Try.ntmps27 rfl ?_
  repeat (first | refine E_seq ?_ | refine E_region ?_)
  refine T_box (cs := relC x v) rfl rfl (fun b1 w1 hn1 hx1 hB => ?_)
  have hI := hI.later hB
  have hC := Below.refl w1.heap.size w1
  have bad : ∀ w9, Below w1.heap.size w1 w9 → ¬ (okR x ∧ 1 ≤ wd ∧ wd ≤ x.w) → Value.int .i64 (-1) = .int .i64 (bestF x wd most) ∧ Below w.heap.size w w9 := fun w9 h9 h => ⟨by unfold bestF; rw [if_neg h], hB.step hB.size h9⟩
  repeat (first | refine T_assign rfl rfl ?_ | refine T_nil0 ?_ | refine E_seq ?_ | refine E_region ?_ | refine T_loadBoxAB aL sL rfl rfl (by assumption) (by assumption) (by rfl) ?_)
  refine T_call rfl rfl (svalidReel_spec x v w1 hI hl) (fun q w2 hr => ?_)
  obtain ⟨rfl, hb⟩ := hr
  have hC := hC.step hC.size hb
  repeat (first | refine T_move rfl rfl ?_ | refine T_not rfl rfl ?_)
  refine T_guard rfl rfl (fun h1 => ?_) (fun h1 => ?_)
  · repeat' (first | refine T_assign rfl rfl ?_ | refine T_nil0 ?_ | refine E_seq ?_ | refine E_region ?_ | refine T_off rfl rfl rfl ?_ | refine T_pick_true rfl rfl rfl ?_ | refine E_cond_true rfl ?_ | refine E_ret1 rfl rfl ?_)
    exact bad _ hC (fun h => h1 h.1)
  have hok := Decidable.not_not.1 h1
  have hw := hok.1
  repeat (first | refine T_move rfl rfl ?_ | refine T_on rfl rfl ?_ | refine T_fieldBoxF (fun _ _ => by kernel_rfl) rfl rfl ?_ | refine T_loadBoxB Try.isAgg3 rfl rfl (by assumption) (by assumption) (by rfl) ?_)
  refine T_call rfl rfl (inRange_spec _ _ _ w2) (fun q w3 hr => ?_)
  obtain ⟨rfl, rfl⟩ := hr
  repeat (first | refine T_nil0 ?_ | refine T_on rfl rfl ?_ | refine T_pick_false rfl rfl rfl ?_ | refine T_not rfl rfl ?_)
  refine E_cond_if rfl (fun h2 => ?_) (fun h2 => ?_)
  · repeat' (first | refine T_assign rfl rfl ?_ | refine T_nil0 ?_ | refine E_seq ?_ | refine E_region ?_ | refine E_ret1 rfl rfl ?_)
    exact bad _ hC (fun h => h2 h.2)
  have h2 := Decidable.not_not.1 h2
  have hF : bestF x wd most = bestN x wd most (x.w - wd + 1).toNat := by unfold bestF; rw [if_pos ⟨hok, h2⟩]
  rw [hF]
  repeat (first | refine T_assign rfl rfl ?_ | refine T_nil0 ?_ | refine E_seq ?_ | refine E_region ?_ | refine E_skip ?_)
  refine E_loop (σ := Nat) (fun k => [(1, .int .i64 wd), (2, .int .i64 most), (3, bPtr b1 0), (7, .int .i64 (bestN x wd most k)), (8, .int .i64 k)])
    (fun k w' => 1 ≤ k ∧ k ≤ (x.w - wd + 1).toNat ∧ Below w1.heap.size w1 w') (fun k => (x.w - wd + 1).toNat - k) 1
    ⟨by omega, by omega, hC⟩ ⟨rfl, rfl, rfl, slotI rfl (by simp [bestN]), rfl, trivial⟩ ?_
  clear hC
  rintro k w3 ⟨hk1, hk, hC⟩ IH
  repeat (first | refine T_move rfl rfl ?_ | refine T_nil0 ?_ | refine E_seq ?_ | refine E_region ?_ | refine T_cmp rfl rfl rfl rfl ?_ | refine T_add rfl rfl rfl (by omega) ?_ | refine T_fieldBoxF (fun _ _ => by kernel_rfl) rfl rfl ?_ | refine T_loadBoxB Try.isAgg3 rfl rfl (by assumption) (by assumption) (by rfl) ?_)
  refine E_cond_if rfl (fun hp => ?_) (fun hp => ?_)
  case refine_2 =>
    have e : k = (x.w - wd + 1).toNat := by omega
    subst e
    repeat' (first | refine T_move rfl rfl ?_ | refine T_assign rfl rfl ?_ | refine T_nil0 ?_ | refine E_seq ?_ | refine E_region ?_ | refine E_exit rfl ?_ | refine E_ret1 rfl rfl ?_)
    exact ⟨rfl, hB.step hB.size hC⟩
  have hst : bestN x wd most (k + 1) = if laneG x wd most (bestN x wd most k) < laneG x wd most k then (k : Int) else bestN x wd most k := rfl
  have hrg := bestN_range x wd most k
  have hrg2 := hrg.2 hk1
  repeat (first | refine E_seq ?_ | refine E_skip ?_ | refine E_blockS ?_)
  refine E_region_quiet follows (by kernel_rfl) ?_
  repeat (first | refine T_move rfl rfl ?_ | refine T_add rfl rfl rfl (by omega) ?_ | refine T_loadBoxAB aL sL rfl rfl (by assumption) (by assumption) (by rfl) ?_)
  refine T_callQ rfl rfl (fun w9 hb9 => slongest_spec x v k (k + wd) most w9 ((hI.later hC).later hb9) hok) ?_
  repeat (first | refine T_move rfl rfl ?_ | refine T_add rfl rfl rfl (by omega) ?_ | refine T_loadBoxAB aL sL rfl rfl (by assumption) (by assumption) (by rfl) ?_)
  refine T_callQ rfl rfl (fun w9 hb9 => slongest_spec x v (bestN x wd most k) (bestN x wd most k + wd) most w9 ((hI.later hC).later hb9) hok) ?_
  repeat (first | refine T_cmp rfl rfl rfl rfl ?_)
  refine T_nil2 (fun w9 hb9 => ?_)
  have hC := hC.step hC.size hb9
  refine E_cond_if rfl (fun h4 => ?_) (fun h4 => ?_)
  · rw [if_pos (show laneG x wd most (bestN x wd most k) < laneG x wd most k from h4)] at hst
    repeat (first | refine T_move rfl rfl ?_ | refine T_assign rfl rfl ?_ | refine T_nil0 ?_ | refine E_region ?_ | refine T_add rfl rfl rfl (by omega) ?_ | refine E_inBlock ?_)
    exact IH (k + 1) w9 _ ⟨by omega, by omega, hC⟩ (by omega) ⟨rfl, rfl, rfl, slotI rfl hst.symm, rfl, trivial⟩
  · rw [if_neg (show ¬ laneG x wd most (bestN x wd most k) < laneG x wd most k from h4)] at hst
    repeat (first | refine T_move rfl rfl ?_ | refine T_assign rfl rfl ?_ | refine T_nil0 ?_ | refine E_region ?_ | refine T_add rfl rfl rfl (by omega) ?_ | refine E_skip ?_ | refine E_inBlock ?_)
    exact IH (k + 1) w9 _ ⟨by omega, by omega, hC⟩ (by omega) ⟨rfl, rfl, rfl, slotI rfl hst.symm, rfl, trivial⟩
end Go.Proofs.Ytlflglcgpcnjdaa
