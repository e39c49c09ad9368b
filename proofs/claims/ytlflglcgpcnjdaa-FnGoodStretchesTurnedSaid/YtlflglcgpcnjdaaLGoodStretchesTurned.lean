/-
  The walk of laws.FnGoodStretchesTurned: it returns true, and writes nothing that was there. Conditions: the arguments lie in memory as the contract says.
-/
import Derived.Test.YtlflglcgpcnjdaaC2b
import Derived.Test.YtlflglcgpcnjdaaC2e
import Derived.Test.YtlflglcgpcnjdaaG2d
import Derived.Test.YtlflglcgpcnjdaaLibSt
import Derived.Test.YtlflglcgpcnjdaaRowY
namespace Go.PR
theorem backS_length (n : Int) (xs : List Str) : (backS n xs).length = xs.length := by simp [backS]
theorem backS_getD {n : Int} {xs : List Str} {k : Nat} (h : k < xs.length) : (backS n xs).getD k sz0 = ⟨n - (xs.getD (xs.length - 1 - k) sz0).t, n - (xs.getD (xs.length - 1 - k) sz0).f⟩ := by
  unfold backS
  rw [List.getD_eq_getElem?_getD, List.getD_eq_getElem?_getD, List.getElem?_map, List.getElem?_reverse h]
  have : xs.length - 1 - k < xs.length := by omega
  simp [this]
end Go.PR
namespace Go.Proofs.Ytlflglcgpcnjdaa
open Go Go.PR Go.RowKit attribute [local irreducible] T E Ints Sl Bools OwnI OwnB OwnR Recs Box Ret
attribute [local irreducible] Bytes X

set_option maxHeartbeats 1000000 in
theorem FnGoodStretchesTurned_walk (cv : Value) (cs : List Int) (w : World) (hY : Bytes w.heap cv cs ∧ ∀ c ∈ cs, 0 ≤ c ∧ c ≤ 255) :
    Ret Try.prog 6 #[cv] w (fun r w' => r = .bool true ∧ Below w.heap.size w w') := by
  obtain ⟨hY, hby⟩ := hY
  refine Ret_of (args := [_]) Try.call6 Try.func6 rfl _ Try.ntmps6 rfl ?_
  repeat (first | refine T_move rfl rfl ?_ | refine T_assign rfl rfl ?_ | refine T_nil0 ?_ | refine E_seq ?_ | refine E_region ?_)
  refine T_len tyY rfl rfl hY.len ?_
  repeat (first | refine T_nil0 ?_ | refine T_cmp rfl rfl rfl rfl ?_)
  refine E_cond_if rfl (fun hp => ?_) (fun hp => ?_)
  · repeat' (first | refine T_assign rfl rfl ?_ | refine T_nil0 ?_ | refine E_seq ?_ | refine E_region ?_ | refine E_ret1 rfl rfl ?_)
    exact ⟨rfl, Below.refl _ _⟩
  repeat (first | refine T_move rfl rfl ?_ | refine E_seq ?_ | refine E_region ?_ | refine E_skip ?_)
  refine T_call rfl rfl (DrawGoodStretches_spec cv cs w hY hby) (fun r w1 hr => ?_)
  obtain ⟨x, u, l, h, m, rfl, hO, hdl, hB⟩ := hr
  repeat (first | refine T_move rfl rfl ?_ | refine T_extract rfl rfl rfl ?_)
  refine T_new (us := relC x u) zL sL rfl (fun _ => rfl) rfl rfl (relC_one hO.recs.rlen) (fun b3 w2 hn3 hx3 hb => ?_)
  have hI := (hO.later hb).recs
  have hB := hB.step hB.size hb
  have hE := Below.refl w2.heap.size w2
  clear hO hb
  repeat (first | refine T_move rfl rfl ?_ | refine T_assign rfl rfl ?_ | refine T_nil0 ?_ | refine E_seq ?_ | refine E_region ?_ | refine T_loadBoxAB aL sL rfl rfl (by assumption) (by assumption) (by rfl) ?_)
  refine T_call rfl rfl (GoodStretches_spec x u l h m w2 hI) (fun g w3 hr => ?_)
  obtain ⟨hg, hb⟩ := hr
  have hJ := hg.recs
  have hB := hB.step hB.size hb
  have hE := hE.step hE.size hb
  have hI := hI.later hb
  have hsl := strF_len (x := x) l h m
  clear hg hb
  repeat (first | refine T_move rfl rfl ?_ | refine T_assign rfl rfl ?_ | refine T_nil0 ?_ | refine E_seq ?_ | refine E_region ?_ | refine T_loadBoxAB aL sL rfl rfl (by assumption) (by assumption) (by rfl) ?_)
  refine T_call rfl rfl (sGoodStretches_spec x u l h m w3 hI (by omega)) (fun g2 w4 hr => ?_)
  obtain ⟨hg2, hb⟩ := hr
  have hB := hB.step hB.size hb
  have hE := hE.step hE.size hb
  have hI := hI.later hb
  have hJ := hJ.later hb
  clear hb
  skip
  refine T_call rfl rfl (equalStretches_same _ _ g g2 w4 rfl hJ hg2.recs (by omega)) (fun r w5 hr => ?_)
  obtain ⟨rfl, hb⟩ := hr
  have hB := hB.step hB.size hb
  have hE := hE.step hE.size hb
  have hI := hI.later hb
  have hJ := hJ.later hb
  clear hb hg2
  repeat (first | refine T_move rfl rfl ?_ | refine T_nil0 ?_ | refine T_cmp rfl rfl rfl rfl ?_ | refine T_on rfl rfl ?_ | refine T_pick_false rfl rfl rfl ?_ | refine T_notB rfl rfl ?_ | refine T_len tySt rfl rfl (Recs.rlen (r := recS) (by assumption)) ?_)
  refine E_cond_if rfl (fun h2 => ?_) (fun h2 => ?_)
  · repeat (first | refine T_move rfl rfl ?_ | refine E_seq ?_ | refine E_region ?_ | refine T_loadBoxAB aL sL rfl rfl (by assumption) (by assumption) (by rfl) ?_)
    refine T_call rfl rfl (sGoodStretches_spec x u l h m w5 hI (by omega)) (fun g2 w6 hr => ?_)
    obtain ⟨hg2, hb⟩ := hr
    have hB := hB.step hB.size hb
    have hJ := hJ.later hb
    skip
    refine T_call rfl rfl (equalStretches_same _ _ g g2 w6 rfl hJ hg2.recs (by omega)) (fun r w7 hr => ?_)
    obtain ⟨rfl, hb⟩ := hr
    have hB := hB.step hB.size hb
    repeat' (first | refine T_assign rfl rfl ?_ | refine T_nil0 ?_ | refine E_ret1 rfl rfl ?_)
    exact ⟨rfl, hB⟩
  have hok : okL x l h := by
    apply Decidable.byContradiction
    intro hn
    apply h2
    unfold strF
    rw [if_neg hn]
    rfl
  obtain ⟨hokr, hl0, hlh, hhw⟩ := hok
  have hw1 := hokr.1
  have hn1 := hokr.2.1
  have hsF : strF x l h m = strL (badL x.ds l h m x.n) := by unfold strF; rw [if_pos ⟨hokr, hl0, hlh, hhw⟩]
  have et : turnF x = turnN x := by unfold turnF; rw [if_pos hokr]
  have e1 : strF (turnF x) l h m = backS x.n (strF x l h m) := by rw [et]; exact strF_turn hokr
  have hrng : ∀ s ∈ strF x l h m, 0 ≤ s.f ∧ s.f < s.t ∧ s.t ≤ x.n := fun s hs => by
    rw [hsF] at hs
    have := mem_strL.1 hs
    rw [badL_length] at this
    exact ⟨this.1, this.2.1, by have := this.2.2.1; omega⟩
  have hbl := backS_length x.n (strF x l h m)
  have hbg := fun k hk => backS_getD (n := x.n) (xs := strF x l h m) (k := k) hk
  have hll := turnF_len x
  have hsl2 := strF_len (x := turnF x) l h m
  clear hsF
  generalize strF x l h m = L at *
  have hx3 := hx3.later hE
  clear hE
  repeat (first | refine E_seq ?_ | refine E_region ?_ | refine E_skip ?_)
  refine T_lit0R (r := recS) tySt rfl (fun bv w6 hO _ hlt hb => ?_)
  have hC := hb
  clear hb
  repeat (first | refine T_move rfl rfl ?_ | refine T_assign rfl rfl ?_ | refine T_nil0 ?_ | refine E_seq ?_ | refine E_region ?_ | refine T_sub rfl rfl rfl (by omega) ?_ | refine T_len tySt rfl rfl (Recs.rlen (r := recS) (by assumption)) ?_)
  refine E_loop (σ := Nat × Value) (fun ⟨k, bv⟩ => [(3, bPtr b3 0), (4, .int .i64 l), (5, .int .i64 h), (6, .int .i64 m), (7, g), (8, bv), (9, .int .i64 ((L.length : Int) - 1 - k))])
    (fun ⟨k, bv⟩ w' => k ≤ L.length ∧ OwnR recS w' w5.heap.size 32 bv ((backS x.n L).take k) ∧ Below w5.heap.size w5 w') (fun ⟨k, _⟩ => L.length - k) (0, bv)
    ⟨by omega, hO, hC⟩ ⟨rfl, rfl, rfl, rfl, rfl, rfl, slotI rfl (by omega), trivial⟩ ?_
  clear hC hO
  rintro ⟨k, bv⟩ w7 ⟨hk, hO, hC⟩ IH
  repeat (first | refine T_move rfl rfl ?_ | refine T_nil0 ?_ | refine E_seq ?_ | refine E_region ?_ | refine T_cmp rfl rfl rfl rfl ?_)
  refine E_cond_if rfl (fun hp1 => ?_) (fun hp1 => ?_)
  case refine_2 =>
    have e : k = L.length := by omega
    subst e
    rw [← hbl, List.take_length] at hO
    have hI7 := hI.later hC
    have hB := hB.step hB.size hC
    repeat (first | refine E_seq ?_ | refine E_region ?_ | refine E_exit rfl ?_ | refine T_loadBoxAB aL sL rfl rfl (by assumption) (by assumption) (by rfl) ?_)
    refine T_call rfl rfl (TurnReel_spec x u w7 hI7) (fun r w8 hr => ?_)
    obtain ⟨u9, rfl, hO9, hb⟩ := hr
    have hB := hB.step hB.size hb
    have hO := hO.later hb
    repeat (first | refine T_move rfl rfl ?_)
    refine T_call rfl rfl (GoodStretches_spec (turnF x) u9 l h m w8 hO9.recs) (fun g9 w9 hr => ?_)
    obtain ⟨hg9, hb⟩ := hr
    have hB := hB.step hB.size hb
    have hO := hO.later hb
    repeat (first | refine T_move rfl rfl ?_)
    refine T_call rfl rfl (equalStretches_same _ _ g9 bv w9 e1 hg9.recs hO.recs (by omega)) (fun r w10 hr => ?_)
    obtain ⟨rfl, hb⟩ := hr
    have hB := hB.step hB.size hb
    repeat' (first | refine T_assign rfl rfl ?_ | refine T_nil0 ?_ | refine E_ret1 rfl rfl ?_)
    exact ⟨rfl, hB⟩
  have hkl : k < L.length := by omega
  have hi0 : ((L.length : Int) - 1 - k).toNat = L.length - 1 - k := by omega
  have hgk := hbg k hkl
  have hst := takeS (xs := backS x.n L) (z := sz0) (k := k) (by omega)
  rw [hgk] at hst
  have htl : ((backS x.n L).take k).length = k := by simp; omega
  have hs := hrng _ (getM (z := sz0) (show L.length - 1 - k < L.length by omega))
  rw [← hi0] at hs hst
  generalize (backS x.n L).take k = M at *
  repeat (first | refine E_seq ?_ | refine E_skip ?_ | refine E_blockR ?_)
  refine E_region_held 19 w7.drew follows (by kernel_rfl) ?_
  have hdr : Below w7.heap.size w7 w7.drew := (Below.refl _ _).drew
  have hO := hO.later hdr
  have hC := hC.step hC.size hdr
  generalize w7.drew = w7' at *
  have hS := Below.refl w7'.heap.size w7'
  refine X_run 0 18 (by kernel_rfl) hS ?_
  repeat (first | refine T_move rfl rfl ?_ | refine T_sub rfl rfl rfl (by omega) ?_ | refine T_fieldBoxF (fun _ _ => by kernel_rfl) rfl rfl ?_ | refine T_loadBoxB Try.isAgg3 rfl rfl (by assumption) (by assumption) (by rfl) ?_ | refine T_indexStI tySt rfl rfl rfl (by assumption) (by omega) ?_ | refine T_fieldSt (fun _ _ => by kernel_rfl) rfl rfl (by assumption) (by omega) ?_ | refine T_loadSt Try.isAgg3 rfl rfl (by assumption) (by assumption) (by omega) (by rfl) ?_)
  refine T_build rfl rfl (bSt _ _) ?_
  repeat (first | refine T_nil3 ?_)
  refine X_one 18 (by kernel_rfl) ?_
  refine T_lit1 (r := recS) (a := ⟨x.n - (L.getD ((L.length : Int) - 1 - k).toNat sz0).t, x.n - (L.getD ((L.length : Int) - 1 - k).toNat sz0).f⟩) tySt rfl rfl rfl (fun lv w8 hL _ _ hb => ?_)
  have hO := hO.later hb
  have hC := hC.step hC.size hb
  repeat (first | refine T_nil0 ?_)
  refine ⟨hb, ?_⟩
  refine X_tail (by kernel_rfl) ?_
  clear hS
  have hz8 := hC.size
  have hbo := hO.blk
  refine T_appendR (r := recS) tySt rfl rfl rfl hO hL.recs (by omega) (by simp; omega) (by simp; omega) (fun bv' w9 hO hg hor => ?_)
  have hC := hC.own hg hbo (Nat.le_refl _) hC.size
  rw [← hst] at hO
  repeat (first | refine T_move rfl rfl ?_ | refine T_assign rfl rfl ?_ | refine T_nil0 ?_ | refine E_region ?_ | refine T_sub rfl rfl rfl (by omega) ?_ | refine E_inBlock ?_)
  exact IH (k + 1, bv') w9 _ ⟨by omega, hO, hC⟩ (by show L.length - (k + 1) < L.length - k; omega) ⟨rfl, rfl, rfl, rfl, rfl, rfl, slotI rfl (by omega), trivial⟩
end Go.Proofs.Ytlflglcgpcnjdaa
