/-
  Contracts: the draw of a reel and a part of it. Conditions: the arguments lie in memory as the contract says.
-/
import Derived.Test.YtlflglcgpcnjdaaG2
namespace Go.PR
open Go Go.RowKit
def mute (w : World) : World := { w with heap := #[] }
theorem mute_now (a w : World) (h1 : w.os = a.os) (h2 : w.tape = a.tape) (h3 : w.output = a.output) : Below (mute a).heap.size (mute a) w := ⟨h1, h2, h3, Nat.zero_le _, fun k hk => absurd hk (Nat.not_lt_zero _)⟩
theorem mute_grown {a w w' : World} {row : Option Nat} (h : Below (mute a).heap.size (mute a) w) (hg : w.grownBy w' row) : Below (mute a).heap.size (mute a) w' :=
  ⟨hg.os.trans h.os, hg.tape.trans h.tape, hg.output.trans h.output, Nat.zero_le _, fun k hk => absurd hk (Nat.not_lt_zero _)⟩
end Go.PR
namespace Go.Proofs.Ytlflglcgpcnjdaa
open Go Go.PR Go.RowKit attribute [local irreducible] T E Ints Sl Bools OwnI OwnB OwnR Recs Box Ret
attribute [local irreducible] Bytes X

set_option maxHeartbeats 8000000 in
theorem gpartOf_spec (w0 w : World) (b : Nat) (cv : Value) (cs : List Int) (p : Int) (hR : Rd w0 w b cv cs p) (hp : p ≤ 600000) :
    Ret Try.prog 43 #[bPtr b 0] w (fun r w' => ∃ x u t q, r = .tuple #[relV x u, .agg (recT.enc t).toArray] ∧ OwnR recD w' w.heap.size 72 u x.ds ∧ x.ds.length ≤ 6 ∧ Drew w0 w w' b cv cs p q 60) := by
  have hG := GS.start hR
  have hp0 := hR.pos
  have hlt0 := hG.lt
  refine Ret_of (args := [_]) Try.call43 Try.func43 rfl _ Try.ntmps43 rfl ?_
  repeat (first | refine E_seq ?_ | refine E_region ?_)
  refine T_alloc zL rfl (fun b2 w1 hn2 hx2 hb => ?_)
  have hG := hG.later hb
  have hz1 := hb.size
  have hl2 := hx2.lt
  skip
  refine T_alloc zT rfl (fun b3 w1' hn3 hx3 hb => ?_)
  have hG := hG.later hb
  have hx2 := hx2.later hb
  have hz1' := hb.size
  have hl3 := hx3.lt
  repeat (first | refine T_move rfl rfl ?_ | refine T_nil0 ?_ | refine E_seq ?_ | refine E_region ?_)
  refine T_call rfl rfl (anyReel_spec _ _ _ _ _ p hG.rd (by omega)) (fun r w2 hr => ?_)
  obtain ⟨x, u, q, rfl, hO, ⟨hdl, hW, hN⟩, hD⟩ := hr
  have hq := hD.most
  have hG := hG.drew hD
  have hx2 := hx2.drew hD (by omega)
  have hx3 := hx3.drew hD (by omega)
  have hq0 := hG.rd.pos
  have hz2 := hD.grown.size
  clear hD
  skip
  refine T_new (us := relC x u) zL sL rfl (fun _ => rfl) rfl rfl (relC_one hO.recs.rlen) (fun b4 w3 hn4 hx4 hb => ?_)
  have hG := hG.later hb
  have hx2 := hx2.later hb
  have hx3 := hx3.later hb
  have hO := hO.later hb
  have hl4 := hx4.lt
  have hz3 := hb.size
  have hRR := Below.refl w3.heap.size w3
  repeat (first | refine T_nil0 ?_ | refine E_seq ?_ | refine E_region ?_ | refine T_loadBoxAB aL sL rfl rfl (by assumption) (by assumption) (by rfl) ?_)
  refine T_call rfl rfl (svalidReel_spec x u w3 hO.recs (by omega)) (fun r w4 hr => ?_)
  obtain ⟨rfl, hb⟩ := hr
  have hG := hG.later hb
  have hx2 := hx2.later hb
  have hx3 := hx3.later hb
  have hx4 := hx4.later hb
  have hO := hO.later hb
  have hz4 := hb.size
  clear hRR
  have fin : ∀ (t : Prt) (w9 : World) (q9 : Int), OwnR recD w9 w1'.heap.size 72 u x.ds → GS w0 w w9 b cv cs q9 → q9 ≤ p + 60 → ∃ x' u' t' q', Value.tuple #[.agg (relC x u).toArray, .agg (recT.enc t).toArray] = .tuple #[relV x' u', .agg (recT.enc t').toArray] ∧ OwnR recD w9 w.heap.size 72 u' x'.ds ∧ x'.ds.length ≤ 6 ∧ Drew w0 w w9 b cv cs p q' 60 :=
    fun t w9 q9 hO hG hq9 => ⟨x, u, t, q9, rfl, hO.base (by omega), hdl, hG.out hq9⟩
  repeat (first | refine T_move rfl rfl ?_ | refine T_not rfl rfl ?_)
  refine T_guard rfl rfl (fun g1 => ?_) (fun g1 => ?_)
  · skip
    repeat (first | refine T_nil0 ?_ | refine E_seq ?_ | refine T_off rfl rfl rfl ?_ | refine T_pick_true rfl rfl rfl ?_ | refine E_cond_true rfl ?_)
    refine E_region_held 11 (mute w4) follows (by kernel_rfl) ?_
    have hdr : Below w4.heap.size w4 w4.drew := (Below.refl _ _).drew
    have hS : Below (mute w4).heap.size (mute w4) w4.drew := mute_now _ _ rfl rfl rfl
    have hG := hG.later hdr
    have hx2 := hx2.later hdr
    have hx3 := hx3.later hdr
    have hx4 := hx4.later hdr
    have hO := hO.later hdr
    have hzd : w4.drew.heap.size = w4.heap.size := rfl
    generalize w4.drew = w6 at *
    refine X_run 1 1 (by kernel_rfl) hS ?_
    repeat (first | refine T_move rfl rfl ?_ | refine T_nil3 ?_)
    refine X_run 3 1 (by kernel_rfl) hS ?_
    repeat (first | refine T_move rfl rfl ?_ | refine T_nil3 ?_)
    refine X_run 5 1 (by kernel_rfl) hS ?_
    repeat (first | refine T_move rfl rfl ?_ | refine T_nil3 ?_)
    refine X_run 7 1 (by kernel_rfl) hS ?_
    repeat (first | refine T_move rfl rfl ?_ | refine T_nil3 ?_)
    refine X_two 0 2 (by kernel_rfl) ?_ ?_
    · skip
      refine T_loadBoxA aL sL rfl rfl hx4 rfl ?_
      repeat (first | refine T_nil0 ?_)
      refine ⟨hS, ?_⟩
      refine X_one 2 (by kernel_rfl) ?_
      refine T_call rfl rfl (pick_spec _ _ _ _ _ (q) (3) hG.rd (by omega)) (fun r w70 hr => ?_); obtain ⟨y0, rfl, y0a, y0b, y0c, hD⟩ := hr; have hG := hG.drew hD; have hgz := hD.grown.size
      have hS := mute_grown hS hD.grown
      have hx2 := hx2.drew hD (by omega)
      have hx3 := hx3.drew hD (by omega)
      have hx4 := hx4.drew hD (by omega)
      have hO := hO.drew hD (by omega)
      clear hD
      repeat (first | refine T_nil0 ?_)
      refine ⟨hS, ?_⟩
      refine X_one 4 (by kernel_rfl) ?_
      refine T_call rfl rfl (pick_spec _ _ _ _ _ (q + 1) (30) hG.rd (by omega)) (fun r w71 hr => ?_); obtain ⟨y1, rfl, y1a, y1b, y1c, hD⟩ := hr; have hG := hG.drew hD; have hgz := hD.grown.size
      have hS := mute_grown hS hD.grown
      have hx2 := hx2.drew hD (by omega)
      have hx3 := hx3.drew hD (by omega)
      have hx4 := hx4.drew hD (by omega)
      have hO := hO.drew hD (by omega)
      clear hD
      repeat (first | refine T_nil0 ?_)
      refine ⟨hS, ?_⟩
      refine X_one 6 (by kernel_rfl) ?_
      refine T_call rfl rfl (pick_spec _ _ _ _ _ (q + 1 + 1) (3) hG.rd (by omega)) (fun r w72 hr => ?_); obtain ⟨y2, rfl, y2a, y2b, y2c, hD⟩ := hr; have hG := hG.drew hD; have hgz := hD.grown.size
      have hS := mute_grown hS hD.grown
      have hx2 := hx2.drew hD (by omega)
      have hx3 := hx3.drew hD (by omega)
      have hx4 := hx4.drew hD (by omega)
      have hO := hO.drew hD (by omega)
      clear hD
      repeat (first | refine T_nil0 ?_)
      refine ⟨hS, ?_⟩
      refine X_one 8 (by kernel_rfl) ?_
      refine T_call rfl rfl (pick_spec _ _ _ _ _ (q + 1 + 1 + 1) (60) hG.rd (by omega)) (fun r w73 hr => ?_); obtain ⟨y3, rfl, y3a, y3b, y3c, hD⟩ := hr; have hG := hG.drew hD; have hgz := hD.grown.size
      have hS := mute_grown hS hD.grown
      have hx2 := hx2.drew hD (by omega)
      have hx3 := hx3.drew hD (by omega)
      have hx4 := hx4.drew hD (by omega)
      have hO := hO.drew hD (by omega)
      clear hD
      repeat (first | refine T_nil0 ?_)
      refine ⟨hS, ?_⟩
      refine X_run 9 1 (by kernel_rfl) hS ?_
      refine T_build rfl rfl (bT _ _ _ _) ?_
      repeat (first | refine T_nil3 ?_)
      refine X_one 10 (by kernel_rfl) ?_
      refine T_storeBoxA (us := relC x u) sL rfl rfl rfl (relC_one hO.recs.rlen) hx2 rfl (fun w8 hx2 hg _ => ?_)
      have hS := mute_grown hS hg
      have hO := hO.kept hg (hO.blk.ne_some (.inr (by omega)))
      have hG := hG.box hg (by omega)
      have hx3 := hx3.kept hg (fun e => by simp at e; omega)
      have hz8 := hg.size
      repeat (first | refine T_nil0 ?_)
      refine ⟨hS, ?_⟩
      refine X_tail (by kernel_rfl) ?_
      skip
      refine T_storeBoxA (us := recT.enc ⟨y0, y1, y2, y3⟩) sT rfl rfl rfl (recT.one _) hx3 rfl (fun w9 hx3 hg _ => ?_)
      have hO := hO.kept hg (hO.blk.ne_some (.inr (by omega)))
      have hG := hG.box hg (by omega)
      have hx2 := hx2.kept hg (fun e => by simp at e; omega)
      repeat (first | refine T_nil0 ?_)
      exact E_retC2 rfl rfl rfl aL sL aT sT hx2 rfl hx3 rfl (fin _ _ _ hO hG (by omega))
    · skip
      refine T_call rfl rfl (pick_spec _ _ _ _ _ (q) (3) hG.rd (by omega)) (fun r w70 hr => ?_); obtain ⟨y0, rfl, y0a, y0b, y0c, hD⟩ := hr; have hG := hG.drew hD; have hgz := hD.grown.size
      have hS := mute_grown hS hD.grown
      have hx2 := hx2.drew hD (by omega)
      have hx3 := hx3.drew hD (by omega)
      have hx4 := hx4.drew hD (by omega)
      have hO := hO.drew hD (by omega)
      clear hD
      repeat (first | refine T_nil0 ?_)
      refine ⟨hS, ?_⟩
      refine X_two 0 4 (by kernel_rfl) ?_ ?_
      · skip
        refine T_loadBoxA aL sL rfl rfl hx4 rfl ?_
        repeat (first | refine T_nil0 ?_)
        refine ⟨hS, ?_⟩
        refine X_one 4 (by kernel_rfl) ?_
        refine T_call rfl rfl (pick_spec _ _ _ _ _ (q + 1) (30) hG.rd (by omega)) (fun r w71 hr => ?_); obtain ⟨y1, rfl, y1a, y1b, y1c, hD⟩ := hr; have hG := hG.drew hD; have hgz := hD.grown.size
        have hS := mute_grown hS hD.grown
        have hx2 := hx2.drew hD (by omega)
        have hx3 := hx3.drew hD (by omega)
        have hx4 := hx4.drew hD (by omega)
        have hO := hO.drew hD (by omega)
        clear hD
        repeat (first | refine T_nil0 ?_)
        refine ⟨hS, ?_⟩
        refine X_one 6 (by kernel_rfl) ?_
        refine T_call rfl rfl (pick_spec _ _ _ _ _ (q + 1 + 1) (3) hG.rd (by omega)) (fun r w72 hr => ?_); obtain ⟨y2, rfl, y2a, y2b, y2c, hD⟩ := hr; have hG := hG.drew hD; have hgz := hD.grown.size
        have hS := mute_grown hS hD.grown
        have hx2 := hx2.drew hD (by omega)
        have hx3 := hx3.drew hD (by omega)
        have hx4 := hx4.drew hD (by omega)
        have hO := hO.drew hD (by omega)
        clear hD
        repeat (first | refine T_nil0 ?_)
        refine ⟨hS, ?_⟩
        refine X_one 8 (by kernel_rfl) ?_
        refine T_call rfl rfl (pick_spec _ _ _ _ _ (q + 1 + 1 + 1) (60) hG.rd (by omega)) (fun r w73 hr => ?_); obtain ⟨y3, rfl, y3a, y3b, y3c, hD⟩ := hr; have hG := hG.drew hD; have hgz := hD.grown.size
        have hS := mute_grown hS hD.grown
        have hx2 := hx2.drew hD (by omega)
        have hx3 := hx3.drew hD (by omega)
        have hx4 := hx4.drew hD (by omega)
        have hO := hO.drew hD (by omega)
        clear hD
        repeat (first | refine T_nil0 ?_)
        refine ⟨hS, ?_⟩
        refine X_run 9 1 (by kernel_rfl) hS ?_
        refine T_build rfl rfl (bT _ _ _ _) ?_
        repeat (first | refine T_nil3 ?_)
        refine X_one 10 (by kernel_rfl) ?_
        refine T_storeBoxA (us := relC x u) sL rfl rfl rfl (relC_one hO.recs.rlen) hx2 rfl (fun w8 hx2 hg _ => ?_)
        have hS := mute_grown hS hg
        have hO := hO.kept hg (hO.blk.ne_some (.inr (by omega)))
        have hG := hG.box hg (by omega)
        have hx3 := hx3.kept hg (fun e => by simp at e; omega)
        have hz8 := hg.size
        repeat (first | refine T_nil0 ?_)
        refine ⟨hS, ?_⟩
        refine X_tail (by kernel_rfl) ?_
        skip
        refine T_storeBoxA (us := recT.enc ⟨y0, y1, y2, y3⟩) sT rfl rfl rfl (recT.one _) hx3 rfl (fun w9 hx3 hg _ => ?_)
        have hO := hO.kept hg (hO.blk.ne_some (.inr (by omega)))
        have hG := hG.box hg (by omega)
        have hx2 := hx2.kept hg (fun e => by simp at e; omega)
        repeat (first | refine T_nil0 ?_)
        exact E_retC2 rfl rfl rfl aL sL aT sT hx2 rfl hx3 rfl (fin _ _ _ hO hG (by omega))
      · skip
        refine T_call rfl rfl (pick_spec _ _ _ _ _ (q + 1) (30) hG.rd (by omega)) (fun r w71 hr => ?_); obtain ⟨y1, rfl, y1a, y1b, y1c, hD⟩ := hr; have hG := hG.drew hD; have hgz := hD.grown.size
        have hS := mute_grown hS hD.grown
        have hx2 := hx2.drew hD (by omega)
        have hx3 := hx3.drew hD (by omega)
        have hx4 := hx4.drew hD (by omega)
        have hO := hO.drew hD (by omega)
        clear hD
        repeat (first | refine T_nil0 ?_)
        refine ⟨hS, ?_⟩
        refine X_two 0 6 (by kernel_rfl) ?_ ?_
        · skip
          refine T_loadBoxA aL sL rfl rfl hx4 rfl ?_
          repeat (first | refine T_nil0 ?_)
          refine ⟨hS, ?_⟩
          refine X_one 6 (by kernel_rfl) ?_
          refine T_call rfl rfl (pick_spec _ _ _ _ _ (q + 1 + 1) (3) hG.rd (by omega)) (fun r w72 hr => ?_); obtain ⟨y2, rfl, y2a, y2b, y2c, hD⟩ := hr; have hG := hG.drew hD; have hgz := hD.grown.size
          have hS := mute_grown hS hD.grown
          have hx2 := hx2.drew hD (by omega)
          have hx3 := hx3.drew hD (by omega)
          have hx4 := hx4.drew hD (by omega)
          have hO := hO.drew hD (by omega)
          clear hD
          repeat (first | refine T_nil0 ?_)
          refine ⟨hS, ?_⟩
          refine X_one 8 (by kernel_rfl) ?_
          refine T_call rfl rfl (pick_spec _ _ _ _ _ (q + 1 + 1 + 1) (60) hG.rd (by omega)) (fun r w73 hr => ?_); obtain ⟨y3, rfl, y3a, y3b, y3c, hD⟩ := hr; have hG := hG.drew hD; have hgz := hD.grown.size
          have hS := mute_grown hS hD.grown
          have hx2 := hx2.drew hD (by omega)
          have hx3 := hx3.drew hD (by omega)
          have hx4 := hx4.drew hD (by omega)
          have hO := hO.drew hD (by omega)
          clear hD
          repeat (first | refine T_nil0 ?_)
          refine ⟨hS, ?_⟩
          refine X_run 9 1 (by kernel_rfl) hS ?_
          refine T_build rfl rfl (bT _ _ _ _) ?_
          repeat (first | refine T_nil3 ?_)
          refine X_one 10 (by kernel_rfl) ?_
          refine T_storeBoxA (us := relC x u) sL rfl rfl rfl (relC_one hO.recs.rlen) hx2 rfl (fun w8 hx2 hg _ => ?_)
          have hS := mute_grown hS hg
          have hO := hO.kept hg (hO.blk.ne_some (.inr (by omega)))
          have hG := hG.box hg (by omega)
          have hx3 := hx3.kept hg (fun e => by simp at e; omega)
          have hz8 := hg.size
          repeat (first | refine T_nil0 ?_)
          refine ⟨hS, ?_⟩
          refine X_tail (by kernel_rfl) ?_
          skip
          refine T_storeBoxA (us := recT.enc ⟨y0, y1, y2, y3⟩) sT rfl rfl rfl (recT.one _) hx3 rfl (fun w9 hx3 hg _ => ?_)
          have hO := hO.kept hg (hO.blk.ne_some (.inr (by omega)))
          have hG := hG.box hg (by omega)
          have hx2 := hx2.kept hg (fun e => by simp at e; omega)
          repeat (first | refine T_nil0 ?_)
          exact E_retC2 rfl rfl rfl aL sL aT sT hx2 rfl hx3 rfl (fin _ _ _ hO hG (by omega))
        · skip
          refine T_call rfl rfl (pick_spec _ _ _ _ _ (q + 1 + 1) (3) hG.rd (by omega)) (fun r w72 hr => ?_); obtain ⟨y2, rfl, y2a, y2b, y2c, hD⟩ := hr; have hG := hG.drew hD; have hgz := hD.grown.size
          have hS := mute_grown hS hD.grown
          have hx2 := hx2.drew hD (by omega)
          have hx3 := hx3.drew hD (by omega)
          have hx4 := hx4.drew hD (by omega)
          have hO := hO.drew hD (by omega)
          clear hD
          repeat (first | refine T_nil0 ?_)
          refine ⟨hS, ?_⟩
          refine X_two 0 8 (by kernel_rfl) ?_ ?_
          · skip
            refine T_loadBoxA aL sL rfl rfl hx4 rfl ?_
            repeat (first | refine T_nil0 ?_)
            refine ⟨hS, ?_⟩
            refine X_one 8 (by kernel_rfl) ?_
            refine T_call rfl rfl (pick_spec _ _ _ _ _ (q + 1 + 1 + 1) (60) hG.rd (by omega)) (fun r w73 hr => ?_); obtain ⟨y3, rfl, y3a, y3b, y3c, hD⟩ := hr; have hG := hG.drew hD; have hgz := hD.grown.size
            have hS := mute_grown hS hD.grown
            have hx2 := hx2.drew hD (by omega)
            have hx3 := hx3.drew hD (by omega)
            have hx4 := hx4.drew hD (by omega)
            have hO := hO.drew hD (by omega)
            clear hD
            repeat (first | refine T_nil0 ?_)
            refine ⟨hS, ?_⟩
            refine X_run 9 1 (by kernel_rfl) hS ?_
            refine T_build rfl rfl (bT _ _ _ _) ?_
            repeat (first | refine T_nil3 ?_)
            refine X_one 10 (by kernel_rfl) ?_
            refine T_storeBoxA (us := relC x u) sL rfl rfl rfl (relC_one hO.recs.rlen) hx2 rfl (fun w8 hx2 hg _ => ?_)
            have hS := mute_grown hS hg
            have hO := hO.kept hg (hO.blk.ne_some (.inr (by omega)))
            have hG := hG.box hg (by omega)
            have hx3 := hx3.kept hg (fun e => by simp at e; omega)
            have hz8 := hg.size
            repeat (first | refine T_nil0 ?_)
            refine ⟨hS, ?_⟩
            refine X_tail (by kernel_rfl) ?_
            skip
            refine T_storeBoxA (us := recT.enc ⟨y0, y1, y2, y3⟩) sT rfl rfl rfl (recT.one _) hx3 rfl (fun w9 hx3 hg _ => ?_)
            have hO := hO.kept hg (hO.blk.ne_some (.inr (by omega)))
            have hG := hG.box hg (by omega)
            have hx2 := hx2.kept hg (fun e => by simp at e; omega)
            repeat (first | refine T_nil0 ?_)
            exact E_retC2 rfl rfl rfl aL sL aT sT hx2 rfl hx3 rfl (fin _ _ _ hO hG (by omega))
          · skip
            refine T_call rfl rfl (pick_spec _ _ _ _ _ (q + 1 + 1 + 1) (60) hG.rd (by omega)) (fun r w73 hr => ?_); obtain ⟨y3, rfl, y3a, y3b, y3c, hD⟩ := hr; have hG := hG.drew hD; have hgz := hD.grown.size
            have hS := mute_grown hS hD.grown
            have hx2 := hx2.drew hD (by omega)
            have hx3 := hx3.drew hD (by omega)
            have hx4 := hx4.drew hD (by omega)
            have hO := hO.drew hD (by omega)
            clear hD
            repeat (first | refine T_nil0 ?_)
            refine ⟨hS, ?_⟩
            refine X_run 9 1 (by kernel_rfl) hS ?_
            refine T_build rfl rfl (bT _ _ _ _) ?_
            repeat (first | refine T_nil3 ?_)
            refine X_one 0 (by kernel_rfl) ?_
            refine T_loadBoxA aL sL rfl rfl hx4 rfl ?_
            repeat (first | refine T_nil0 ?_)
            refine ⟨hS, ?_⟩
            refine X_one 10 (by kernel_rfl) ?_
            refine T_storeBoxA (us := relC x u) sL rfl rfl rfl (relC_one hO.recs.rlen) hx2 rfl (fun w8 hx2 hg _ => ?_)
            have hS := mute_grown hS hg
            have hO := hO.kept hg (hO.blk.ne_some (.inr (by omega)))
            have hG := hG.box hg (by omega)
            have hx3 := hx3.kept hg (fun e => by simp at e; omega)
            have hz8 := hg.size
            repeat (first | refine T_nil0 ?_)
            refine ⟨hS, ?_⟩
            refine X_tail (by kernel_rfl) ?_
            skip
            refine T_storeBoxA (us := recT.enc ⟨y0, y1, y2, y3⟩) sT rfl rfl rfl (recT.one _) hx3 rfl (fun w9 hx3 hg _ => ?_)
            have hO := hO.kept hg (hO.blk.ne_some (.inr (by omega)))
            have hG := hG.box hg (by omega)
            have hx2 := hx2.kept hg (fun e => by simp at e; omega)
            repeat (first | refine T_nil0 ?_)
            exact E_retC2 rfl rfl rfl aL sL aT sT hx2 rfl hx3 rfl (fin _ _ _ hO hG (by omega))
  repeat (first | refine T_move rfl rfl ?_ | refine T_on rfl rfl ?_)
  refine T_call rfl rfl (pick_spec _ _ _ _ _ (q) (10) hG.rd (by omega)) (fun r w5 hr => ?_); obtain ⟨k, rfl, ka, kb, kc, hD⟩ := hr; have hG := hG.drew hD; have hgz := hD.grown.size
  have hx2 := hx2.drew hD (by omega)
  have hx3 := hx3.drew hD (by omega)
  have hx4 := hx4.drew hD (by omega)
  have hO := hO.drew hD (by omega)
  clear hD
  repeat (first | refine T_nil0 ?_ | refine T_cmp rfl rfl rfl rfl ?_ | refine T_on rfl rfl ?_ | refine T_pick_false rfl rfl rfl ?_)
  refine E_cond_if rfl (fun g2 => ?_) (fun g2 => ?_)
  · skip
    repeat (first | refine E_seq ?_)
    refine E_region_held 11 (mute w5) follows (by kernel_rfl) ?_
    have hdr : Below w5.heap.size w5 w5.drew := (Below.refl _ _).drew
    have hS : Below (mute w5).heap.size (mute w5) w5.drew := mute_now _ _ rfl rfl rfl
    have hG := hG.later hdr
    have hx2 := hx2.later hdr
    have hx3 := hx3.later hdr
    have hx4 := hx4.later hdr
    have hO := hO.later hdr
    have hzd : w5.drew.heap.size = w5.heap.size := rfl
    generalize w5.drew = w6 at *
    refine X_run 1 1 (by kernel_rfl) hS ?_
    repeat (first | refine T_move rfl rfl ?_ | refine T_nil3 ?_)
    refine X_run 3 1 (by kernel_rfl) hS ?_
    repeat (first | refine T_move rfl rfl ?_ | refine T_nil3 ?_)
    refine X_run 5 1 (by kernel_rfl) hS ?_
    repeat (first | refine T_move rfl rfl ?_ | refine T_nil3 ?_)
    refine X_run 7 1 (by kernel_rfl) hS ?_
    repeat (first | refine T_move rfl rfl ?_ | refine T_nil3 ?_)
    refine X_two 0 2 (by kernel_rfl) ?_ ?_
    · skip
      refine T_loadBoxA aL sL rfl rfl hx4 rfl ?_
      repeat (first | refine T_nil0 ?_)
      refine ⟨hS, ?_⟩
      refine X_one 2 (by kernel_rfl) ?_
      refine T_call rfl rfl (pick_spec _ _ _ _ _ (q + 1) (3) hG.rd (by omega)) (fun r w70 hr => ?_); obtain ⟨y0, rfl, y0a, y0b, y0c, hD⟩ := hr; have hG := hG.drew hD; have hgz := hD.grown.size
      have hS := mute_grown hS hD.grown
      have hx2 := hx2.drew hD (by omega)
      have hx3 := hx3.drew hD (by omega)
      have hx4 := hx4.drew hD (by omega)
      have hO := hO.drew hD (by omega)
      clear hD
      repeat (first | refine T_nil0 ?_)
      refine ⟨hS, ?_⟩
      refine X_one 4 (by kernel_rfl) ?_
      refine T_call rfl rfl (pick_spec _ _ _ _ _ (q + 1 + 1) (30) hG.rd (by omega)) (fun r w71 hr => ?_); obtain ⟨y1, rfl, y1a, y1b, y1c, hD⟩ := hr; have hG := hG.drew hD; have hgz := hD.grown.size
      have hS := mute_grown hS hD.grown
      have hx2 := hx2.drew hD (by omega)
      have hx3 := hx3.drew hD (by omega)
      have hx4 := hx4.drew hD (by omega)
      have hO := hO.drew hD (by omega)
      clear hD
      repeat (first | refine T_nil0 ?_)
      refine ⟨hS, ?_⟩
      refine X_one 6 (by kernel_rfl) ?_
      refine T_call rfl rfl (pick_spec _ _ _ _ _ (q + 1 + 1 + 1) (3) hG.rd (by omega)) (fun r w72 hr => ?_); obtain ⟨y2, rfl, y2a, y2b, y2c, hD⟩ := hr; have hG := hG.drew hD; have hgz := hD.grown.size
      have hS := mute_grown hS hD.grown
      have hx2 := hx2.drew hD (by omega)
      have hx3 := hx3.drew hD (by omega)
      have hx4 := hx4.drew hD (by omega)
      have hO := hO.drew hD (by omega)
      clear hD
      repeat (first | refine T_nil0 ?_)
      refine ⟨hS, ?_⟩
      refine X_one 8 (by kernel_rfl) ?_
      refine T_call rfl rfl (pick_spec _ _ _ _ _ (q + 1 + 1 + 1 + 1) (60) hG.rd (by omega)) (fun r w73 hr => ?_); obtain ⟨y3, rfl, y3a, y3b, y3c, hD⟩ := hr; have hG := hG.drew hD; have hgz := hD.grown.size
      have hS := mute_grown hS hD.grown
      have hx2 := hx2.drew hD (by omega)
      have hx3 := hx3.drew hD (by omega)
      have hx4 := hx4.drew hD (by omega)
      have hO := hO.drew hD (by omega)
      clear hD
      repeat (first | refine T_nil0 ?_)
      refine ⟨hS, ?_⟩
      refine X_run 9 1 (by kernel_rfl) hS ?_
      refine T_build rfl rfl (bT _ _ _ _) ?_
      repeat (first | refine T_nil3 ?_)
      refine X_one 10 (by kernel_rfl) ?_
      refine T_storeBoxA (us := relC x u) sL rfl rfl rfl (relC_one hO.recs.rlen) hx2 rfl (fun w8 hx2 hg _ => ?_)
      have hS := mute_grown hS hg
      have hO := hO.kept hg (hO.blk.ne_some (.inr (by omega)))
      have hG := hG.box hg (by omega)
      have hx3 := hx3.kept hg (fun e => by simp at e; omega)
      have hz8 := hg.size
      repeat (first | refine T_nil0 ?_)
      refine ⟨hS, ?_⟩
      refine X_tail (by kernel_rfl) ?_
      skip
      refine T_storeBoxA (us := recT.enc ⟨y0, y1, y2, y3⟩) sT rfl rfl rfl (recT.one _) hx3 rfl (fun w9 hx3 hg _ => ?_)
      have hO := hO.kept hg (hO.blk.ne_some (.inr (by omega)))
      have hG := hG.box hg (by omega)
      have hx2 := hx2.kept hg (fun e => by simp at e; omega)
      repeat (first | refine T_nil0 ?_)
      exact E_retC2 rfl rfl rfl aL sL aT sT hx2 rfl hx3 rfl (fin _ _ _ hO hG (by omega))
    · skip
      refine T_call rfl rfl (pick_spec _ _ _ _ _ (q + 1) (3) hG.rd (by omega)) (fun r w70 hr => ?_); obtain ⟨y0, rfl, y0a, y0b, y0c, hD⟩ := hr; have hG := hG.drew hD; have hgz := hD.grown.size
      have hS := mute_grown hS hD.grown
      have hx2 := hx2.drew hD (by omega)
      have hx3 := hx3.drew hD (by omega)
      have hx4 := hx4.drew hD (by omega)
      have hO := hO.drew hD (by omega)
      clear hD
      repeat (first | refine T_nil0 ?_)
      refine ⟨hS, ?_⟩
      refine X_two 0 4 (by kernel_rfl) ?_ ?_
      · skip
        refine T_loadBoxA aL sL rfl rfl hx4 rfl ?_
        repeat (first | refine T_nil0 ?_)
        refine ⟨hS, ?_⟩
        refine X_one 4 (by kernel_rfl) ?_
        refine T_call rfl rfl (pick_spec _ _ _ _ _ (q + 1 + 1) (30) hG.rd (by omega)) (fun r w71 hr => ?_); obtain ⟨y1, rfl, y1a, y1b, y1c, hD⟩ := hr; have hG := hG.drew hD; have hgz := hD.grown.size
        have hS := mute_grown hS hD.grown
        have hx2 := hx2.drew hD (by omega)
        have hx3 := hx3.drew hD (by omega)
        have hx4 := hx4.drew hD (by omega)
        have hO := hO.drew hD (by omega)
        clear hD
        repeat (first | refine T_nil0 ?_)
        refine ⟨hS, ?_⟩
        refine X_one 6 (by kernel_rfl) ?_
        refine T_call rfl rfl (pick_spec _ _ _ _ _ (q + 1 + 1 + 1) (3) hG.rd (by omega)) (fun r w72 hr => ?_); obtain ⟨y2, rfl, y2a, y2b, y2c, hD⟩ := hr; have hG := hG.drew hD; have hgz := hD.grown.size
        have hS := mute_grown hS hD.grown
        have hx2 := hx2.drew hD (by omega)
        have hx3 := hx3.drew hD (by omega)
        have hx4 := hx4.drew hD (by omega)
        have hO := hO.drew hD (by omega)
        clear hD
        repeat (first | refine T_nil0 ?_)
        refine ⟨hS, ?_⟩
        refine X_one 8 (by kernel_rfl) ?_
        refine T_call rfl rfl (pick_spec _ _ _ _ _ (q + 1 + 1 + 1 + 1) (60) hG.rd (by omega)) (fun r w73 hr => ?_); obtain ⟨y3, rfl, y3a, y3b, y3c, hD⟩ := hr; have hG := hG.drew hD; have hgz := hD.grown.size
        have hS := mute_grown hS hD.grown
        have hx2 := hx2.drew hD (by omega)
        have hx3 := hx3.drew hD (by omega)
        have hx4 := hx4.drew hD (by omega)
        have hO := hO.drew hD (by omega)
        clear hD
        repeat (first | refine T_nil0 ?_)
        refine ⟨hS, ?_⟩
        refine X_run 9 1 (by kernel_rfl) hS ?_
        refine T_build rfl rfl (bT _ _ _ _) ?_
        repeat (first | refine T_nil3 ?_)
        refine X_one 10 (by kernel_rfl) ?_
        refine T_storeBoxA (us := relC x u) sL rfl rfl rfl (relC_one hO.recs.rlen) hx2 rfl (fun w8 hx2 hg _ => ?_)
        have hS := mute_grown hS hg
        have hO := hO.kept hg (hO.blk.ne_some (.inr (by omega)))
        have hG := hG.box hg (by omega)
        have hx3 := hx3.kept hg (fun e => by simp at e; omega)
        have hz8 := hg.size
        repeat (first | refine T_nil0 ?_)
        refine ⟨hS, ?_⟩
        refine X_tail (by kernel_rfl) ?_
        skip
        refine T_storeBoxA (us := recT.enc ⟨y0, y1, y2, y3⟩) sT rfl rfl rfl (recT.one _) hx3 rfl (fun w9 hx3 hg _ => ?_)
        have hO := hO.kept hg (hO.blk.ne_some (.inr (by omega)))
        have hG := hG.box hg (by omega)
        have hx2 := hx2.kept hg (fun e => by simp at e; omega)
        repeat (first | refine T_nil0 ?_)
        exact E_retC2 rfl rfl rfl aL sL aT sT hx2 rfl hx3 rfl (fin _ _ _ hO hG (by omega))
      · skip
        refine T_call rfl rfl (pick_spec _ _ _ _ _ (q + 1 + 1) (30) hG.rd (by omega)) (fun r w71 hr => ?_); obtain ⟨y1, rfl, y1a, y1b, y1c, hD⟩ := hr; have hG := hG.drew hD; have hgz := hD.grown.size
        have hS := mute_grown hS hD.grown
        have hx2 := hx2.drew hD (by omega)
        have hx3 := hx3.drew hD (by omega)
        have hx4 := hx4.drew hD (by omega)
        have hO := hO.drew hD (by omega)
        clear hD
        repeat (first | refine T_nil0 ?_)
        refine ⟨hS, ?_⟩
        refine X_two 0 6 (by kernel_rfl) ?_ ?_
        · skip
          refine T_loadBoxA aL sL rfl rfl hx4 rfl ?_
          repeat (first | refine T_nil0 ?_)
          refine ⟨hS, ?_⟩
          refine X_one 6 (by kernel_rfl) ?_
          refine T_call rfl rfl (pick_spec _ _ _ _ _ (q + 1 + 1 + 1) (3) hG.rd (by omega)) (fun r w72 hr => ?_); obtain ⟨y2, rfl, y2a, y2b, y2c, hD⟩ := hr; have hG := hG.drew hD; have hgz := hD.grown.size
          have hS := mute_grown hS hD.grown
          have hx2 := hx2.drew hD (by omega)
          have hx3 := hx3.drew hD (by omega)
          have hx4 := hx4.drew hD (by omega)
          have hO := hO.drew hD (by omega)
          clear hD
          repeat (first | refine T_nil0 ?_)
          refine ⟨hS, ?_⟩
          refine X_one 8 (by kernel_rfl) ?_
          refine T_call rfl rfl (pick_spec _ _ _ _ _ (q + 1 + 1 + 1 + 1) (60) hG.rd (by omega)) (fun r w73 hr => ?_); obtain ⟨y3, rfl, y3a, y3b, y3c, hD⟩ := hr; have hG := hG.drew hD; have hgz := hD.grown.size
          have hS := mute_grown hS hD.grown
          have hx2 := hx2.drew hD (by omega)
          have hx3 := hx3.drew hD (by omega)
          have hx4 := hx4.drew hD (by omega)
          have hO := hO.drew hD (by omega)
          clear hD
          repeat (first | refine T_nil0 ?_)
          refine ⟨hS, ?_⟩
          refine X_run 9 1 (by kernel_rfl) hS ?_
          refine T_build rfl rfl (bT _ _ _ _) ?_
          repeat (first | refine T_nil3 ?_)
          refine X_one 10 (by kernel_rfl) ?_
          refine T_storeBoxA (us := relC x u) sL rfl rfl rfl (relC_one hO.recs.rlen) hx2 rfl (fun w8 hx2 hg _ => ?_)
          have hS := mute_grown hS hg
          have hO := hO.kept hg (hO.blk.ne_some (.inr (by omega)))
          have hG := hG.box hg (by omega)
          have hx3 := hx3.kept hg (fun e => by simp at e; omega)
          have hz8 := hg.size
          repeat (first | refine T_nil0 ?_)
          refine ⟨hS, ?_⟩
          refine X_tail (by kernel_rfl) ?_
          skip
          refine T_storeBoxA (us := recT.enc ⟨y0, y1, y2, y3⟩) sT rfl rfl rfl (recT.one _) hx3 rfl (fun w9 hx3 hg _ => ?_)
          have hO := hO.kept hg (hO.blk.ne_some (.inr (by omega)))
          have hG := hG.box hg (by omega)
          have hx2 := hx2.kept hg (fun e => by simp at e; omega)
          repeat (first | refine T_nil0 ?_)
          exact E_retC2 rfl rfl rfl aL sL aT sT hx2 rfl hx3 rfl (fin _ _ _ hO hG (by omega))
        · skip
          refine T_call rfl rfl (pick_spec _ _ _ _ _ (q + 1 + 1 + 1) (3) hG.rd (by omega)) (fun r w72 hr => ?_); obtain ⟨y2, rfl, y2a, y2b, y2c, hD⟩ := hr; have hG := hG.drew hD; have hgz := hD.grown.size
          have hS := mute_grown hS hD.grown
          have hx2 := hx2.drew hD (by omega)
          have hx3 := hx3.drew hD (by omega)
          have hx4 := hx4.drew hD (by omega)
          have hO := hO.drew hD (by omega)
          clear hD
          repeat (first | refine T_nil0 ?_)
          refine ⟨hS, ?_⟩
          refine X_two 0 8 (by kernel_rfl) ?_ ?_
          · skip
            refine T_loadBoxA aL sL rfl rfl hx4 rfl ?_
            repeat (first | refine T_nil0 ?_)
            refine ⟨hS, ?_⟩
            refine X_one 8 (by kernel_rfl) ?_
            refine T_call rfl rfl (pick_spec _ _ _ _ _ (q + 1 + 1 + 1 + 1) (60) hG.rd (by omega)) (fun r w73 hr => ?_); obtain ⟨y3, rfl, y3a, y3b, y3c, hD⟩ := hr; have hG := hG.drew hD; have hgz := hD.grown.size
            have hS := mute_grown hS hD.grown
            have hx2 := hx2.drew hD (by omega)
            have hx3 := hx3.drew hD (by omega)
            have hx4 := hx4.drew hD (by omega)
            have hO := hO.drew hD (by omega)
            clear hD
            repeat (first | refine T_nil0 ?_)
            refine ⟨hS, ?_⟩
            refine X_run 9 1 (by kernel_rfl) hS ?_
            refine T_build rfl rfl (bT _ _ _ _) ?_
            repeat (first | refine T_nil3 ?_)
            refine X_one 10 (by kernel_rfl) ?_
            refine T_storeBoxA (us := relC x u) sL rfl rfl rfl (relC_one hO.recs.rlen) hx2 rfl (fun w8 hx2 hg _ => ?_)
            have hS := mute_grown hS hg
            have hO := hO.kept hg (hO.blk.ne_some (.inr (by omega)))
            have hG := hG.box hg (by omega)
            have hx3 := hx3.kept hg (fun e => by simp at e; omega)
            have hz8 := hg.size
            repeat (first | refine T_nil0 ?_)
            refine ⟨hS, ?_⟩
            refine X_tail (by kernel_rfl) ?_
            skip
            refine T_storeBoxA (us := recT.enc ⟨y0, y1, y2, y3⟩) sT rfl rfl rfl (recT.one _) hx3 rfl (fun w9 hx3 hg _ => ?_)
            have hO := hO.kept hg (hO.blk.ne_some (.inr (by omega)))
            have hG := hG.box hg (by omega)
            have hx2 := hx2.kept hg (fun e => by simp at e; omega)
            repeat (first | refine T_nil0 ?_)
            exact E_retC2 rfl rfl rfl aL sL aT sT hx2 rfl hx3 rfl (fin _ _ _ hO hG (by omega))
          · skip
            refine T_call rfl rfl (pick_spec _ _ _ _ _ (q + 1 + 1 + 1 + 1) (60) hG.rd (by omega)) (fun r w73 hr => ?_); obtain ⟨y3, rfl, y3a, y3b, y3c, hD⟩ := hr; have hG := hG.drew hD; have hgz := hD.grown.size
            have hS := mute_grown hS hD.grown
            have hx2 := hx2.drew hD (by omega)
            have hx3 := hx3.drew hD (by omega)
            have hx4 := hx4.drew hD (by omega)
            have hO := hO.drew hD (by omega)
            clear hD
            repeat (first | refine T_nil0 ?_)
            refine ⟨hS, ?_⟩
            refine X_run 9 1 (by kernel_rfl) hS ?_
            refine T_build rfl rfl (bT _ _ _ _) ?_
            repeat (first | refine T_nil3 ?_)
            refine X_one 0 (by kernel_rfl) ?_
            refine T_loadBoxA aL sL rfl rfl hx4 rfl ?_
            repeat (first | refine T_nil0 ?_)
            refine ⟨hS, ?_⟩
            refine X_one 10 (by kernel_rfl) ?_
            refine T_storeBoxA (us := relC x u) sL rfl rfl rfl (relC_one hO.recs.rlen) hx2 rfl (fun w8 hx2 hg _ => ?_)
            have hS := mute_grown hS hg
            have hO := hO.kept hg (hO.blk.ne_some (.inr (by omega)))
            have hG := hG.box hg (by omega)
            have hx3 := hx3.kept hg (fun e => by simp at e; omega)
            have hz8 := hg.size
            repeat (first | refine T_nil0 ?_)
            refine ⟨hS, ?_⟩
            refine X_tail (by kernel_rfl) ?_
            skip
            refine T_storeBoxA (us := recT.enc ⟨y0, y1, y2, y3⟩) sT rfl rfl rfl (recT.one _) hx3 rfl (fun w9 hx3 hg _ => ?_)
            have hO := hO.kept hg (hO.blk.ne_some (.inr (by omega)))
            have hG := hG.box hg (by omega)
            have hx2 := hx2.kept hg (fun e => by simp at e; omega)
            repeat (first | refine T_nil0 ?_)
            exact E_retC2 rfl rfl rfl aL sL aT sT hx2 rfl hx3 rfl (fin _ _ _ hO hG (by omega))
  · skip
    repeat (first | refine E_seq ?_ | refine E_skip ?_)
    refine E_region_heldM 7 (b + 4) w5.drew follows (by kernel_rfl) ?_
    have hdr : Below w5.heap.size w5 w5.drew := (Below.refl _ _).drew
    have hG := hG.later hdr
    have hx2 := hx2.later hdr
    have hx3 := hx3.later hdr
    have hx4 := hx4.later hdr
    have hO := hO.later hdr
    have hzd : w5.drew.heap.size = w5.heap.size := rfl
    generalize w5.drew = w6 at *
    refine X_runM 0 6 (by kernel_rfl) (Stay.refl _ _ _) rfl ?_
    refine T_loadAgg4 aL sL rfl rfl hx4 rfl (by omega) ?_
    repeat (first | refine T_move rfl rfl ?_ | refine T_fieldBoxF (fun _ _ => by kernel_rfl) rfl rfl ?_)
    refine T_loadCell4 (v := .int .i64 x.w) Try.isAgg3 rfl rfl hx4 rfl (by omega) ?_
    repeat (first | refine T_fieldBoxF (fun _ _ => by kernel_rfl) rfl rfl ?_)
    refine T_loadCell4 (v := .int .i64 x.n) Try.isAgg3 rfl rfl hx4 rfl (by omega) ?_
    repeat (first | refine T_nil4 ?_)
    refine X_one 6 (by kernel_rfl) ?_
    refine T_call rfl rfl (somePart_spec _ _ _ _ _ (q + 1) x.w x.n hG.rd (by omega) (by omega) (by omega)) (fun r w7 hr => ?_)
    obtain ⟨t, q2, rfl, _, hD⟩ := hr
    have hq2 := hD.most
    have hst := Stay.of_box hD.grown
    have hz7 := hD.grown.size
    have hG := hG.drew hD
    have hx2 := hx2.drew hD (by omega)
    have hx3 := hx3.drew hD (by omega)
    have hO := hO.drew hD (by omega)
    repeat (first | refine T_nil0 ?_)
    refine ⟨hst, ?_⟩
    refine X_tail (by kernel_rfl) ?_
    skip
    refine T_storeBoxA (us := relC x u) sL rfl rfl rfl (relC_one hO.recs.rlen) hx2 rfl (fun w8 hx2 hg _ => ?_)
    have hO := hO.kept hg (hO.blk.ne_some (.inr (by omega)))
    have hG := hG.box hg (by omega)
    have hx3 := hx3.kept hg (fun e => by simp at e; omega)
    have hz8 := hg.size
    skip
    refine T_storeBoxA (us := recT.enc t) sT rfl rfl rfl (recT.one _) hx3 rfl (fun w9 hx3 hg _ => ?_)
    have hO := hO.kept hg (hO.blk.ne_some (.inr (by omega)))
    have hG := hG.box hg (by omega)
    have hx2 := hx2.kept hg (fun e => by simp at e; omega)
    repeat (first | refine T_nil0 ?_)
    exact E_retC2 rfl rfl rfl aL sL aT sT hx2 rfl hx3 rfl (fin _ _ _ hO hG (by omega))
end Go.Proofs.Ytlflglcgpcnjdaa
