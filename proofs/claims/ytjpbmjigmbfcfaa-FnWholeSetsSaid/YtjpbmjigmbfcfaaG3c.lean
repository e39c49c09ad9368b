/-
  Contracts: the draw of patterns. Conditions: the arguments lie in memory as the contract says.
-/
import Derived.Test.YtjpbmjigmbfcfaaG3
import Derived.Test.YtjpbmjigmbfcfaaC3W
namespace Go.PR
open Go Go.RowKit
theorem OwnSS.drewB {w0 w w' : World} {b : Nat} {cv : Value} {cs : List Int} {p q K : Int} {B : Nat} {eo ei : TypeId} {v : Value} {vs : List Value} {xss : List (List Int)} (h : OwnSS w B eo ei v vs xss) (hD : Drew w0 w w' b cv cs p q K) (hb : b < B) : OwnSS w' B eo ei v vs xss :=
  h.keptNe hD.grown (h.blk.1.ne_some (.inr hb)) (fun i _ => (h.blk.2 i).ne_some (.inr hb))
end Go.PR
namespace Go.Proofs.Ytjpbmjigmbfcfaa
open Go Go.PR Go.RowKit attribute [local irreducible] T E Ints Sl Bools OwnI OwnB OwnR Recs Box Ret
attribute [local irreducible] Bytes

theorem someGood_spec (w0 w : World) (b : Nat) (cv : Value) (cs : List Int) (p : Int) (v : Value) (ws : List Int) (hR : Rd w0 w b cv cs p) (hp : p ≤ 800000) (hI : Ints w.heap v ws) (hl : ws.length ≤ 6) :
    Ret Try.prog 73 #[bPtr b 0, v] w (fun r w' => ∃ ns q, OwnI w' w.heap.size 3 r ns ∧ ns.length = ws.length ∧ (∀ x ∈ ns, 0 ≤ x ∧ x ≤ 4) ∧ Drew w0 w w' b cv cs p q 10) := by
  have hG := GS.start hR
  have hp0 := hR.pos
  have hlt0 := hG.lt
  refine Ret_of (args := [_, _]) Try.call73 Try.func73 rfl _ Try.ntmps73 rfl ?_
  repeat (first | refine T_assign rfl rfl ?_ | refine T_nil0 ?_ | refine E_seq ?_ | refine E_region ?_)
  refine T_litI tyI rfl rfl rfl rfl (fun ov w1 hO _ _ hb => ?_)
  have hG := hG.later hb
  have hz1 := hb.size
  clear hb
  repeat (first | refine T_assign rfl rfl ?_ | refine T_nil0 ?_ | refine E_seq ?_ | refine E_region ?_)
  refine E_loop (σ := Nat × List Int × Value × Int) (fun ⟨k, ns, ov, q⟩ => [(0, bPtr b 0), (1, v), (5, ov), (6, .int .i64 (k : Int))])
    (fun ⟨k, ns, ov, q⟩ w' => k ≤ ws.length ∧ ns.length = k ∧ (∀ x ∈ ns, 0 ≤ x ∧ x ≤ 4) ∧ OwnI w' w.heap.size 3 ov ns ∧ GS w0 w w' b cv cs q ∧ q ≤ p + k ∧ w.heap.size ≤ w'.heap.size) (fun ⟨k, _⟩ => ws.length - k) (0, [], ov, p)
    ⟨by omega, rfl, by simp, hO, hG, by omega, hz1⟩ ⟨rfl, rfl, rfl, rfl, trivial⟩ ?_
  clear hO hG
  rintro ⟨k, ns, ov, q⟩ w2 ⟨hk, hnl, hns, hO, hG, hq, hz2⟩ IH
  have hq0 := hG.rd.pos
  repeat (first | refine T_move rfl rfl ?_ | refine T_nil0 ?_ | refine E_seq ?_ | refine E_region ?_ | refine T_cmp rfl rfl rfl rfl ?_ | refine T_len tyI rfl rfl (Ints.len (by assumption)) ?_)
  refine E_cond_if rfl (fun hp1 => ?_) (fun hp1 => ?_)
  case refine_2 =>
    repeat' (first | refine T_move rfl rfl ?_ | refine T_assign rfl rfl ?_ | refine T_nil0 ?_ | refine E_seq ?_ | refine E_region ?_ | refine E_exit rfl ?_ | refine E_ret1 rfl rfl ?_)
    exact ⟨ns, q, hO, by omega, hns, hG.out (by omega)⟩
  repeat (first | refine T_move rfl rfl ?_ | refine E_seq ?_ | refine E_region ?_ | refine E_skip ?_ | refine E_blockR ?_)
  refine T_call rfl rfl (pick_spec _ _ _ _ _ q 5 hG.rd (by omega)) (fun r w3 hr => ?_)
  obtain ⟨x, rfl, hxa, hxb, hxc, hD⟩ := hr
  have hx := hxb (by omega)
  have hG := hG.drew hD
  have hgz := hD.grown.size
  have hO := hO.drew hD hlt0
  clear hD
  skip
  refine T_litI tyI rfl rfl rfl rfl (fun tv w4 hT _ _ hb => ?_)
  have hG := hG.later hb
  have hO := hO.later hb
  have hob := hO.blk
  have hgb := hb.size
  skip
  refine T_appendI tyI rfl rfl rfl hO hT.ints (by omega) (by simp only [List.length_singleton]; omega) (by simp only [List.length_singleton]; omega) (fun ov' w5 hO hg _ => ?_)
  have hG := hG.own hg hob (Nat.le_refl _)
  have hgg := hg.size
  repeat (first | refine T_move rfl rfl ?_ | refine T_assign rfl rfl ?_ | refine T_nil0 ?_ | refine E_region ?_ | refine T_add rfl rfl rfl (by omega) ?_ | refine E_inBlock ?_)
  refine IH (k + 1, ns ++ [x], ov', q + 1) w5 _ ⟨by omega, by simp; omega, fun y hy => ?_, hO, hG, by omega, by omega⟩ (by show ws.length - (k + 1) < ws.length - k; omega) ⟨rfl, rfl, rfl, rfl, trivial⟩
  rcases List.mem_append.1 hy with h | h
  · exact hns y h
  · simp at h; omega

theorem DrawWholeSets_spec (cv : Value) (cs : List Int) (w : World) (hY : Bytes w.heap cv cs) (hb : ∀ c ∈ cs, 0 ≤ c ∧ c ≤ 255) :
    Ret Try.prog 46 #[cv] w (fun r w' => ∃ width ov lv ws rs L, r = .tuple #[.int .i64 width, ov, lv] ∧ OwnI w' w.heap.size 3 ov ws ∧ OwnSS w' w.heap.size 22 3 lv rs L ∧ ws.length ≤ 6 ∧ L.length ≤ 25 ∧ Below w.heap.size w w') := by
  refine Ret_of (args := [_]) Try.call46 Try.func46 rfl _ Try.ntmps46 rfl ?_
  repeat (first | refine T_move rfl rfl ?_ | refine T_assign rfl rfl ?_ | refine T_nil0 ?_ | refine E_seq ?_ | refine E_region ?_)
  refine T_call rfl rfl (newReader_spec cv cs w hY hb) (fun r w1 hr => ?_)
  obtain ⟨b, cv', cs', rfl, hR, hB1, hnew⟩ := hr
  have hz0 := hB1.size
  have hlt1 := hR.lt
  repeat (first | refine T_move rfl rfl ?_ | refine T_assign rfl rfl ?_ | refine T_nil0 ?_ | refine E_seq ?_ | refine E_region ?_)
  refine T_call rfl rfl (anyWidths_spec w w1 b cv' cs' 0 hR (by omega)) (fun r w2 hr => ?_)
  obtain ⟨width, ov, ws, q, rfl, hO, hdw, hD⟩ := hr
  have hq := hD.most
  have hG := (GS.start hR).drew hD
  have hwl := hdw.2.1
  have hq0 := hG.rd.pos
  have hz2 := hG.grown.size
  have hob := hO.blk
  clear hD hR
  repeat (first | refine T_move rfl rfl ?_ | refine T_assign rfl rfl ?_ | refine T_nil0 ?_ | refine E_seq ?_ | refine E_region ?_ | refine T_extract rfl rfl rfl ?_)
  refine T_lit0S 3 tySS rfl (fun lv w3 hL _ _ hb => ?_)
  have hne : ov.ownBlock = none ∨ ov.ownBlock ≠ lv.ownBlock := Blk.ne hob hL.blk.1 (.inl (Nat.le_refl _))
  have hG := hG.later hb
  have hO := hO.later hb
  have hz3 := hb.size
  have hOI := hO.ints
  clear hb
  repeat (first | refine T_move rfl rfl ?_ | refine T_assign rfl rfl ?_ | refine T_nil0 ?_ | refine E_seq ?_ | refine E_region ?_)
  refine T_call rfl rfl (validWidths_spec ov width ws w3 hOI (by omega)) (fun r w4 hr => ?_)
  obtain ⟨rfl, hb⟩ := hr
  have hG := hG.later hb
  have hO := hO.later hb
  have hL := hL.later hb
  have hOI := hO.ints
  have hz4 := hb.size
  clear hb
  repeat (first | refine T_nil0 ?_)
  refine E_cut (fun m' w' => ∃ lv rs L q2, Sub [(5, bPtr b 0), (6, .int .i64 width), (7, ov), (8, lv)] m' ∧ OwnI w' w1.heap.size 3 ov ws ∧ OwnSS w' w1.heap.size 22 3 lv rs L ∧ L.length ≤ 24 ∧ (ov.ownBlock = none ∨ ov.ownBlock ≠ lv.ownBlock) ∧ GS w w1 w' b cv' cs' q2 ∧ q2 ≤ 300000) (fun join => ?_) ?_
  case refine_2 =>
    rintro m' w5 ⟨lv, rs, L, q2, hsub, hO, hL, hLl, hne, hG, hq2⟩
    refine E.weaken hsub ?_
    have hq20 := hG.rd.pos
    have hz5 := hG.grown.size
    repeat (first | refine T_move rfl rfl ?_ | refine E_seq ?_ | refine E_region ?_)
    refine T_call rfl rfl (pick_spec _ _ _ _ _ q2 10 hG.rd (by omega)) (fun r w6 hr => ?_)
    obtain ⟨x, rfl, hxa, hxb, hxc, hD⟩ := hr
    have hG := hG.drew hD
    have hO := hO.drew hD hlt1
    have hL := hL.drewB hD hlt1
    have hz6 := hG.grown.size
    clear hD
    repeat (first | refine T_nil0 ?_ | refine T_cmp rfl rfl rfl rfl ?_)
    refine E_cond_if rfl (fun g1 => ?_) (fun g1 => ?_)
    case refine_2 =>
      repeat' (first | refine T_move rfl rfl ?_ | refine T_assign rfl rfl ?_ | refine T_nil0 ?_ | refine E_seq ?_ | refine E_region ?_ | refine E_skip ?_ | refine E_ret3 rfl rfl rfl rfl ?_)
      exact ⟨width, ov, lv, ws, rs, L, rfl, hO.base hz0, hL.base hz0, by omega, by omega, hG.rd.below⟩
    have hlb := hL.blk
    repeat (first | refine T_move rfl rfl ?_ | refine E_region ?_)
    refine T_litI tyI rfl rfl rfl rfl (fun rv w7 hV _ _ hb => ?_)
    have hG := hG.later hb
    have hO := hO.later hb
    have hL := hL.later hb
    have hz7 := hb.size
    refine T_litS tySS rfl rfl hV hb.size (fun tv w8 hT _ _ hb => ?_)
    have hG := hG.later hb
    have hO := hO.later hb
    have hL := hL.later hb
    have hz8 := hb.size
    refine T_appendSS tySS rfl rfl rfl hL hT hlb (by omega) (by omega) (by simp; omega) (by simp; omega) (fun lv' w9 hL hg _ => ?_)
    have hlow := hG.rd.below.own hg hlb.1 (by omega) (by have := hG.rd.below.size; omega)
    have hO := hO.kept hg hne
    repeat' (first | refine T_move rfl rfl ?_ | refine T_assign rfl rfl ?_ | refine T_nil0 ?_ | refine E_seq ?_ | refine E_region ?_ | refine E_ret3 rfl rfl rfl rfl ?_)
    exact ⟨width, ov, lv', ws, _, _, rfl, hO.base hz0, hL.base hz0, by omega, by simp; omega, hlow⟩
  refine E_cond_if rfl (fun g1 => ?_) (fun g1 => ?_)
  case refine_2 =>
    repeat (first | refine join _ _ ?_ | refine E_skip ?_)
    exact ⟨lv, [], [], q, ⟨rfl, rfl, rfl, rfl, trivial⟩, hO, hL.base (by omega), by simp, hne, hG, by omega⟩
  repeat (first | refine T_move rfl rfl ?_ | refine E_region ?_)
  refine T_call rfl rfl (someGood_spec w w4 b cv' cs' q ov ws hG.rd (by omega) hOI (by omega)) (fun nv w5 hr => ?_)
  obtain ⟨ns, q2, hN, hnl, hn4, hD⟩ := hr
  have hq2 := hD.most
  have hG := hG.drew hD
  have hO := hO.drew hD hlt1
  have hz5 := hD.grown.size
  clear hD
  skip
  refine T_call rfl rfl (greedy_spec ov nv width ws ns w5 hO.ints hN.ints g1 hnl hn4) (fun lv' w6 hr => ?_)
  obtain ⟨rs, L, hL', hLl, hb⟩ := hr
  have hG := hG.later hb
  have hO := hO.later hb
  repeat (first | refine join _ _ ?_ | refine T_assign rfl rfl ?_ | refine T_nil0 ?_)
  exact ⟨lv', rs, L, q2, ⟨rfl, rfl, rfl, rfl, trivial⟩, hO, hL'.base (by omega), hLl, Blk.ne hob hL'.blk.1 (.inl (by omega)), hG, by omega⟩
end Go.Proofs.Ytjpbmjigmbfcfaa
