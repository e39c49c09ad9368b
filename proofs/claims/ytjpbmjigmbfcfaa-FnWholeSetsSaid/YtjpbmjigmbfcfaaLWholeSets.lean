/-
  The walk of laws.FnWholeSets: it returns true, and writes nothing that was there. Conditions: the arguments lie in memory as the contract says.
-/
import Derived.Test.YtjpbmjigmbfcfaaC3e
import Derived.Test.YtjpbmjigmbfcfaaG3c
import Derived.Test.YtjpbmjigmbfcfaaRowY
namespace Go.PR
open Go Go.RowKit
theorem getD_takeS {α : Type} {xs : List α} {d : α} {i hi : Nat} (h : i < hi) : (xs.take hi).getD i d = xs.getD i d := by
  rw [List.getD_eq_getElem?_getD, List.getElem?_take, if_pos h, ← List.getD_eq_getElem?_getD]
theorem getD_dropS {α : Type} {xs : List α} {d : α} {i lo : Nat} : (xs.drop lo).getD i d = xs.getD (lo + i) d := by
  rw [List.getD_eq_getElem?_getD, List.getElem?_drop, ← List.getD_eq_getElem?_getD]
theorem Rws.cutHi {h : Array Obj} {v : Value} {vs : List Value} {xss : List (List Int)} (hs : Rws h v vs xss) {hi : Nat} (h2 : hi ≤ xss.length) : Rws h (subV v 0 hi 1) (vs.take hi) (xss.take hi) := by
  have hl := hs.len
  refine ⟨?_, by simp [hl], fun i hi' => ?_⟩
  · have := Sl.sub hs.sl (Nat.zero_le hi) (by omega : hi ≤ vs.length)
    simpa [show min hi vs.length = hi by omega] using this
  · have h3 : i < hi := by simp at hi'; omega
    rw [getD_takeS h3, getD_takeS h3]
    exact hs.row i (by omega)
theorem Rws.cutLo {h : Array Obj} {v : Value} {vs : List Value} {xss : List (List Int)} (hs : Rws h v vs xss) {lo : Nat} (h2 : lo ≤ xss.length) : Rws h (subV v lo xss.length 1) (vs.drop lo) (xss.drop lo) := by
  have hl := hs.len
  refine ⟨?_, by simp [hl], fun i hi' => ?_⟩
  · have := Sl.sub hs.sl (show lo ≤ xss.length from h2) (by omega : xss.length ≤ vs.length)
    rw [Nat.mul_one, Nat.mul_one, ← hl, List.take_length] at this
    rw [← hl]
    simpa using this
  · rw [getD_dropS, getD_dropS]
    exact hs.row _ (by simp at hi'; omega)
theorem okL_cut {width : Int} {ws : List Int} {L : List (List Int)} (h : okL width ws L) (k : Nat) : okL width ws (L.take k) ∧ okL width ws (L.drop k) := by
  obtain ⟨h1, h2, h3⟩ := h
  refine ⟨⟨h1, by simp; omega, fun r hr => ?_⟩, ⟨h1, by simp; omega, fun r hr => ?_⟩⟩
  · have h4 : r < k ∧ r < L.length := by simp at hr; omega
    rw [getD_takeS h4.1]; exact h3 r h4.2
  · rw [getD_dropS]; exact h3 _ (by simp at hr; omega)
end Go.PR
namespace Go.Proofs.Ytjpbmjigmbfcfaa
open Go Go.PR Go.RowKit attribute [local irreducible] T E Ints Sl Bools OwnI OwnB OwnR Recs Box Ret
attribute [local irreducible] Bytes

set_option maxHeartbeats 1000000 in
theorem FnWholeSets_walk (cv : Value) (cs : List Int) (w : World) (hY : Bytes w.heap cv cs ∧ ∀ c ∈ cs, 0 ≤ c ∧ c ≤ 255) :
    Ret Try.prog 12 #[cv] w (fun r w' => r = .bool true ∧ Below w.heap.size w w') := by
  obtain ⟨hY, hby⟩ := hY
  refine Ret_of (args := [_]) Try.call12 Try.func12 rfl _ Try.ntmps12 rfl ?_
  repeat (first | refine T_move rfl rfl ?_ | refine T_assign rfl rfl ?_ | refine T_nil0 ?_ | refine E_seq ?_ | refine E_region ?_)
  refine T_len tyY rfl rfl hY.len ?_
  repeat (first | refine T_nil0 ?_ | refine T_cmp rfl rfl rfl rfl ?_)
  refine E_cond_if rfl (fun hp => ?_) (fun hp => ?_)
  · repeat' (first | refine T_assign rfl rfl ?_ | refine T_nil0 ?_ | refine E_seq ?_ | refine E_region ?_ | refine E_ret1 rfl rfl ?_)
    exact ⟨rfl, Below.refl _ _⟩
  repeat (first | refine T_move rfl rfl ?_ | refine E_seq ?_ | refine E_region ?_ | refine E_skip ?_)
  refine T_call rfl rfl (DrawWholeSets_spec cv cs w hY hby) (fun r w1 hr => ?_)
  obtain ⟨width, v, u, ws, us, L, rfl, hO, hS, hwl, hLl, hB⟩ := hr
  have hI := hO.ints
  have hR := hS.rows
  have hll := wholeF_len width ws L
  clear hO hS
  repeat (first | refine T_move rfl rfl ?_ | refine T_assign rfl rfl ?_ | refine T_nil0 ?_ | refine E_seq ?_ | refine E_region ?_ | refine T_extract rfl rfl rfl ?_)
  refine T_call rfl rfl (WholeSets_spec v u us width ws L w1 hI hR) (fun g w2 hr => ?_)
  obtain ⟨hg, hb⟩ := hr
  have hg := hg.ints
  have hB := hB.step hB.size hb
  have hI := hI.later hb
  have hR := hR.later hb
  clear hb
  repeat (first | refine T_move rfl rfl ?_ | refine T_assign rfl rfl ?_ | refine T_nil0 ?_ | refine E_seq ?_ | refine E_region ?_)
  refine T_call rfl rfl (sWholeSets_spec v u us width ws L w2 hI hR (by omega) (by omega)) (fun s w3 hr => ?_)
  obtain ⟨hs, hb⟩ := hr
  have hB := hB.step hB.size hb
  have hI := hI.later hb
  have hR := hR.later hb
  have hg := hg.later hb
  clear hb
  skip
  refine T_call rfl rfl (equalInts_spec g s _ _ w3 hg hs.ints (by omega)) (fun r w4 hr => ?_)
  obtain ⟨rfl, hb⟩ := hr
  have hB := hB.step hB.size hb
  have hI := hI.later hb
  have hR := hR.later hb
  have hg := hg.later hb
  clear hb hs
  repeat (first | refine T_move rfl rfl ?_ | refine T_not rfl rfl ?_)
  refine T_guard rfl rfl (fun h1 => ?_) (fun h1 => ?_)
  · exact absurd rfl h1
  repeat (first | refine T_move rfl rfl ?_ | refine T_nil0 ?_ | refine T_cmp rfl rfl rfl rfl ?_ | refine T_on rfl rfl ?_ | refine T_pick_false rfl rfl rfl ?_ | refine T_len tyI rfl rfl (Ints.len (by assumption)) ?_)
  refine E_cond_if rfl (fun h2 => ?_) (fun h2 => ?_)
  · repeat (first | refine T_move rfl rfl ?_ | refine E_seq ?_ | refine E_region ?_)
    refine T_call rfl rfl (sWholeSets_spec v u us width ws L w4 hI hR (by omega) (by omega)) (fun s w5 hr => ?_)
    obtain ⟨hs, hb⟩ := hr
    have hB := hB.step hB.size hb
    have hg := hg.later hb
    skip
    refine T_call rfl rfl (equalInts_spec g s _ _ w5 hg hs.ints (by omega)) (fun r w6 hr => ?_)
    obtain ⟨rfl, hb⟩ := hr
    repeat' (first | refine T_assign rfl rfl ?_ | refine T_nil0 ?_ | refine E_ret1 rfl rfl ?_)
    exact ⟨by simp, hB.step hB.size hb⟩
  have hok : okL width ws L := by
    apply Decidable.byContradiction
    intro h
    apply h2
    unfold wholeF
    rw [if_neg h]
    rfl
  have hF : wholeF width ws L = colS ws.length L := by unfold wholeF; rw [if_pos hok]
  have hcut := okL_cut hok (L.length / 2)
  have hFa : wholeF width ws (L.take (L.length / 2)) = colS ws.length (L.take (L.length / 2)) := by unfold wholeF; rw [if_pos hcut.1]
  have hFb : wholeF width ws (L.drop (L.length / 2)) = colS ws.length (L.drop (L.length / 2)) := by unfold wholeF; rw [if_pos hcut.2]
  have hcl := colS_length ws.length L
  have hca := colS_length ws.length (L.take (L.length / 2))
  have hcb := colS_length ws.length (L.drop (L.length / 2))
  have hadd : ∀ i, i < ws.length → (colS ws.length (L.take (L.length / 2))).getD i 0 + (colS ws.length (L.drop (L.length / 2))).getD i 0 = (colS ws.length L).getD i 0 := fun i hi => by
    rw [colS_getD _ hi, colS_getD _ hi, colS_getD _ hi, ← colN_append, List.take_append_drop]
  have hbd : ∀ M, okL width ws M → ∀ i, i < ws.length → 0 ≤ (colS ws.length M).getD i 0 ∧ (colS ws.length M).getD i 0 ≤ 3600 := fun M hM i hi => by
    rw [colS_getD _ hi]
    have := take_bound (r := M.length) (fun j hj => hM.2.2 j hj) (Nat.le_refl _) i
    rw [List.take_length] at this
    have := hM.2.1
    omega
  have hba := hbd _ hcut.1
  have hbb := hbd _ hcut.2
  rw [hF] at hg
  clear h2 hF hbd hll
  have hk2 : ((L.length : Int) / 2) = ((L.length / 2 : Nat) : Int) := by omega
  repeat (first | refine T_move rfl rfl ?_ | refine E_seq ?_ | refine E_region ?_ | refine E_skip ?_ | refine T_lenS tySS rfl rfl (by assumption) ?_)
  refine T_quo rfl rfl rfl (by omega) ?_
  rw [hk2]
  have hhi := hR.cutHi (hi := L.length / 2) (by omega)
  have hlo := hR.cutLo (lo := L.length / 2) (by omega)
  have hul := hR.len
  repeat (first | refine T_move rfl rfl ?_ | refine T_assign rfl rfl ?_ | refine T_nil0 ?_ | refine E_seq ?_ | refine E_region ?_)
  refine T_sliceHi tySS rfl rfl rfl hR.sl (by omega) ?_
  rw [Int.toNat_natCast]
  skip
  refine T_call rfl rfl (WholeSets_spec v _ _ width ws (L.take (L.length / 2)) w4 hI hhi) (fun ga w5 hr => ?_)
  obtain ⟨ha, hb⟩ := hr
  rw [hFa] at ha
  have ha := ha.ints
  have hB := hB.step hB.size hb
  have hI := hI.later hb
  have hR := hR.later hb
  have hlo := hlo.later hb
  have hg := hg.later hb
  clear hb hhi
  repeat (first | refine T_move rfl rfl ?_ | refine T_assign rfl rfl ?_ | refine T_nil0 ?_ | refine E_seq ?_ | refine E_region ?_)
  refine T_sliceLo tySS rfl rfl rfl hR.sl (by omega) ?_
  rw [Int.toNat_natCast, hul]
  skip
  refine T_call rfl rfl (WholeSets_spec v _ _ width ws (L.drop (L.length / 2)) w5 hI hlo) (fun gb w6 hr => ?_)
  obtain ⟨hbb', hb⟩ := hr
  rw [hFb] at hbb'
  have hbI := hbb'.ints
  have hB := hB.step hB.size hb
  have hg := hg.later hb
  have ha := ha.later hb
  have hI := hI.later hb
  have hC := Below.refl w6.heap.size w6
  clear hb hlo hR hbb' hFa hFb
  generalize colS ws.length (L.take (L.length / 2)) = A at *
  generalize colS ws.length (L.drop (L.length / 2)) = D at *
  generalize colS ws.length L = S at *
  repeat (first | refine T_assign rfl rfl ?_ | refine T_nil0 ?_ | refine E_seq ?_ | refine E_region ?_)
  refine E_loop (σ := Nat) (fun i => [(4, v), (6, g), (8, ga), (9, gb), (10, .int .i64 (i : Int))])
    (fun i w' => i ≤ ws.length ∧ Below w6.heap.size w6 w') (fun i => ws.length - i) 0
    ⟨by omega, hC⟩ ⟨rfl, rfl, rfl, rfl, rfl, trivial⟩ ?_
  clear hC
  rintro i w7 ⟨hi, hC⟩ IH
  have hg7 := hg.later hC
  have ha7 := ha.later hC
  have hb7 := hbI.later hC
  have hI7 := hI.later hC
  repeat (first | refine T_move rfl rfl ?_ | refine T_nil0 ?_ | refine E_seq ?_ | refine E_region ?_ | refine T_cmp rfl rfl rfl rfl ?_ | refine T_len tyI rfl rfl (Ints.len (by assumption)) ?_)
  refine E_cond_if rfl (fun hp1 => ?_) (fun hp1 => ?_)
  case refine_2 =>
    repeat' (first | refine T_move rfl rfl ?_ | refine T_assign rfl rfl ?_ | refine T_nil0 ?_ | refine E_seq ?_ | refine E_region ?_ | refine T_cmp rfl rfl rfl rfl ?_ | refine E_exit rfl ?_ | refine T_len tyI rfl rfl (Ints.len (by assumption)) ?_ | refine E_ret1 rfl rfl ?_)
    exact ⟨by simp; omega, hB.step hB.size hC⟩
  have hil : i < ws.length := by omega
  have hai := hba i hil
  have hbi := hbb i hil
  have hdi := hadd i hil
  repeat (first | refine E_seq ?_ | refine E_skip ?_ | refine E_blockS ?_)
  refine E_region_still follows (by kernel_rfl) ?_
  repeat (first | refine T_move rfl rfl ?_ | refine T_nil1 ?_ | refine T_cmp rfl rfl rfl rfl ?_ | refine T_add rfl rfl rfl (by omega) ?_ | refine T_indexN tyI rfl rfl rfl (by assumption) (by omega) ?_ | refine T_loadI Try.isAgg3 rfl rfl (by assumption) (by omega) ?_)
  have hdr : Below w7.heap.size w7 w7.drew := (Below.refl _ _).drew
  refine E_cond_if rfl (fun h3 => ?_) (fun h3 => ?_)
  · exact absurd hdi h3
  repeat (first | refine T_move rfl rfl ?_ | refine T_assign rfl rfl ?_ | refine T_nil0 ?_ | refine E_region ?_ | refine T_add rfl rfl rfl (by omega) ?_ | refine E_skip ?_ | refine E_inBlock ?_)
  exact IH (i + 1) _ _ ⟨by omega, hC.step hC.size hdr⟩ (by omega) ⟨rfl, rfl, rfl, rfl, rfl, trivial⟩
end Go.Proofs.Ytjpbmjigmbfcfaa
