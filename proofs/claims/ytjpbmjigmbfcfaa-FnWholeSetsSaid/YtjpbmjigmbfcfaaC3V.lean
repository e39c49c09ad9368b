/-
  Contracts: the widest first, patterns filled with the widest first. Conditions: the arguments lie in memory as the contract says.
-/
import Derived.Test.YtjpbmjigmbfcfaaC3d
import Derived.Test.YtjpbmjigmbfcfaaLibS
namespace Go.PR
theorem sum_set {xs : List Int} {i : Nat} {y : Int} (h : i < xs.length) : (xs.set i y).sum = xs.sum - xs.getD i 0 + y := by
  induction xs generalizing i with
  | nil => simp at h
  | cons x r ih =>
    cases i with
    | zero => simp; omega
    | succ i =>
      have := ih (i := i) (by simpa using h)
      simp only [List.set_cons_succ, List.sum_cons, List.getD_cons_succ, this]
      omega
theorem sum_zero {xs : List Int} (h : ∀ j, j < xs.length → xs.getD j 0 = 0) : xs.sum = 0 := by
  induction xs with
  | nil => rfl
  | cons x r ih =>
    have h0 := h 0 (by simp)
    have h1 := ih (fun j hj => by
      have := h (j + 1) (by simpa using hj)
      simpa using this)
    simp at h0
    simp [h0, h1]
/-- an order of all places below n -/
def Perm (n : Nat) (K : List Int) : Prop := K.length = n ∧ (∀ y ∈ K, 0 ≤ y ∧ y < n) ∧ ∀ j : Nat, j < n → (j : Int) ∈ K
theorem Perm.put {n a : Nat} {K : List Int} (h : Perm n K) (ha : a ≤ n) : Perm (n + 1) (K.take a ++ [(n : Int)] ++ K.drop a) := by
  obtain ⟨h1, h2, h3⟩ := h
  refine ⟨by simp; omega, fun y hy => ?_, fun j hj => ?_⟩
  · simp only [List.append_assoc, List.singleton_append, List.mem_append, List.mem_cons] at hy
    rcases hy with hy | hy | hy
    · have := h2 y (List.mem_of_mem_take hy); omega
    · omega
    · have := h2 y (List.mem_of_mem_drop hy); omega
  · simp only [List.append_assoc, List.singleton_append, List.mem_append, List.mem_cons]
    by_cases e : j = n
    · subst e; exact .inr (.inl rfl)
    · have := h3 j (by omega)
      rw [← List.take_append_drop a K, List.mem_append] at this
      rcases this with h | h
      · exact .inl h
      · exact .inr (.inr h)
theorem Perm.at {n : Nat} {K : List Int} (h : Perm n K) {k : Nat} (hk : k < n) : 0 ≤ K.getD k 0 ∧ K.getD k 0 < n := h.2.1 _ (getD_mem (by rw [h.1]; exact hk))
theorem Perm.all {n : Nat} {K F : List Int} (h : Perm n K) (hz : ∀ q, q < n → F.getD (K.getD q 0).toNat 0 = 0) : ∀ j, j < n → F.getD j 0 = 0 := fun j hj => by
  obtain ⟨q, hq, e⟩ := List.getElem_of_mem (h.2.2 j hj)
  have h1 := hz q (by rw [← h.1]; exact hq)
  have e2 : K.getD q 0 = (j : Int) := by rw [List.getD_eq_getElem?_getD, List.getElem?_eq_getElem hq]; exact e
  rwa [e2, Int.toNat_natCast] at h1
theorem OwnSS.keptNe {w w' : World} {B : Nat} {eo ei : TypeId} {v : Value} {vs : List Value} {xss : List (List Int)} {row : Option Nat} (h : OwnSS w B eo ei v vs xss) (hg : w.grownBy w' row) (h1 : v.ownBlock = none ∨ v.ownBlock ≠ row) (h2 : ∀ i, i < xss.length → (vs.getD i nilV).ownBlock = none ∨ (vs.getD i nilV).ownBlock ≠ row) : OwnSS w' B eo ei v vs xss :=
  ⟨World.ownsRow.kept h.own hg h1, h.len, fun i hi => (h.row i hi).kept hg (h2 i hi), h.apart, h.outer⟩
end Go.PR
namespace Go.Proofs.Ytjpbmjigmbfcfaa
open Go Go.PR Go.RowKit attribute [local irreducible] T E Ints Sl Bools OwnI OwnB OwnR Recs Box Ret

set_option maxHeartbeats 1000000 in
theorem widest_spec (v : Value) (ws : List Int) (w : World) (hI : Ints w.heap v ws) (hl : ws.length ≤ 100) :
    Ret Try.prog 81 #[v] w (fun r w' => ∃ K, OwnI w' w.heap.size 3 r K ∧ Perm ws.length K ∧ Below w.heap.size w w') := by
  refine Ret_of (args := [_]) Try.call81 Try.func81 rfl _ Try.ntmps81 rfl ?_
  repeat (first | refine T_assign rfl rfl ?_ | refine T_nil0 ?_ | refine E_seq ?_ | refine E_region ?_)
  refine T_litI tyI rfl rfl rfl rfl (fun ov w1 hO _ _ hB => ?_)
  repeat (first | refine T_assign rfl rfl ?_ | refine T_nil0 ?_ | refine E_seq ?_ | refine E_region ?_)
  refine E_loop (σ := Nat × List Int × Value) (fun ⟨i, K, ov⟩ => [(0, v), (3, ov), (4, .int .i64 (i : Int))])
    (fun ⟨i, K, ov⟩ w' => i ≤ ws.length ∧ Perm i K ∧ OwnI w' w.heap.size 3 ov K ∧ Below w.heap.size w w') (fun ⟨i, _⟩ => ws.length - i) (0, [], ov)
    ⟨by omega, ⟨rfl, by simp, by omega⟩, hO, hB⟩ ⟨rfl, rfl, rfl, trivial⟩ ?_
  clear hO hB
  rintro ⟨i, K, ov⟩ w2 ⟨hi, hP, hO, hB⟩ IH
  have hI2 := hI.later hB
  have hKl := hP.1
  have hOI := hO.ints
  repeat (first | refine T_move rfl rfl ?_ | refine T_nil0 ?_ | refine E_seq ?_ | refine E_region ?_ | refine T_cmp rfl rfl rfl rfl ?_ | refine T_len tyI rfl rfl (Ints.len (by assumption)) ?_)
  refine E_cond_if rfl (fun hp => ?_) (fun hp => ?_)
  case refine_2 =>
    have e : i = ws.length := by omega
    subst e
    repeat' (first | refine T_move rfl rfl ?_ | refine T_assign rfl rfl ?_ | refine T_nil0 ?_ | refine E_seq ?_ | refine E_region ?_ | refine E_exit rfl ?_ | refine E_ret1 rfl rfl ?_)
    exact ⟨K, hO, hP, hB⟩
  have hil : i < ws.length := by omega
  have hC := Below.refl w2.heap.size w2
  repeat (first | refine T_move rfl rfl ?_ | refine T_assign rfl rfl ?_ | refine T_nil0 ?_ | refine E_seq ?_ | refine E_region ?_ | refine E_skip ?_ | refine E_blockS ?_ | refine T_len tyI rfl rfl (Ints.len (by assumption)) ?_)
  refine E_loop (σ := Nat) (fun a => [(0, v), (3, ov), (4, .int .i64 (i : Int)), (5, .int .i64 (a : Int))])
    (fun a w' => a ≤ i ∧ Below w2.heap.size w2 w') (fun a => a) i
    ⟨Nat.le_refl _, hC⟩ ⟨rfl, rfl, rfl, slotI rfl (by omega), trivial⟩ ?_
  clear hC
  rintro a w3 ⟨ha, hC⟩ IH2
  have hI3 := hI2.later hC
  have hO3 := hO.later hC
  have hOI3 := hOI.later hC
  have hB3 := hB.step hB.size hC
  repeat (first | refine E_seq ?_)
  refine E_region_still follows (by kernel_rfl) ?_
  have hdr : Below w3.heap.size w3 w3.drew := (Below.refl _ _).drew
  repeat (first | refine T_move rfl rfl ?_ | refine T_cmp rfl rfl rfl rfl ?_)
  refine T_guard rfl rfl (fun h1 => ?_) (fun h1 => ?_)
  case refine_2 =>
    repeat (first | refine T_move rfl rfl ?_ | refine T_nil1 ?_ | refine E_seq ?_ | refine E_region ?_ | refine T_off rfl rfl rfl ?_ | refine T_pick_false rfl rfl rfl ?_ | refine E_cond_false rfl ?_ | refine E_exit rfl ?_)
    have hI5 := hI3.later hdr
    have hO5 := hO3.later hdr
    have hB5 := hB3.step hB3.size hdr
    skip
    refine T_sliceLoI tyI rfl rfl rfl hOI3 (by omega) ?_
    rw [Int.toNat_natCast]
    have hdrop := hO5.ints.drop (lo := a) (by omega)
    skip
    refine T_call rfl rfl (copyInts_spec _ (K.drop a) w3.drew hdrop (by simp; omega)) (fun rv w5 hr => ?_)
    obtain ⟨hR, hb⟩ := hr
    have hcut := hO5.cut (hi := a) (by omega)
    have hcb := hcut.blk
    have hcut := hcut.later hb
    have hrb := hR.blk
    have hB5 := hB5.step hB5.size hb
    repeat (first | refine T_move rfl rfl ?_ | refine T_assign rfl rfl ?_ | refine T_nil0 ?_ | refine E_region ?_)
    refine T_sliceHiI tyI rfl rfl rfl hOI3 (by omega) ?_
    rw [Int.toNat_natCast]
    repeat (first | refine T_move rfl rfl ?_)
    refine T_litI tyI rfl rfl rfl rfl (fun tv w6 hT _ _ hb => ?_)
    have hcut := hcut.later hb
    have hR := hR.later hb
    have hB5 := hB5.step hB5.size hb
    have hz6 := hB5.size
    have htk : (K.take a).length = a := by simp; omega
    skip
    refine T_appendI tyI rfl rfl rfl hcut hT.ints (by omega) (by simp only [List.length_singleton, htk]; omega) (by simp only [List.length_singleton, htk]; omega) (fun av w7 hA hg hor => ?_)
    have hR := hR.kept hg (Blk.ne hrb hcb (.inr (Nat.le_refl _)))
    have hB5 := hB5.own hg hcb (Nat.le_refl _) hB5.size
    have hz7 := hB5.size
    have hab := hA.blk
    repeat (first | refine T_move rfl rfl ?_)
    refine T_appendI tyI rfl rfl rfl hA hR.ints (by omega) (by simp; omega) (by simp; omega) (fun av' w8 hA hg _ => ?_)
    have hB5 := hB5.own hg hab (Nat.le_refl _) hB5.size
    repeat (first | refine T_move rfl rfl ?_ | refine T_assign rfl rfl ?_ | refine T_nil0 ?_ | refine E_region ?_ | refine T_add rfl rfl rfl (by omega) ?_ | refine E_inBlock ?_)
    exact IH (i + 1, _, av') w8 _ ⟨by omega, hP.put (by omega), hA, hB5⟩ (by show ws.length - (i + 1) < ws.length - i; omega) ⟨rfl, rfl, rfl, trivial⟩
  have hy := hP.at (k := ((a : Int) - 1).toNat) (by omega)
  repeat (first | refine T_move rfl rfl ?_ | refine T_nil1 ?_ | refine T_cmp rfl rfl rfl rfl ?_ | refine T_on rfl rfl ?_ | refine T_sub rfl rfl rfl (by omega) ?_ | refine T_pick_true rfl rfl rfl ?_ | refine T_indexN tyI rfl rfl rfl (by assumption) (by omega) ?_ | refine T_indexI tyI rfl rfl rfl (by assumption) (by omega) ?_ | refine T_loadI Try.isAgg3 rfl rfl (by assumption) (by omega) ?_)
  refine E_cond_if rfl (fun h2 => ?_) (fun h2 => ?_)
  case refine_2 =>
    repeat (first | refine T_move rfl rfl ?_ | refine E_seq ?_ | refine E_region ?_ | refine E_exit rfl ?_)
    have hI5 := hI3.later hdr
    have hO5 := hO3.later hdr
    have hB5 := hB3.step hB3.size hdr
    skip
    refine T_sliceLoI tyI rfl rfl rfl hOI3 (by omega) ?_
    rw [Int.toNat_natCast]
    have hdrop := hO5.ints.drop (lo := a) (by omega)
    skip
    refine T_call rfl rfl (copyInts_spec _ (K.drop a) w3.drew hdrop (by simp; omega)) (fun rv w5 hr => ?_)
    obtain ⟨hR, hb⟩ := hr
    have hcut := hO5.cut (hi := a) (by omega)
    have hcb := hcut.blk
    have hcut := hcut.later hb
    have hrb := hR.blk
    have hB5 := hB5.step hB5.size hb
    repeat (first | refine T_move rfl rfl ?_ | refine T_assign rfl rfl ?_ | refine T_nil0 ?_ | refine E_region ?_)
    refine T_sliceHiI tyI rfl rfl rfl hOI3 (by omega) ?_
    rw [Int.toNat_natCast]
    repeat (first | refine T_move rfl rfl ?_)
    refine T_litI tyI rfl rfl rfl rfl (fun tv w6 hT _ _ hb => ?_)
    have hcut := hcut.later hb
    have hR := hR.later hb
    have hB5 := hB5.step hB5.size hb
    have hz6 := hB5.size
    have htk : (K.take a).length = a := by simp; omega
    skip
    refine T_appendI tyI rfl rfl rfl hcut hT.ints (by omega) (by simp only [List.length_singleton, htk]; omega) (by simp only [List.length_singleton, htk]; omega) (fun av w7 hA hg hor => ?_)
    have hR := hR.kept hg (Blk.ne hrb hcb (.inr (Nat.le_refl _)))
    have hB5 := hB5.own hg hcb (Nat.le_refl _) hB5.size
    have hz7 := hB5.size
    have hab := hA.blk
    repeat (first | refine T_move rfl rfl ?_)
    refine T_appendI tyI rfl rfl rfl hA hR.ints (by omega) (by simp; omega) (by simp; omega) (fun av' w8 hA hg _ => ?_)
    have hB5 := hB5.own hg hab (Nat.le_refl _) hB5.size
    repeat (first | refine T_move rfl rfl ?_ | refine T_assign rfl rfl ?_ | refine T_nil0 ?_ | refine E_region ?_ | refine T_add rfl rfl rfl (by omega) ?_ | refine E_inBlock ?_)
    exact IH (i + 1, _, av') w8 _ ⟨by omega, hP.put (by omega), hA, hB5⟩ (by show ws.length - (i + 1) < ws.length - i; omega) ⟨rfl, rfl, rfl, trivial⟩
  repeat (first | refine T_move rfl rfl ?_ | refine T_assign rfl rfl ?_ | refine T_nil0 ?_ | refine E_region ?_ | refine T_sub rfl rfl rfl (by omega) ?_ | refine E_skip ?_ | refine E_blockR ?_ | refine E_inBlock ?_)
  exact IH2 (a - 1) _ _ ⟨by omega, hC.step hC.size hdr⟩ (by omega) ⟨rfl, rfl, rfl, slotI rfl (by omega), trivial⟩
end Go.Proofs.Ytjpbmjigmbfcfaa
