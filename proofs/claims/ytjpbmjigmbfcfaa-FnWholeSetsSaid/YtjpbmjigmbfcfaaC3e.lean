/-
  Contracts: the sum of patterns. Conditions: the arguments lie in memory as the contract says.
-/
import Derived.Test.YtjpbmjigmbfcfaaC3d
import Derived.Test.YtjpbmjigmbfcfaaLibS
namespace Go.PR
/-- the sums, place by place -/
def colN (L : List (List Int)) (i : Nat) : Int := (L.map (fun c => c.getD i 0)).sum
def colS (n : Nat) (L : List (List Int)) : List Int := (List.range n).map (colN L)
theorem colS_length (n : Nat) (L : List (List Int)) : (colS n L).length = n := by simp [colS]
theorem colS_getD {n i : Nat} (L : List (List Int)) (h : i < n) : (colS n L).getD i 0 = colN L i := by
  unfold colS
  rw [List.getD_eq_getElem?_getD]
  simp [h]
theorem colN_append (L M : List (List Int)) (i : Nat) : colN (L ++ M) i = colN L i + colN M i := by simp [colN]
theorem colN_snoc {L : List (List Int)} {r : Nat} (h : r < L.length) (i : Nat) : colN (L.take (r + 1)) i = colN (L.take r) i + (L.getD r []).getD i 0 := by
  rw [takeS_snoc h, colN_append]; simp [colN]
theorem colN_bound {L : List (List Int)} {B : Int} (hB : 0 ≤ B) (h : ∀ c ∈ L, ∀ x ∈ c, 0 ≤ x ∧ x ≤ B) (i : Nat) : 0 ≤ colN L i ∧ colN L i ≤ B * L.length := by
  induction L with
  | nil => simp [colN]
  | cons c r ih =>
    have h1 := ih (fun d hd => h d (by simp [hd]))
    have h2 : 0 ≤ c.getD i 0 ∧ c.getD i 0 ≤ B := by
      by_cases hi : i < c.length
      · exact h c (by simp) _ (getD_mem hi)
      · rw [List.getD_eq_getElem?_getD, List.getElem?_eq_none (by omega)]; simp; exact hB
    have e : B * ((c :: r).length : Int) = B * r.length + B := by rw [List.length_cons, Int.natCast_succ, Int.mul_add, Int.mul_one]
    simp only [colN, List.map_cons, List.sum_cons] at h1 ⊢
    omega
def okL (width : Int) (ws : List Int) (L : List (List Int)) : Prop := okW width ws ∧ L.length ≤ 60 ∧ ∀ r, r < L.length → okP width ws (L.getD r [])
instance (width : Int) (ws : List Int) (L : List (List Int)) : Decidable (okL width ws L) := by unfold okL; infer_instance
def wholeF (width : Int) (ws : List Int) (L : List (List Int)) : List Int := if okL width ws L then colS ws.length L else []
theorem wholeF_len (width : Int) (ws : List Int) (L : List (List Int)) : (wholeF width ws L).length ≤ ws.length := by
  unfold wholeF
  split
  · rw [colS_length]; omega
  · simp
theorem mem_getD {L : List (List Int)} {c : List Int} (h : c ∈ L) : ∃ r, r < L.length ∧ L.getD r [] = c := by
  obtain ⟨r, hr, rfl⟩ := List.getElem_of_mem h
  exact ⟨r, hr, by rw [List.getD_eq_getElem?_getD, List.getElem?_eq_getElem hr]; rfl⟩
theorem take_bound {width : Int} {ws : List Int} {L : List (List Int)} {r : Nat} (h : ∀ j, j < r → okP width ws (L.getD j [])) (hr : r ≤ L.length) (i : Nat) : 0 ≤ colN (L.take r) i ∧ colN (L.take r) i ≤ 60 * r := by
  by_cases h0 : r = 0
  · subst h0; simp [colN]
  · have hw := (h 0 (by omega)).1.1
    have := colN_bound (L := L.take r) (B := 60) (by omega) (fun c hc x hx => by
      obtain ⟨j, hj, rfl⟩ := mem_getD hc
      have hj' : j < r := by simp at hj; omega
      have e : (L.take r).getD j [] = L.getD j [] := by rw [List.getD_eq_getElem?_getD, List.getElem?_take, if_pos hj', ← List.getD_eq_getElem?_getD]
      rw [e] at hx
      have := (h j hj').count x hx
      omega) i
    rw [List.length_take, Nat.min_eq_left hr] at this
    exact this
end Go.PR
namespace Go.Proofs.Ytjpbmjigmbfcfaa
open Go Go.PR Go.RowKit attribute [local irreducible] T E Ints Sl Bools OwnI OwnB OwnR Recs Box Ret

theorem WholeSets_spec (v u : Value) (us : List Value) (width : Int) (ws : List Int) (L : List (List Int)) (w : World) (hI : Ints w.heap v ws) (hJ : Rws w.heap u us L) :
    Ret Try.prog 37 #[.int .i64 width, v, u] w (fun r w' => OwnI w' w.heap.size 3 r (wholeF width ws L) ∧ Below w.heap.size w w') := by
  have no : ¬ okL width ws L → wholeF width ws L = [] := fun h => by unfold wholeF; rw [if_neg h]
  refine Ret_of (args := [_, _, _]) Try.call37 Try.func37 rfl _ Try.ntmps37 rfl ?_
  repeat (first | refine T_move rfl rfl ?_ | refine T_assign rfl rfl ?_ | refine T_nil0 ?_ | refine E_seq ?_ | refine E_region ?_)
  refine T_call rfl rfl (ValidWidths_spec v width ws w hI) (fun r w1 hr => ?_)
  obtain ⟨rfl, rfl⟩ := hr
  repeat (first | refine T_move rfl rfl ?_ | refine T_not rfl rfl ?_)
  refine T_guard rfl rfl (fun g1 => ?_) (fun g1 => ?_)
  · repeat' (first | refine T_assign rfl rfl ?_ | refine T_nil0 ?_ | refine E_seq ?_ | refine E_region ?_ | refine T_off rfl rfl rfl ?_ | refine T_pick_true rfl rfl rfl ?_ | refine E_cond_true rfl ?_ | refine E_ret1 rfl rfl ?_)
    rw [no (fun h => g1 h.1)]
    exact ⟨OwnI.nil _ _ _, Below.refl _ _⟩
  have hok := Decidable.not_not.1 g1
  have hwl := hok.2.1
  repeat (first | refine T_move rfl rfl ?_ | refine T_nil0 ?_ | refine T_cmp rfl rfl rfl rfl ?_ | refine T_on rfl rfl ?_ | refine T_pick_false rfl rfl rfl ?_ | refine T_lenS tySS rfl rfl (by assumption) ?_)
  refine E_cond_if rfl (fun g2 => ?_) (fun g2 => ?_)
  · repeat' (first | refine T_assign rfl rfl ?_ | refine T_nil0 ?_ | refine E_seq ?_ | refine E_region ?_ | refine E_ret1 rfl rfl ?_)
    rw [no (fun h => by have := h.2.1; omega)]
    exact ⟨OwnI.nil _ _ _, Below.refl _ _⟩
  repeat (first | refine T_move rfl rfl ?_ | refine E_seq ?_ | refine E_region ?_ | refine E_skip ?_ | refine T_len tyI rfl rfl (Ints.len (by assumption)) ?_)
  refine T_makeI tyI rfl rfl rfl (by omega) (fun sv w2 hO _ hlt1 hB => ?_)
  simp only [Int.toNat_natCast] at hO
  have hI1 := hI.later hB
  have hJ1 := hJ.later hB
  repeat (first | refine T_move rfl rfl ?_ | refine T_assign rfl rfl ?_ | refine T_nil0 ?_ | refine E_seq ?_ | refine E_region ?_ | refine T_lenS tySS rfl rfl (by assumption) ?_)
  refine E_loop (σ := Nat) (fun r => [(0, .int .i64 width), (1, v), (7, sv), (24, u), (25, .int .i64 L.length), (26, .int .i64 r)])
    (fun r w' => r ≤ L.length ∧ (∀ j, j < r → okP width ws (L.getD j [])) ∧ OwnI w' w.heap.size 3 sv (colS ws.length (L.take r)) ∧ Below w.heap.size w w') (fun r => L.length - r) 0
    ⟨by omega, by omega, by have e : colS ws.length (L.take 0) = List.replicate ws.length 0 := eq_of_getD (by simp [colS]) (fun j hj => by rw [colS_length] at hj; rw [colS_getD _ hj, getD_replicate]; rfl)
                            rw [e]; exact hO, hB⟩ ⟨rfl, rfl, rfl, rfl, rfl, rfl, trivial⟩ ?_
  clear hO hB hI1 hJ1
  rintro r w3 ⟨hr, hall, hO, hB⟩ IH
  have hI1 := hI.later hB
  have hJ1 := hJ.later hB
  repeat (first | refine T_nil0 ?_ | refine E_seq ?_ | refine E_region ?_ | refine T_cmp rfl rfl rfl rfl ?_)
  refine E_cond_if rfl (fun hp1 => ?_) (fun hp1 => ?_)
  case refine_2 =>
    have hre : r = L.length := by omega
    subst hre
    rw [List.take_length] at hO
    have hF : wholeF width ws L = colS ws.length L := by unfold wholeF; rw [if_pos ⟨hok, by omega, hall⟩]
    repeat' (first | refine T_move rfl rfl ?_ | refine T_assign rfl rfl ?_ | refine T_nil0 ?_ | refine E_seq ?_ | refine E_region ?_ | refine E_exit rfl ?_ | refine E_ret1 rfl rfl ?_)
    exact ⟨by rw [hF]; exact hO, hB⟩
  have hrl : r < L.length := by omega
  have hrow := hJ1.row r hrl
  repeat (first | refine T_move rfl rfl ?_ | refine T_assign rfl rfl ?_ | refine T_nil0 ?_ | refine E_seq ?_ | refine E_region ?_ | refine E_skip ?_ | refine E_blockS ?_ | refine T_indexS tySS rfl rfl rfl (by assumption) (by omega) ?_ | refine T_loadRow Try.isAgg22 rfl rfl (by assumption) (by omega) ?_)
  refine T_call rfl rfl (ValidPattern_spec v _ width ws (L.getD r []) w3 hI1 hrow) (fun q w4 hq => ?_)
  obtain ⟨rfl, rfl⟩ := hq
  repeat (first | refine T_nil0 ?_ | refine T_not rfl rfl ?_)
  refine E_cond_if rfl (fun g3 => ?_) (fun g3 => ?_)
  · repeat' (first | refine T_assign rfl rfl ?_ | refine T_nil0 ?_ | refine E_seq ?_ | refine E_region ?_ | refine E_ret1 rfl rfl ?_)
    rw [no (fun h => g3 (h.2.2 r hrl))]
    exact ⟨OwnI.nil _ _ _, hB⟩
  have hokp := Decidable.not_not.1 g3
  have hcl := hokp.2.1
  have hb := take_bound hall hr
  repeat (first | refine T_move rfl rfl ?_ | refine T_nil0 ?_ | refine E_seq ?_ | refine E_region ?_ | refine E_skip ?_ | refine T_len tyI rfl rfl (Ints.len (by assumption)) ?_)
  refine E_loop (σ := Nat × List Int) (fun ⟨i, xs⟩ => [(0, .int .i64 width), (1, v), (7, sv), (24, u), (25, .int .i64 L.length), (26, .int .i64 r), (35, us.getD r nilV), (36, .int .i64 (L.getD r []).length), (37, .int .i64 i)])
    (fun ⟨i, xs⟩ w' => i ≤ ws.length ∧ xs.length = ws.length ∧ (∀ j, j < i → xs.getD j 0 = colN (L.take (r + 1)) j) ∧ (∀ j, i ≤ j → j < ws.length → xs.getD j 0 = colN (L.take r) j) ∧ OwnI w' w.heap.size 3 sv xs ∧ Below w.heap.size w w') (fun ⟨i, _⟩ => ws.length - i) (0, colS ws.length (L.take r))
    ⟨by omega, colS_length _ _, by omega, fun j _ hj => colS_getD _ hj, hO, hB⟩ ⟨rfl, rfl, rfl, rfl, rfl, rfl, rfl, rfl, rfl, trivial⟩ ?_
  clear hO hB hI1 hJ1 hrow
  rintro ⟨i, xs⟩ w5 ⟨hi, hxl, h1, h2, hO, hB⟩ IH2
  have hI1 := hI.later hB
  have hJ1 := hJ.later hB
  have hrow := hJ1.row r hrl
  have hOI := hO.ints
  repeat (first | refine T_nil0 ?_ | refine E_seq ?_ | refine E_region ?_ | refine T_cmp rfl rfl rfl rfl ?_)
  refine E_cond_if rfl (fun hp2 => ?_) (fun hp2 => ?_)
  case refine_2 =>
    have hx : xs = colS ws.length (L.take (r + 1)) := eq_of_getD (by rw [colS_length]; exact hxl) (fun j hj => by rw [h1 j (by omega), colS_getD _ (by omega)])
    rw [hx] at hO
    repeat (first | refine T_move rfl rfl ?_ | refine T_nil0 ?_ | refine E_region ?_ | refine T_add rfl rfl rfl (by omega) ?_ | refine E_inBlock ?_ | refine E_exit rfl ?_)
    refine IH (r + 1) w5 _ ⟨by omega, fun j hj => ?_, hO, hB⟩ (by omega) ⟨rfl, rfl, rfl, rfl, rfl, rfl, trivial⟩
    by_cases e : j = r
    · subst e; exact hokp
    · exact hall j (by omega)
  have hw1 := hok.1
  have hxi := h2 i (Nat.le_refl _) (by omega)
  have hbi := hb i
  have hci := hokp.count _ (getD_mem (xs := L.getD r []) (k := i) (by omega))
  have hsn := colN_snoc hrl i
  repeat (first | refine T_move rfl rfl ?_ | refine T_assign rfl rfl ?_ | refine T_nil0 ?_ | refine E_seq ?_ | refine E_region ?_ | refine T_add rfl rfl rfl (by omega) ?_ | refine E_skip ?_ | refine E_blockS ?_ | refine T_indexN tyI rfl rfl rfl (by assumption) (by omega) ?_ | refine T_loadI Try.isAgg3 rfl rfl (by assumption) (by omega) ?_)
  refine T_storeI Try.sizeOf3 rfl rfl hO (by omega) (fun w6 hO6 hg6 hs6 => ?_)
  have hB6 := hB.own hg6 hO.blk (Nat.le_refl _) hB.size
  repeat (first | refine T_move rfl rfl ?_ | refine T_nil0 ?_ | refine E_region ?_ | refine T_add rfl rfl rfl (by omega) ?_ | refine E_inBlock ?_)
  refine IH2 (i + 1, _) w6 _ ⟨by omega, by simpa using hxl, fun j hj => ?_, fun j hj hj2 => ?_, hO6, hB6⟩ (by show ws.length - (i + 1) < ws.length - i; omega) ⟨rfl, rfl, rfl, rfl, rfl, rfl, rfl, rfl, rfl, trivial⟩
  · rw [getD_set (by omega)]
    by_cases e : j = i
    · subst e; rw [if_pos rfl, hsn, hxi]
    · rw [if_neg e]; exact h1 j (by omega)
  · rw [getD_set (by omega), if_neg (by omega)]
    exact h2 j (by omega) hj2

theorem sWholeSets_spec (v u : Value) (us : List Value) (width : Int) (ws : List Int) (L : List (List Int)) (w : World) (hI : Ints w.heap v ws) (hJ : Rws w.heap u us L) (hl : ws.length ≤ 1048576) (hl2 : L.length ≤ 1048576) :
    Ret Try.prog 35 #[.int .i64 width, v, u] w (fun r w' => OwnI w' w.heap.size 3 r (wholeF width ws L) ∧ Below w.heap.size w w') := by
  have no : ¬ okL width ws L → wholeF width ws L = [] := fun h => by unfold wholeF; rw [if_neg h]
  refine Ret_of (args := [_, _, _]) Try.call35 Try.func35 rfl _ Try.ntmps35 rfl ?_
  repeat (first | refine T_move rfl rfl ?_ | refine T_assign rfl rfl ?_ | refine T_nil0 ?_ | refine E_seq ?_ | refine E_region ?_)
  refine T_call rfl rfl (validWidths_spec v width ws w hI hl) (fun r w1 hr => ?_)
  obtain ⟨rfl, hB⟩ := hr
  repeat (first | refine T_move rfl rfl ?_ | refine T_not rfl rfl ?_)
  refine T_guard rfl rfl (fun g1 => ?_) (fun g1 => ?_)
  · repeat' (first | refine T_assign rfl rfl ?_ | refine T_nil0 ?_ | refine E_seq ?_ | refine E_region ?_ | refine T_off rfl rfl rfl ?_ | refine T_pick_true rfl rfl rfl ?_ | refine E_cond_true rfl ?_ | refine E_ret1 rfl rfl ?_)
    rw [no (fun h => g1 h.1)]
    exact ⟨OwnI.nil _ _ _, hB⟩
  have hok := Decidable.not_not.1 g1
  have hwl := hok.2.1
  have hI1 := hI.later hB
  have hJ1 := hJ.later hB
  have hz0 := hB.size
  repeat (first | refine T_move rfl rfl ?_ | refine T_nil0 ?_ | refine T_cmp rfl rfl rfl rfl ?_ | refine T_on rfl rfl ?_ | refine T_pick_false rfl rfl rfl ?_ | refine T_lenS tySS rfl rfl (by assumption) ?_)
  refine E_cond_if rfl (fun g2 => ?_) (fun g2 => ?_)
  · repeat' (first | refine T_assign rfl rfl ?_ | refine T_nil0 ?_ | refine E_seq ?_ | refine E_region ?_ | refine E_ret1 rfl rfl ?_)
    rw [no (fun h => by have := h.2.1; omega)]
    exact ⟨OwnI.nil _ _ _, hB⟩
  repeat (first | refine T_move rfl rfl ?_ | refine E_seq ?_ | refine E_region ?_ | refine E_skip ?_ | refine T_len tyI rfl rfl (Ints.len (by assumption)) ?_)
  refine T_makeI tyI rfl rfl rfl (by omega) (fun sv w2 hO _ hlt1 hb => ?_)
  simp only [Int.toNat_natCast] at hO
  have hO := hO.base (B' := w.heap.size) (by omega)
  have hB := hB.step hB.size hb
  clear hI1 hJ1
  repeat (first | refine T_assign rfl rfl ?_ | refine T_nil0 ?_ | refine E_seq ?_ | refine E_region ?_)
  refine E_loop (σ := Nat) (fun r => [(0, .int .i64 width), (1, v), (2, u), (7, sv), (8, .int .i64 r)])
    (fun r w' => r ≤ L.length ∧ (∀ j, j < r → okP width ws (L.getD j [])) ∧ OwnI w' w.heap.size 3 sv (colS ws.length (L.take r)) ∧ Below w.heap.size w w') (fun r => L.length - r) 0
    ⟨by omega, by omega, by have e : colS ws.length (L.take 0) = List.replicate ws.length 0 := eq_of_getD (by simp [colS]) (fun j hj => by rw [colS_length] at hj; rw [colS_getD _ hj, getD_replicate]; rfl)
                            rw [e]; exact hO, hB⟩ ⟨rfl, rfl, rfl, rfl, rfl, trivial⟩ ?_
  clear hO hB
  rintro r w3 ⟨hr, hall, hO, hB⟩ IH
  have hI1 := hI.later hB
  have hJ1 := hJ.later hB
  repeat (first | refine T_move rfl rfl ?_ | refine T_nil0 ?_ | refine E_seq ?_ | refine E_region ?_ | refine T_cmp rfl rfl rfl rfl ?_ | refine T_lenS tySS rfl rfl (by assumption) ?_)
  refine E_cond_if rfl (fun hp1 => ?_) (fun hp1 => ?_)
  case refine_2 =>
    have hre : r = L.length := by omega
    subst hre
    rw [List.take_length] at hO
    have hF : wholeF width ws L = colS ws.length L := by unfold wholeF; rw [if_pos ⟨hok, by omega, hall⟩]
    repeat' (first | refine T_move rfl rfl ?_ | refine T_assign rfl rfl ?_ | refine T_nil0 ?_ | refine E_seq ?_ | refine E_region ?_ | refine E_exit rfl ?_ | refine E_ret1 rfl rfl ?_)
    exact ⟨by rw [hF]; exact hO, hB⟩
  have hrl : r < L.length := by omega
  have hrow := hJ1.row r hrl
  repeat (first | refine T_move rfl rfl ?_ | refine E_seq ?_ | refine E_region ?_ | refine E_skip ?_ | refine E_blockS ?_ | refine T_indexS tySS rfl rfl rfl (by assumption) (by omega) ?_ | refine T_loadRow Try.isAgg22 rfl rfl (by assumption) (by omega) ?_)
  refine T_call rfl rfl (validPattern_spec v _ width ws (L.getD r []) w3 hI1 hrow hl) (fun q w4 hq => ?_)
  obtain ⟨rfl, hb⟩ := hq
  have hB := hB.step hB.size hb
  have hO := hO.later hb
  repeat (first | refine T_nil0 ?_ | refine T_not rfl rfl ?_)
  refine E_cond_if rfl (fun g3 => ?_) (fun g3 => ?_)
  · repeat' (first | refine T_assign rfl rfl ?_ | refine T_nil0 ?_ | refine E_seq ?_ | refine E_region ?_ | refine E_ret1 rfl rfl ?_)
    rw [no (fun h => g3 (h.2.2 r hrl))]
    exact ⟨OwnI.nil _ _ _, hB⟩
  have hokp := Decidable.not_not.1 g3
  have hcl := hokp.2.1
  have hb := take_bound hall hr
  repeat (first | refine T_assign rfl rfl ?_ | refine T_nil0 ?_ | refine E_seq ?_ | refine E_region ?_ | refine E_skip ?_)
  refine E_loop (σ := Nat × List Int) (fun ⟨i, xs⟩ => [(0, .int .i64 width), (1, v), (2, u), (7, sv), (8, .int .i64 r), (9, .int .i64 i)])
    (fun ⟨i, xs⟩ w' => i ≤ ws.length ∧ xs.length = ws.length ∧ (∀ j, j < i → xs.getD j 0 = colN (L.take (r + 1)) j) ∧ (∀ j, i ≤ j → j < ws.length → xs.getD j 0 = colN (L.take r) j) ∧ OwnI w' w.heap.size 3 sv xs ∧ Below w.heap.size w w') (fun ⟨i, _⟩ => ws.length - i) (0, colS ws.length (L.take r))
    ⟨by omega, colS_length _ _, by omega, fun j _ hj => colS_getD _ hj, hO, hB⟩ ⟨rfl, rfl, rfl, rfl, rfl, rfl, trivial⟩ ?_
  clear hO hB hI1 hJ1 hrow
  rintro ⟨i, xs⟩ w5 ⟨hi, hxl, h1, h2, hO, hB⟩ IH2
  have hI1 := hI.later hB
  have hJ1 := hJ.later hB
  have hrow := hJ1.row r hrl
  have hOI := hO.ints
  repeat (first | refine T_move rfl rfl ?_ | refine T_nil0 ?_ | refine E_seq ?_ | refine E_region ?_ | refine T_cmp rfl rfl rfl rfl ?_ | refine T_len tyI rfl rfl (Ints.len (by assumption)) ?_)
  refine E_cond_if rfl (fun hp2 => ?_) (fun hp2 => ?_)
  case refine_2 =>
    have hx : xs = colS ws.length (L.take (r + 1)) := eq_of_getD (by rw [colS_length]; exact hxl) (fun j hj => by rw [h1 j (by omega), colS_getD _ (by omega)])
    rw [hx] at hO
    repeat (first | refine T_move rfl rfl ?_ | refine T_assign rfl rfl ?_ | refine T_nil0 ?_ | refine E_region ?_ | refine T_add rfl rfl rfl (by omega) ?_ | refine E_inBlock ?_ | refine E_exit rfl ?_)
    refine IH (r + 1) w5 _ ⟨by omega, fun j hj => ?_, hO, hB⟩ (by omega) ⟨rfl, rfl, rfl, rfl, rfl, trivial⟩
    by_cases e : j = r
    · subst e; exact hokp
    · exact hall j (by omega)
  have hw1 := hok.1
  have hxi := h2 i (Nat.le_refl _) (by omega)
  have hbi := hb i
  have hci := hokp.count _ (getD_mem (xs := L.getD r []) (k := i) (by omega))
  have hsn := colN_snoc hrl i
  repeat (first | refine E_seq ?_ | refine E_skip ?_ | refine E_blockR ?_)
  refine E_region_tail 15 follows (by kernel_rfl) ?_
  repeat (first | refine T_move rfl rfl ?_ | refine T_nil1 ?_ | refine T_add rfl rfl rfl (by omega) ?_ | refine T_indexN tyI rfl rfl rfl (by assumption) (by omega) ?_ | refine T_loadI Try.isAgg3 rfl rfl (by assumption) (by omega) ?_ | refine T_indexS tySS rfl rfl rfl (by assumption) (by omega) ?_ | refine T_loadRow Try.isAgg22 rfl rfl (by assumption) (by omega) ?_)
  have hdr : Below w5.heap.size w5 w5.drew := (Below.refl _ _).drew
  have hOd := hO.later hdr
  have hBd := hB.step hB.size hdr
  refine T_storeI Try.sizeOf3 rfl rfl hOd (by omega) (fun w6 hO6 hg6 hs6 => ?_)
  have hB6 := hBd.own hg6 hOd.blk (Nat.le_refl _) hBd.size
  repeat (first | refine T_move rfl rfl ?_ | refine T_assign rfl rfl ?_ | refine T_nil0 ?_ | refine E_region ?_ | refine T_add rfl rfl rfl (by omega) ?_ | refine E_inBlock ?_)
  refine IH2 (i + 1, _) w6 _ ⟨by omega, by simpa using hxl, fun j hj => ?_, fun j hj hj2 => ?_, hO6, hB6⟩ (by show ws.length - (i + 1) < ws.length - i; omega) ⟨rfl, rfl, rfl, rfl, rfl, rfl, trivial⟩
  · rw [getD_set (by omega)]
    by_cases e : j = i
    · subst e; rw [if_pos rfl, hsn, hxi]
    · rw [if_neg e]; exact h1 j (by omega)
  · rw [getD_set (by omega), if_neg (by omega)]
    exact h2 j (by omega) hj2
end Go.Proofs.Ytjpbmjigmbfcfaa
