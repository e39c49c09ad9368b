/-
  Contracts of the small functions on lists of lists of numbers. Conditions: the arguments lie in memory as the contract says.
-/
import Derived.Test.YtjpbmjigmbfcfaaLib
import Derived.Test.YtjpbmjigmbfcfaaMem5
namespace Go.PR
def totS (xss : List (List Int)) : Nat := (xss.map List.length).sum
theorem totS_take {xss : List (List Int)} {i : Nat} (h : i < xss.length) : totS (xss.take (i + 1)) = totS (xss.take i) + (xss.getD i []).length := by
  unfold totS
  rw [List.take_succ_eq_append_getElem h, List.getD_eq_getElem?_getD, List.getElem?_eq_getElem h]
  simp only [List.map_append, List.sum_append, List.map_cons, List.map_nil, List.sum_cons, List.sum_nil, Option.getD_some, Nat.add_zero]
theorem totS_le {xss : List (List Int)} (i : Nat) : totS (xss.take i) ≤ totS xss := by
  unfold totS
  conv => rhs; rw [← List.take_append_drop i xss]
  simp only [List.map_append, List.sum_append]
  omega
theorem totS_get {xss : List (List Int)} {i : Nat} (h : i < xss.length) : (xss.getD i []).length ≤ totS xss := by
  have h1 := totS_take h
  have h2 := totS_le (xss := xss) (i + 1)
  omega
/-- marks, row by row -/
def marksS (k : Int) : List (List Int) → List (List Int)
  | [] => []
  | xs :: r => marks k xs.length :: marksS (k + xs.length) r
theorem marksS_length : ∀ (xss : List (List Int)) (k : Int), (marksS k xss).length = xss.length
  | [], _ => rfl
  | xs :: r, k => by simp [marksS, marksS_length r]
theorem marksS_snoc : ∀ (xss : List (List Int)) (k : Int) (xs : List Int), marksS k (xss ++ [xs]) = marksS k xss ++ [marks (k + totS xss) xs.length]
  | [], k, xs => by simp [marksS, totS]
  | x :: r, k, xs => by
    have := marksS_snoc r (k + x.length) xs
    have e : k + (x.length : Int) + (totS r : Int) = k + (totS (x :: r) : Int) := by simp only [totS, List.map_cons, List.sum_cons, Int.natCast_add]; omega
    simp only [List.cons_append, marksS, this, e]
theorem marksS_getD : ∀ (xss : List (List Int)) (k : Int) (i : Nat), i < xss.length → (marksS k xss).getD i [] = marks (k + totS (xss.take i)) (xss.getD i []).length
  | [], k, i, h => by simp at h
  | x :: r, k, 0, h => by simp [marksS, totS]
  | x :: r, k, i + 1, h => by
    have := marksS_getD r (k + x.length) i (by simpa using h)
    have e : k + (x.length : Int) + (totS (r.take i) : Int) = k + (totS (x :: r.take i) : Int) := by simp only [totS, List.map_cons, List.sum_cons, Int.natCast_add]; omega
    simp only [marksS, List.getD_cons_succ, this, List.take_succ_cons, e]
theorem takeS_snoc {xss : List (List Int)} {k : Nat} (h : k < xss.length) : xss.take (k + 1) = xss.take k ++ [xss.getD k []] := by
  rw [List.take_succ_eq_append_getElem h, List.getD_eq_getElem?_getD, List.getElem?_eq_getElem h]; rfl
theorem dropS_cons {xss : List (List Int)} {k : Nat} (h : k < xss.length) : xss.drop k = xss.getD k [] :: xss.drop (k + 1) := by
  rw [List.drop_eq_getElem_cons h, List.getD_eq_getElem?_getD, List.getElem?_eq_getElem h]; rfl
theorem markS_step {xss : List (List Int)} {i : Nat} (k : Int) (h : i < xss.length) : (marksS k (xss.take i) ++ xss.drop i).set i (marks (k + totS (xss.take i)) (xss.getD i []).length) = marksS k (xss.take (i + 1)) ++ xss.drop (i + 1) := by
  have hl : (marksS k (xss.take i)).length = i := by rw [marksS_length]; simp; omega
  rw [takeS_snoc h, marksS_snoc, dropS_cons h, List.set_append_right _ _ (by omega), hl]
  simp
theorem markS_at {xss : List (List Int)} {i : Nat} (k : Int) (h : i < xss.length) : (marksS k (xss.take i) ++ xss.drop i).getD i [] = xss.getD i [] := by
  have hl : (marksS k (xss.take i)).length = i := by rw [marksS_length]; simp; omega
  rw [getD_append_right (by omega), hl, Nat.sub_self, dropS_cons h]; rfl
theorem copyS_step {xss : List (List Int)} {k : Nat} (h : k < xss.length) : (xss.take k ++ List.replicate (xss.length - k) []).set k (xss.getD k []) = xss.take (k + 1) ++ List.replicate (xss.length - (k + 1)) [] := by
  rw [takeS_snoc h, show xss.length - k = (xss.length - (k + 1)) + 1 by omega, List.replicate_succ]
  have hl : (xss.take k).length = k := by simp; omega
  rw [List.set_append_right _ _ (by omega), hl]
  simp
theorem eqS_of_getD {xs ys : List (List Int)} (hl : xs.length = ys.length) (h : ∀ j, j < xs.length → xs.getD j [] = ys.getD j []) : xs = ys := by
  apply List.ext_getElem hl
  intro i h1 h2
  have := h i h1
  rwa [List.getD_eq_getElem?_getD, List.getElem?_eq_getElem h1, List.getD_eq_getElem?_getD, List.getElem?_eq_getElem h2] at this
end Go.PR
namespace Go.Proofs.Ytjpbmjigmbfcfaa
open Go Go.PR Go.RowKit attribute [local irreducible] T E Ints Sl Bools OwnI OwnB OwnR Recs Box Ret

theorem tySS : STy Try.prog 36 22 1 24 (.slice none 0 0) := ⟨Try.underlying36, ⟨Try.t22, by kernel_rfl, rfl, rfl, rfl⟩, rfl, by decide⟩

theorem copyInts_spec (v : Value) (xs : List Int) (w : World) (hI : Ints w.heap v xs) (hl : xs.length ≤ 1048576) :
    Ret Try.prog 77 #[v] w (fun u w' => OwnI w' w.heap.size 3 u xs ∧ Below w.heap.size w w') := by
  refine Ret_of (args := [_]) Try.call77 Try.func77 rfl _ Try.ntmps77 rfl ?_
  repeat (first | refine T_assign rfl rfl ?_ | refine T_nil0 ?_ | refine E_seq ?_ | refine E_region ?_)
  refine T_litI tyI rfl rfl rfl rfl (fun ov w1 hO _ _ hB => ?_)
  repeat (first | refine T_move rfl rfl ?_)
  refine T_appendI tyI rfl rfl rfl hO (hI.later hB) hB.size (by simp; omega) (by simp; omega) (fun ov' w2 hO' hg _ => ?_)
  have hB2 := hB.own hg hO.blk (Nat.le_refl _) hB.size
  repeat' (first | refine T_assign rfl rfl ?_ | refine T_nil0 ?_ | refine E_ret1 rfl rfl ?_)
  exact ⟨by simpa using hO', hB2⟩

theorem Clone_spec (v : Value) (xs : List Int) (w : World) (hI : Ints w.heap v xs) (hl : xs.length ≤ 1048576) :
    Ret Try.prog 61 #[v] w (fun u w' => OwnI w' w.heap.size 3 u xs ∧ Below w.heap.size w w') := by
  have hI' := hI
  unfold Ints Sl at hI'
  obtain ⟨_, ao, cap, hv, _, hc⟩ := hI'
  refine Ret_of (args := [_]) Try.call61 Try.func61 rfl _ Try.ntmps61 rfl ?_
  repeat (first | refine T_move rfl rfl ?_ | refine T_assign rfl rfl ?_ | refine T_nil0 ?_ | refine E_seq ?_ | refine E_region ?_)
  refine T_eqNil Try.underlying22 rfl hv rfl ?_
  repeat (first | refine T_nil0 ?_)
  refine E_cond_bool rfl (fun hp => ?_) (fun hp => ?_)
  · have : xs = [] := by
      cases xs with
      | nil => rfl
      | cons x r =>
        obtain ⟨a, ha, _⟩ := hc 0 (.int .i64 x) (by simp)
        rw [ha] at hp
        cases hp
    subst this
    repeat' (first | refine T_assign rfl rfl ?_ | refine T_nil0 ?_ | refine E_seq ?_ | refine E_region ?_ | refine E_ret1 rfl rfl ?_)
    exact ⟨OwnI.nil _ _ _, Below.refl _ _⟩
  repeat (first | refine E_seq ?_ | refine E_region ?_ | refine E_skip ?_)
  refine T_litI tyI rfl rfl rfl rfl (fun ov w1 hO _ _ hB => ?_)
  repeat (first | refine T_move rfl rfl ?_)
  refine T_appendI tyI rfl rfl rfl hO (hI.later hB) hB.size (by simp; omega) (by simp; omega) (fun ov' w2 hO' hg _ => ?_)
  have hB2 := hB.own hg hO.blk (Nat.le_refl _) hB.size
  repeat' (first | refine T_assign rfl rfl ?_ | refine T_nil0 ?_ | refine E_ret1 rfl rfl ?_)
  exact ⟨by simpa using hO', hB2⟩

theorem toIntSS_spec (v : Value) (vs : List Value) (xss : List (List Int)) (w : World) (hI : Rws w.heap v vs xss) (hl : xss.length ≤ 1048576) (hl2 : ∀ i, i < xss.length → (xss.getD i []).length ≤ 1048576) :
    Ret Try.prog 36 #[v] w (fun u w' => ∃ us, OwnSS w' w.heap.size 22 3 u us xss ∧ Below w.heap.size w w') := by
  refine Ret_of (args := [_]) Try.call36 Try.func36 rfl _ Try.ntmps36 rfl ?_
  repeat (first | refine T_move rfl rfl ?_ | refine T_assign rfl rfl ?_ | refine T_nil0 ?_ | refine E_seq ?_ | refine E_region ?_)
  refine T_lenS tySS rfl rfl hI ?_
  refine T_makeSS 3 tySS rfl rfl rfl (by omega) (fun u w1 hO hb hlt hB => ?_)
  simp only [Int.toNat_natCast] at hO
  repeat (first | refine T_assign rfl rfl ?_ | refine T_nil0 ?_ | refine E_seq ?_ | refine E_region ?_)
  refine E_loop (σ := Nat × List Value) (fun ⟨k, us⟩ => [(0, v), (3, u), (4, .int .i64 k)]) (fun ⟨k, us⟩ w' => k ≤ xss.length ∧ OwnSS w' w.heap.size 22 3 u us (xss.take k ++ List.replicate (xss.length - k) []) ∧ Below w.heap.size w w') (fun ⟨k, _⟩ => xss.length - k) (0, _) ⟨by omega, by simpa using hO, hB⟩ ⟨rfl, rfl, rfl, trivial⟩ ?_
  clear hO hB
  rintro ⟨k, us⟩ w' ⟨hk, hO, hB⟩ IH
  have hI1 := hI.later hB
  repeat (first | refine T_move rfl rfl ?_ | refine E_seq ?_ | refine E_region ?_)
  refine T_lenS tySS rfl rfl hI1 ?_
  repeat (first | refine T_nil0 ?_ | refine T_cmp rfl rfl rfl rfl ?_)
  refine E_cond_if rfl (fun hp => ?_) (fun hp => ?_)
  · repeat (first | refine T_move rfl rfl ?_ | refine E_seq ?_ | refine E_region ?_ | refine E_skip ?_ | refine E_blockR ?_)
    refine T_indexS tySS rfl rfl rfl hI1 (by omega) ?_
    refine T_loadRow Try.isAgg22 rfl rfl hI1 (by omega) ?_
    refine T_call rfl rfl (toIntS_spec _ (xss.getD k []) w' (hI1.row k (by omega)) (hl2 k (by omega))) (fun r w2 hr => ?_)
    obtain ⟨hr, hb2⟩ := hr
    have hbs := hO.blk
    have hO2 := hO.later hb2
    have hz := hB.size
    refine T_indexS tySS rfl rfl rfl hO2.rows (by simp; omega) ?_
    refine T_storeRow Try.sizeOf22 rfl rfl hO2 hr hbs hz (by simp; omega) (fun w3 hO3 hg3 hs3 => ?_)
    rw [copyS_step (by omega)] at hO3
    have hB2 := hB.step hB.size hb2
    have hB3 := hB2.own hg3 hbs.1 (Nat.le_refl _) hB2.size
    repeat (first | refine T_move rfl rfl ?_ | refine T_assign rfl rfl ?_ | refine T_nil0 ?_ | refine E_region ?_ | refine T_add rfl rfl rfl (by omega) ?_ | refine E_inBlock ?_)
    exact IH (k + 1, _) w3 _ ⟨by omega, hO3, hB3⟩ (by show xss.length - (k + 1) < xss.length - k; omega) ⟨rfl, rfl, rfl, trivial⟩
  · repeat' (first | refine T_move rfl rfl ?_ | refine T_assign rfl rfl ?_ | refine T_nil0 ?_ | refine E_seq ?_ | refine E_region ?_ | refine E_exit rfl ?_ | refine E_ret1 rfl rfl ?_)
    have : k = xss.length := by omega
    subst this
    exact ⟨us, by simpa using hO, hB⟩

theorem eqIntSS_spec (v u : Value) (vs us : List Value) (xss yss : List (List Int)) (w : World) (hI : Rws w.heap v vs xss) (hJ : Rws w.heap u us yss) (hl : xss.length ≤ 1000000000000000) (hl2 : ∀ i, i < xss.length → (xss.getD i []).length ≤ 1000000000000000) :
    Ret Try.prog 28 #[v, u] w (fun r w' => r = .bool (decide (xss = yss)) ∧ Below w.heap.size w w') := by
  refine Ret_of (args := [_, _]) Try.call28 Try.func28 rfl _ Try.ntmps28 rfl ?_
  repeat (first | refine T_move rfl rfl ?_ | refine T_assign rfl rfl ?_ | refine T_nil0 ?_ | refine E_seq ?_ | refine E_region ?_)
  refine T_lenS tySS rfl rfl hI ?_
  repeat (first | refine T_move rfl rfl ?_)
  refine T_lenS tySS rfl rfl hJ ?_
  repeat (first | refine T_nil0 ?_ | refine T_cmp rfl rfl rfl rfl ?_)
  refine E_cond_if rfl (fun hp => ?_) (fun hp => ?_)
  · repeat' (first | refine T_assign rfl rfl ?_ | refine T_nil0 ?_ | refine E_seq ?_ | refine E_region ?_ | refine E_ret1 rfl rfl ?_)
    exact ⟨vb_f fun h => hp (by rw [h]), Below.refl _ _⟩
  repeat (first | refine T_assign rfl rfl ?_ | refine T_nil0 ?_ | refine E_seq ?_ | refine E_region ?_ | refine E_skip ?_)
  refine E_loop (σ := Nat) (fun k => [(0, v), (1, u), (5, .int .i64 k)]) (fun k w' => k ≤ xss.length ∧ (∀ j, j < k → xss.getD j [] = yss.getD j []) ∧ Below w.heap.size w w') (fun k => xss.length - k) 0 ⟨by omega, by omega, Below.refl _ _⟩ ⟨rfl, rfl, rfl, trivial⟩ ?_
  rintro k w' ⟨hk, hall, hB⟩ IH
  have hI := hI.later hB
  have hJ := hJ.later hB
  repeat (first | refine T_move rfl rfl ?_ | refine E_seq ?_ | refine E_region ?_)
  refine T_lenS tySS rfl rfl hI ?_
  repeat (first | refine T_nil0 ?_ | refine T_cmp rfl rfl rfl rfl ?_)
  refine E_cond_if rfl (fun hp => ?_) (fun hp => ?_)
  · repeat (first | refine E_seq ?_ | refine E_skip ?_ | refine E_blockS ?_)
    refine E_region_quiet follows (by kernel_rfl) ?_
    repeat (first | refine T_move rfl rfl ?_)
    refine T_indexS tySS rfl rfl rfl hI (by omega) ?_
    refine T_loadRow Try.isAgg22 rfl rfl hI (by omega) ?_
    repeat (first | refine T_move rfl rfl ?_)
    refine T_indexS tySS rfl rfl rfl hJ (by omega) ?_
    refine T_loadRow Try.isAgg22 rfl rfl hJ (by omega) ?_
    refine T_callQ rfl rfl (fun w9 hb9 => eqIntS_spec _ _ (xss.getD k []) (yss.getD k []) w9 (((hI.row k (by omega))).later hb9) (((hJ.row k (by omega))).later hb9) (by have := hl2 k (by omega); omega)) ?_
    repeat (first | refine T_not rfl rfl ?_)
    refine T_nil2 (fun w9 hB9 => ?_)
    have hB := hB.step hB.size hB9
    refine E_cond_if rfl (fun hq => ?_) (fun hq => ?_)
    · repeat' (first | refine T_assign rfl rfl ?_ | refine T_nil0 ?_ | refine E_seq ?_ | refine E_region ?_ | refine E_ret1 rfl rfl ?_)
      exact ⟨vb_f fun h => hq (by rw [h]), hB⟩
    · repeat (first | refine T_move rfl rfl ?_ | refine T_assign rfl rfl ?_ | refine T_nil0 ?_ | refine E_region ?_ | refine T_add rfl rfl rfl (by omega) ?_ | refine E_skip ?_ | refine E_inBlock ?_)
      refine IH (k + 1) _ _ ⟨by omega, ?_, hB⟩ (by omega) ⟨rfl, rfl, rfl, trivial⟩
      intro j hj
      by_cases e : j = k
      · subst e; exact Decidable.not_not.1 hq
      · exact hall j (by omega)
  · repeat' (first | refine T_assign rfl rfl ?_ | refine T_nil0 ?_ | refine E_seq ?_ | refine E_region ?_ | refine E_exit rfl ?_ | refine E_ret1 rfl rfl ?_)
    exact ⟨vb_t (eqS_of_getD (by omega) fun j hj => hall j (by omega)), hB⟩
theorem eqIntSS_yes (v u : Value) (vs us : List Value) (xss : List (List Int)) (w : World) (hI : Rws w.heap v vs xss) (hJ : Rws w.heap u us xss) (hl : xss.length ≤ 1000000000000000) (hl2 : ∀ i, i < xss.length → (xss.getD i []).length ≤ 1000000000000000) :
    Ret Try.prog 28 #[v, u] w (fun r w' => r = .bool true ∧ Below w.heap.size w w') :=
  (eqIntSS_spec v u vs us xss xss w hI hJ hl hl2).mono (fun r w' h => ⟨by rw [h.1]; simp, h.2⟩)

theorem equalLists_spec (v u : Value) (vs us : List Value) (xss yss : List (List Int)) (w : World) (hI : Rws w.heap v vs xss) (hJ : Rws w.heap u us yss) (hl : xss.length ≤ 1000000000000000) (hl2 : ∀ i, i < xss.length → (xss.getD i []).length ≤ 1000000000000000) :
    Ret Try.prog 39 #[v, u] w (fun r w' => r = .bool (decide (xss = yss)) ∧ Below w.heap.size w w') := by
  refine Ret_of (args := [_, _]) Try.call39 Try.func39 rfl _ Try.ntmps39 rfl ?_
  repeat (first | refine T_move rfl rfl ?_ | refine T_assign rfl rfl ?_ | refine T_nil0 ?_ | refine E_seq ?_ | refine E_region ?_)
  refine T_lenS tySS rfl rfl hI ?_
  repeat (first | refine T_move rfl rfl ?_)
  refine T_lenS tySS rfl rfl hJ ?_
  repeat (first | refine T_nil0 ?_ | refine T_cmp rfl rfl rfl rfl ?_)
  refine E_cond_if rfl (fun hp => ?_) (fun hp => ?_)
  · repeat' (first | refine T_assign rfl rfl ?_ | refine T_nil0 ?_ | refine E_seq ?_ | refine E_region ?_ | refine E_ret1 rfl rfl ?_)
    exact ⟨vb_f fun h => hp (by rw [h]), Below.refl _ _⟩
  repeat (first | refine T_assign rfl rfl ?_ | refine T_nil0 ?_ | refine E_seq ?_ | refine E_region ?_ | refine E_skip ?_)
  refine E_loop (σ := Nat) (fun k => [(0, v), (1, u), (5, .int .i64 k)]) (fun k w' => k ≤ xss.length ∧ (∀ j, j < k → xss.getD j [] = yss.getD j []) ∧ Below w.heap.size w w') (fun k => xss.length - k) 0 ⟨by omega, by omega, Below.refl _ _⟩ ⟨rfl, rfl, rfl, trivial⟩ ?_
  rintro k w' ⟨hk, hall, hB⟩ IH
  have hI := hI.later hB
  have hJ := hJ.later hB
  repeat (first | refine T_move rfl rfl ?_ | refine E_seq ?_ | refine E_region ?_)
  refine T_lenS tySS rfl rfl hI ?_
  repeat (first | refine T_nil0 ?_ | refine T_cmp rfl rfl rfl rfl ?_)
  refine E_cond_if rfl (fun hp => ?_) (fun hp => ?_)
  · repeat (first | refine E_seq ?_ | refine E_skip ?_ | refine E_blockS ?_)
    refine E_region_quiet follows (by kernel_rfl) ?_
    repeat (first | refine T_move rfl rfl ?_)
    refine T_indexS tySS rfl rfl rfl hI (by omega) ?_
    refine T_loadRow Try.isAgg22 rfl rfl hI (by omega) ?_
    repeat (first | refine T_move rfl rfl ?_)
    refine T_indexS tySS rfl rfl rfl hJ (by omega) ?_
    refine T_loadRow Try.isAgg22 rfl rfl hJ (by omega) ?_
    refine T_callQ rfl rfl (fun w9 hb9 => equalInts_spec _ _ (xss.getD k []) (yss.getD k []) w9 (((hI.row k (by omega))).later hb9) (((hJ.row k (by omega))).later hb9) (by have := hl2 k (by omega); omega)) ?_
    repeat (first | refine T_not rfl rfl ?_)
    refine T_nil2 (fun w9 hB9 => ?_)
    have hB := hB.step hB.size hB9
    refine E_cond_if rfl (fun hq => ?_) (fun hq => ?_)
    · repeat' (first | refine T_assign rfl rfl ?_ | refine T_nil0 ?_ | refine E_seq ?_ | refine E_region ?_ | refine E_ret1 rfl rfl ?_)
      exact ⟨vb_f fun h => hq (by rw [h]), hB⟩
    · repeat (first | refine T_move rfl rfl ?_ | refine T_assign rfl rfl ?_ | refine T_nil0 ?_ | refine E_region ?_ | refine T_add rfl rfl rfl (by omega) ?_ | refine E_skip ?_ | refine E_inBlock ?_)
      refine IH (k + 1) _ _ ⟨by omega, ?_, hB⟩ (by omega) ⟨rfl, rfl, rfl, trivial⟩
      intro j hj
      by_cases e : j = k
      · subst e; exact Decidable.not_not.1 hq
      · exact hall j (by omega)
  · repeat' (first | refine T_assign rfl rfl ?_ | refine T_nil0 ?_ | refine E_seq ?_ | refine E_region ?_ | refine E_exit rfl ?_ | refine E_ret1 rfl rfl ?_)
    exact ⟨vb_t (eqS_of_getD (by omega) fun j hj => hall j (by omega)), hB⟩
theorem equalLists_yes (v u : Value) (vs us : List Value) (xss : List (List Int)) (w : World) (hI : Rws w.heap v vs xss) (hJ : Rws w.heap u us xss) (hl : xss.length ≤ 1000000000000000) (hl2 : ∀ i, i < xss.length → (xss.getD i []).length ≤ 1000000000000000) :
    Ret Try.prog 39 #[v, u] w (fun r w' => r = .bool true ∧ Below w.heap.size w w') :=
  (equalLists_spec v u vs us xss xss w hI hJ hl hl2).mono (fun r w' h => ⟨by rw [h.1]; simp, h.2⟩)

theorem markIntSS_spec (v : Value) (vs : List Value) (xss : List (List Int)) (i : Int) (w : World) (B lo hi : Nat) (hO : OwnSS w B 22 3 v vs xss) (hb : BlkS v vs lo hi) (hl : xss.length ≤ 1000000000000000) (hl2 : totS xss ≤ 500000000000000) (hk0 : 0 ≤ i ∧ i ≤ 500000000000000) :
    Ret Try.prog 29 #[v, .int .i64 i] w (fun u w' => u = .int .i64 (i + totS xss) ∧ OwnSS w' B 22 3 v vs (marksS i xss) ∧ Stay lo hi w w' ∧ w'.heap.size = w.heap.size) := by
  refine Ret_of (args := [_, _]) Try.call29 Try.func29 rfl _ Try.ntmps29 rfl ?_
  repeat (first | refine T_assign rfl rfl ?_ | refine T_nil0 ?_ | refine E_seq ?_ | refine E_region ?_)
  refine E_loop (σ := Nat) (fun k => [(0, v), (1, .int .i64 (i + totS (xss.take k))), (5, .int .i64 k)]) (fun k w' => k ≤ xss.length ∧ OwnSS w' B 22 3 v vs (marksS i (xss.take k) ++ xss.drop k) ∧ Stay lo hi w w' ∧ w'.heap.size = w.heap.size) (fun k => xss.length - k) 0
    ⟨by omega, by simpa [marksS] using hO, Stay.refl _ _ _, rfl⟩ ⟨rfl, slotI rfl (by simp [totS]), rfl, trivial⟩ ?_
  clear hO
  rintro k w' ⟨hk, hO, hg, hs⟩ IH
  have hI := hO.rows
  have hlen : (marksS i (xss.take k) ++ xss.drop k).length = xss.length := by simp [marksS_length]; omega
  repeat (first | refine T_move rfl rfl ?_ | refine E_seq ?_ | refine E_region ?_)
  refine T_lenS tySS rfl rfl hI ?_
  rw [hlen]
  repeat (first | refine T_nil0 ?_ | refine T_cmp rfl rfl rfl rfl ?_)
  refine E_cond_if rfl (fun hp => ?_) (fun hp => ?_)
  · have hkl : k < xss.length := by omega
    have hat := markS_at i hkl
    have htk := totS_take hkl
    have hle := totS_le (xss := xss) (k + 1)
    have hrow := hO.row k (by omega)
    rw [hat] at hrow
    repeat (first | refine T_move rfl rfl ?_ | refine E_seq ?_ | refine E_region ?_ | refine E_skip ?_ | refine E_blockR ?_)
    refine T_indexS tySS rfl rfl rfl hI (by omega) ?_
    refine T_loadRow Try.isAgg22 rfl rfl hI (by omega) ?_
    repeat (first | refine T_move rfl rfl ?_)
    refine T_call rfl rfl (markIntS_spec _ (xss.getD k []) _ w' B hrow (by omega) (by omega)) (fun r w2 hr => ?_)
    obtain ⟨rfl, hr, hg2, hs2⟩ := hr
    have hO2 := hO.wrote (by omega) hr hg2
    rw [markS_step i hkl] at hO2
    repeat (first | refine T_move rfl rfl ?_ | refine T_assign rfl rfl ?_ | refine T_nil0 ?_ | refine E_region ?_ | refine T_add rfl rfl rfl (by omega) ?_ | refine E_inBlock ?_)
    exact IH (k + 1) w2 _ ⟨by omega, hO2, hg.trans (Stay.of_grown hg2 (hb.2 k)), by omega⟩ (by omega) ⟨rfl, slotI rfl (by omega), rfl, trivial⟩
  · have : k = xss.length := by omega
    subst this
    rw [List.take_length, List.drop_length, List.append_nil] at hO
    repeat' (first | refine T_move rfl rfl ?_ | refine T_assign rfl rfl ?_ | refine T_nil0 ?_ | refine E_seq ?_ | refine E_region ?_ | refine E_exit rfl ?_ | refine E_ret1 rfl rfl ?_)
    exact ⟨by rw [List.take_length], hO, hg, hs⟩

theorem heldIntSS_spec (v : Value) (vs : List Value) (xss : List (List Int)) (i : Int) (w : World) (hI : Rws w.heap v vs (marksS i xss)) (hl : xss.length ≤ 1000000000000000) (hl2 : totS xss ≤ 500000000000000) (hk0 : 0 ≤ i ∧ i ≤ 500000000000000) :
    Ret Try.prog 30 #[v, .int .i64 i] w (fun u w' => u = .int .i64 (i + totS xss) ∧ w = w') := by
  have hlen := marksS_length xss i
  refine Ret_of (args := [_, _]) Try.call30 Try.func30 rfl _ Try.ntmps30 rfl ?_
  repeat (first | refine T_assign rfl rfl ?_ | refine T_nil0 ?_ | refine E_seq ?_ | refine E_region ?_)
  refine E_loop (σ := Nat) (fun k => [(0, v), (1, .int .i64 (i + totS (xss.take k))), (5, .int .i64 k)]) (fun k w' => k ≤ xss.length ∧ w = w') (fun k => xss.length - k) 0
    ⟨by omega, rfl⟩ ⟨rfl, slotI rfl (by simp [totS]), rfl, trivial⟩ ?_
  rintro k w' ⟨hk, rfl⟩ IH
  repeat (first | refine T_move rfl rfl ?_ | refine E_seq ?_ | refine E_region ?_)
  refine T_lenS tySS rfl rfl hI ?_
  rw [hlen]
  repeat (first | refine T_nil0 ?_ | refine T_cmp rfl rfl rfl rfl ?_)
  refine E_cond_if rfl (fun hp => ?_) (fun hp => ?_)
  · have hkl : k < xss.length := by omega
    have htk := totS_take hkl
    have hle := totS_le (xss := xss) (k + 1)
    have hrow := hI.row k (by omega)
    rw [marksS_getD xss i k hkl] at hrow
    repeat (first | refine T_move rfl rfl ?_ | refine E_seq ?_ | refine E_region ?_ | refine E_skip ?_ | refine E_blockS ?_)
    refine T_indexS tySS rfl rfl rfl hI (by omega) ?_
    refine T_loadRow Try.isAgg22 rfl rfl hI (by omega) ?_
    repeat (first | refine T_move rfl rfl ?_)
    refine T_call rfl rfl (heldIntS_spec _ (xss.getD k []).length _ w hrow (by omega) (by omega)) (fun r w2 hr => ?_)
    obtain ⟨rfl, rfl⟩ := hr
    repeat (first | refine T_move rfl rfl ?_ | refine T_assign rfl rfl ?_ | refine T_nil0 ?_ | refine E_seq ?_ | refine E_region ?_ | refine T_cmp rfl rfl rfl rfl ?_)
    refine E_cond_if rfl (fun hq => ?_) (fun hq => ?_)
    · omega
    repeat (first | refine T_move rfl rfl ?_ | refine T_assign rfl rfl ?_ | refine T_nil0 ?_ | refine E_region ?_ | refine T_add rfl rfl rfl (by omega) ?_ | refine E_skip ?_ | refine E_inBlock ?_)
    exact IH (k + 1) w _ ⟨by omega, rfl⟩ (by omega) ⟨rfl, slotI rfl (by omega), rfl, trivial⟩
  · have : k = xss.length := by omega
    subst this
    repeat' (first | refine T_move rfl rfl ?_ | refine T_assign rfl rfl ?_ | refine T_nil0 ?_ | refine E_seq ?_ | refine E_region ?_ | refine E_exit rfl ?_ | refine E_ret1 rfl rfl ?_)
    exact ⟨by rw [List.take_length], rfl⟩

theorem szIntS_spec (v : Value) (xs : List Int) (left : Int) (w : World) (hI : Ints w.heap v xs) (hl : xs.length ≤ 9223372036854775807) (hf : 0 ≤ left ∧ left ≤ 1048576) :
    Ret Try.prog 66 #[v, .int .i64 left] w (fun u w' => u = .int .i64 (if left - xs.length < 0 then -1 else left - xs.length) ∧ w = w') := by
  refine Ret_of (args := [_, _]) Try.call66 Try.func66 rfl _ Try.ntmps66 rfl ?_
  repeat (first | refine T_move rfl rfl ?_ | refine T_assign rfl rfl ?_ | refine T_nil0 ?_ | refine E_seq ?_ | refine E_region ?_ | refine T_cmp rfl rfl rfl rfl ?_ | refine T_sub rfl rfl rfl (by omega) ?_ | refine T_len tyI rfl rfl (Ints.len (by assumption)) ?_)
  refine E_cond_if rfl (fun hp => ?_) (fun hp => ?_)
  · repeat' (first | refine T_assign rfl rfl ?_ | refine T_nil0 ?_ | refine E_seq ?_ | refine E_region ?_ | refine E_ret1 rfl rfl ?_)
    exact ⟨by rw [if_pos hp], rfl⟩
  · repeat' (first | refine T_move rfl rfl ?_ | refine T_assign rfl rfl ?_ | refine T_nil0 ?_ | refine E_seq ?_ | refine E_region ?_ | refine E_skip ?_ | refine E_ret1 rfl rfl ?_)
    exact ⟨by rw [if_neg hp], rfl⟩

theorem szIntSS_spec (v : Value) (vs : List Value) (xss : List (List Int)) (left : Int) (w : World) (hI : Rws w.heap v vs xss) (hl : xss.length ≤ 9223372036854775807) (hl2 : ∀ i, i < xss.length → (xss.getD i []).length ≤ 9223372036854775807) (hf : 0 ≤ left ∧ left ≤ 1048576) :
    Ret Try.prog 34 #[v, .int .i64 left] w (fun u w' => ∃ r, u = .int .i64 r ∧ (0 ≤ r → (xss.length + totS xss : Int) ≤ left) ∧ w = w') := by
  refine Ret_of (args := [_, _]) Try.call34 Try.func34 rfl _ Try.ntmps34 rfl ?_
  repeat (first | refine T_move rfl rfl ?_ | refine T_assign rfl rfl ?_ | refine T_nil0 ?_ | refine E_seq ?_ | refine E_region ?_)
  refine T_lenS tySS rfl rfl hI ?_
  repeat (first | refine T_move rfl rfl ?_ | refine T_assign rfl rfl ?_ | refine T_nil0 ?_ | refine E_seq ?_ | refine E_region ?_ | refine T_cmp rfl rfl rfl rfl ?_ | refine T_sub rfl rfl rfl (by omega) ?_)
  refine E_cond_if rfl (fun hp => ?_) (fun hp => ?_)
  · repeat' (first | refine T_assign rfl rfl ?_ | refine T_nil0 ?_ | refine E_seq ?_ | refine E_region ?_ | refine E_ret1 rfl rfl ?_)
    exact ⟨-1, rfl, by omega, rfl⟩
  repeat (first | refine T_assign rfl rfl ?_ | refine T_nil0 ?_ | refine E_seq ?_ | refine E_region ?_ | refine E_skip ?_)
  refine E_loop (σ := Nat) (fun k => [(0, v), (1, .int .i64 (left - xss.length - totS (xss.take k))), (5, .int .i64 k)]) (fun k w' => k ≤ xss.length ∧ 0 ≤ left - xss.length - totS (xss.take k) ∧ w = w') (fun k => xss.length - k) 0
    ⟨by omega, by simp [totS]; omega, rfl⟩ ⟨rfl, slotI rfl (by simp [totS]), rfl, trivial⟩ ?_
  rintro k w' ⟨hk, hr, rfl⟩ IH
  repeat (first | refine T_move rfl rfl ?_ | refine E_seq ?_ | refine E_region ?_)
  refine T_lenS tySS rfl rfl hI ?_
  repeat (first | refine T_nil0 ?_ | refine T_cmp rfl rfl rfl rfl ?_)
  refine E_cond_if rfl (fun hp => ?_) (fun hp => ?_)
  · have hkl : k < xss.length := by omega
    have htk := totS_take hkl
    have hrow := hI.row k (by omega)
    repeat (first | refine T_move rfl rfl ?_ | refine E_seq ?_ | refine E_region ?_ | refine E_skip ?_ | refine E_blockS ?_)
    refine T_indexS tySS rfl rfl rfl hI (by omega) ?_
    refine T_loadRow Try.isAgg22 rfl rfl hI (by omega) ?_
    repeat (first | refine T_move rfl rfl ?_)
    refine T_call rfl rfl (szIntS_spec _ (xss.getD k []) _ w hrow (hl2 k hkl) (by omega)) (fun r w2 hr => ?_)
    obtain ⟨rfl, rfl⟩ := hr
    by_cases hc : left - xss.length - totS (xss.take k) - (xss.getD k []).length < 0
    · rw [if_pos hc]
      repeat' (first | refine T_move rfl rfl ?_ | refine T_assign rfl rfl ?_ | refine T_nil0 ?_ | refine E_seq ?_ | refine E_region ?_ | refine T_cmp rfl rfl rfl rfl ?_ | refine E_cond_true rfl ?_ | refine E_ret1 rfl rfl ?_)
      exact ⟨-1, rfl, by omega, rfl⟩
    · rw [if_neg hc]
      repeat (first | refine T_move rfl rfl ?_ | refine T_assign rfl rfl ?_ | refine T_nil0 ?_ | refine E_seq ?_ | refine E_region ?_ | refine T_cmp rfl rfl rfl rfl ?_)
      refine E_cond_if rfl (fun hq => ?_) (fun hq => ?_)
      · omega
      repeat (first | refine T_move rfl rfl ?_ | refine T_assign rfl rfl ?_ | refine T_nil0 ?_ | refine E_region ?_ | refine T_add rfl rfl rfl (by omega) ?_ | refine E_skip ?_ | refine E_inBlock ?_)
      exact IH (k + 1) w _ ⟨by omega, by omega, rfl⟩ (by omega) ⟨rfl, slotI rfl (by omega), rfl, trivial⟩
  · have : k = xss.length := by omega
    subst this
    repeat' (first | refine T_move rfl rfl ?_ | refine T_assign rfl rfl ?_ | refine T_nil0 ?_ | refine E_seq ?_ | refine E_region ?_ | refine E_exit rfl ?_ | refine E_ret1 rfl rfl ?_)
    rw [List.take_length] at hr
    exact ⟨_, rfl, by rw [List.take_length]; omega, rfl⟩
end Go.Proofs.Ytjpbmjigmbfcfaa
