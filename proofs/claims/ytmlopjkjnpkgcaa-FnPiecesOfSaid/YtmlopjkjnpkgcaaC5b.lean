/-
  Contracts of the functions that cut paper into pieces. Conditions: the arguments lie in memory as the contract says.
-/
import Derived.Test.YtmlopjkjnpkgcaaC5
namespace Go.Proofs.Ytmlopjkjnpkgcaa
open Go Go.PR Go.RowKit attribute [local irreducible] T E Ints Sl Bools OwnI OwnB OwnR Recs Box Ret

def piecesF (ps ws : List Int) (skip : Int) : List Pc := if enough ps ws skip then pieces ps ws skip else []
theorem piecesF_len (ps ws : List Int) (skip : Int) : (piecesF ps ws skip).length ≤ 120 := by
  unfold piecesF
  split
  · rename_i h
    have h1 := pieces_len ps ws skip
    have h2 := h.1.1
    have h3 := h.2.1.1
    omega
  · simp

theorem drop_sum {xs : List Int} {k : Nat} (h : k < xs.length) : (xs.drop k).sum = xs.getD k 0 + (xs.drop (k + 1)).sum := by rw [drop_cons h]; simp

theorem drop_pos {xs : List Int} (h : ∀ x ∈ xs, 1 ≤ x ∧ x ≤ 400) (k : Nat) : 0 ≤ (xs.drop k).sum := by
  have := sum_bound (xs := xs.drop k) (fun x hx => h x (List.mem_of_mem_drop hx))
  omega

theorem PiecesOf_spec (v u : Value) (ps ws : List Int) (skip : Int) (w : World) (hP : Ints w.heap v ps) (hW : Ints w.heap u ws) :
    Ret Try.prog 21 #[v, u, .int .i64 skip] w (fun r w' => OwnR recP w' w.heap.size 37 r (piecesF ps ws skip) ∧ Below w.heap.size w w') := by
  refine Ret_of (args := [_, _, _]) Try.call21 Try.func21 rfl _ Try.ntmps21 rfl ?_
  repeat (first | (first | refine T_move rfl rfl ?_ | refine T_assign rfl rfl ?_ | refine T_nil0 ?_ | refine T_nil1 ?_ | refine E_seq ?_ | refine E_region ?_ | refine T_cmp rfl rfl rfl rfl ?_ | refine T_on rfl rfl ?_ | refine T_off rfl rfl rfl ?_ | refine T_offU rfl rfl rfl ?_ | refine T_add rfl rfl rfl (by omega) ?_ | refine T_sub rfl rfl rfl (by omega) ?_ | refine T_pick_true rfl rfl rfl ?_ | refine T_pick_false rfl rfl rfl ?_ | refine E_cond_true rfl ?_ | refine E_cond_false rfl ?_ | refine E_skip ?_ | refine E_blockS ?_ | refine E_blockR ?_ | refine E_blockC ?_ | refine E_blockB ?_ | refine E_inBlock ?_ | refine E_exit rfl ?_ | refine T_not rfl rfl ?_ | refine T_notB rfl rfl ?_ | refine T_max rfl rfl rfl ?_ | refine T_min rfl rfl rfl ?_ | refine T_extract rfl rfl rfl ?_) | (first | refine T_len tyI rfl rfl (Ints.len (by assumption)) ?_ | refine T_indexN tyI rfl rfl rfl (by assumption) (by omega) ?_ | refine T_indexI tyI rfl rfl rfl (by assumption) (by omega) ?_ | refine T_loadI Try.isAgg3 rfl rfl (by assumption) (by omega) ?_))
  refine T_call rfl rfl (longEnough_spec v u ps ws skip w hP hW) (fun r w1 hr => ?_)
  obtain ⟨rfl, rfl⟩ := hr
  repeat (first | (first | refine T_move rfl rfl ?_ | refine T_assign rfl rfl ?_ | refine T_nil0 ?_ | refine T_nil1 ?_ | refine E_seq ?_ | refine E_region ?_ | refine T_cmp rfl rfl rfl rfl ?_ | refine T_on rfl rfl ?_ | refine T_off rfl rfl rfl ?_ | refine T_offU rfl rfl rfl ?_ | refine T_add rfl rfl rfl (by omega) ?_ | refine T_sub rfl rfl rfl (by omega) ?_ | refine T_pick_true rfl rfl rfl ?_ | refine T_pick_false rfl rfl rfl ?_ | refine E_cond_true rfl ?_ | refine E_cond_false rfl ?_ | refine E_skip ?_ | refine E_blockS ?_ | refine E_blockR ?_ | refine E_blockC ?_ | refine E_blockB ?_ | refine E_inBlock ?_ | refine E_exit rfl ?_ | refine T_not rfl rfl ?_ | refine T_notB rfl rfl ?_ | refine T_max rfl rfl rfl ?_ | refine T_min rfl rfl rfl ?_ | refine T_extract rfl rfl rfl ?_) | (first | refine T_len tyI rfl rfl (Ints.len (by assumption)) ?_ | refine T_indexN tyI rfl rfl rfl (by assumption) (by omega) ?_ | refine T_indexI tyI rfl rfl rfl (by assumption) (by omega) ?_ | refine T_loadI Try.isAgg3 rfl rfl (by assumption) (by omega) ?_))
  refine E_cond_if rfl (fun hp => ?_) (fun hp => ?_)
  · repeat' (first | (first | refine T_move rfl rfl ?_ | refine T_assign rfl rfl ?_ | refine T_nil0 ?_ | refine T_nil1 ?_ | refine E_seq ?_ | refine E_region ?_ | refine T_cmp rfl rfl rfl rfl ?_ | refine T_on rfl rfl ?_ | refine T_off rfl rfl rfl ?_ | refine T_offU rfl rfl rfl ?_ | refine T_add rfl rfl rfl (by omega) ?_ | refine T_sub rfl rfl rfl (by omega) ?_ | refine T_pick_true rfl rfl rfl ?_ | refine T_pick_false rfl rfl rfl ?_ | refine E_cond_true rfl ?_ | refine E_cond_false rfl ?_ | refine E_skip ?_ | refine E_blockS ?_ | refine E_blockR ?_ | refine E_blockC ?_ | refine E_blockB ?_ | refine E_inBlock ?_ | refine E_exit rfl ?_ | refine T_not rfl rfl ?_ | refine T_notB rfl rfl ?_ | refine T_max rfl rfl rfl ?_ | refine T_min rfl rfl rfl ?_ | refine T_extract rfl rfl rfl ?_) | (first | refine T_len tyI rfl rfl (Ints.len (by assumption)) ?_ | refine T_indexN tyI rfl rfl rfl (by assumption) (by omega) ?_ | refine T_indexI tyI rfl rfl rfl (by assumption) (by omega) ?_ | refine T_loadI Try.isAgg3 rfl rfl (by assumption) (by omega) ?_) | (first | refine T_guard rfl rfl (fun hp => ?_) (fun hp => ?_) | refine T_guardB rfl rfl (fun hp => ?_) (fun hp => ?_) | refine E_cond_if rfl (fun hp => ?_) (fun hp => ?_) | refine E_cond_bool rfl (fun hp => ?_) (fun hp => ?_)) | (first | refine E_ret1 rfl rfl ?_ | refine E_ret2 rfl rfl rfl ?_ | refine E_ret3 rfl rfl rfl rfl ?_))
    unfold piecesF
    rw [if_neg hp]
    exact ⟨OwnR.nil _ _ _ _, Below.refl _ _⟩
  have hen : enough ps ws skip := Decidable.not_not.1 hp
  have hsp := hen.1.sum
  have hsw := hen.2.1.sum
  have hen4 := hen.2.2.2
  have hen3 := hen.2.2.1
  have hpl := hen.1.1
  have hwl := hen.2.1.1
  have hres : piecesF ps ws skip = pieces ps ws skip := by unfold piecesF; rw [if_pos hen]
  rw [hres]
  have hplace := place_spec ps skip (fun x hx => (hen.1.2 x hx).1) (by omega) (by omega)
  repeat (first | (first | refine T_move rfl rfl ?_ | refine T_assign rfl rfl ?_ | refine T_nil0 ?_ | refine T_nil1 ?_ | refine E_seq ?_ | refine E_region ?_ | refine T_cmp rfl rfl rfl rfl ?_ | refine T_on rfl rfl ?_ | refine T_off rfl rfl rfl ?_ | refine T_offU rfl rfl rfl ?_ | refine T_add rfl rfl rfl (by omega) ?_ | refine T_sub rfl rfl rfl (by omega) ?_ | refine T_pick_true rfl rfl rfl ?_ | refine T_pick_false rfl rfl rfl ?_ | refine E_cond_true rfl ?_ | refine E_cond_false rfl ?_ | refine E_skip ?_ | refine E_blockS ?_ | refine E_blockR ?_ | refine E_blockC ?_ | refine E_blockB ?_ | refine E_inBlock ?_ | refine E_exit rfl ?_ | refine T_not rfl rfl ?_ | refine T_notB rfl rfl ?_ | refine T_max rfl rfl rfl ?_ | refine T_min rfl rfl rfl ?_ | refine T_extract rfl rfl rfl ?_) | (first | refine T_len tyI rfl rfl (Ints.len (by assumption)) ?_ | refine T_indexN tyI rfl rfl rfl (by assumption) (by omega) ?_ | refine T_indexI tyI rfl rfl rfl (by assumption) (by omega) ?_ | refine T_loadI Try.isAgg3 rfl rfl (by assumption) (by omega) ?_))
  refine T_call rfl rfl (placeOn_spec v ps skip w hP hpl hen.1.2 (by omega)) (fun r w1 hr => ?_)
  obtain ⟨rfl, rfl⟩ := hr
  generalize hj0 : (place ps skip).1 = j0 at *
  generalize hf0 : (place ps skip).2 = f0 at *
  have hpc : pieces ps ws skip = cutAll ws 0 j0 (ps.drop j0) f0 := by unfold pieces; rw [hj0, hf0]
  repeat (first | (first | refine T_move rfl rfl ?_ | refine T_assign rfl rfl ?_ | refine T_nil0 ?_ | refine T_nil1 ?_ | refine E_seq ?_ | refine E_region ?_ | refine T_cmp rfl rfl rfl rfl ?_ | refine T_on rfl rfl ?_ | refine T_off rfl rfl rfl ?_ | refine T_offU rfl rfl rfl ?_ | refine T_add rfl rfl rfl (by omega) ?_ | refine T_sub rfl rfl rfl (by omega) ?_ | refine T_pick_true rfl rfl rfl ?_ | refine T_pick_false rfl rfl rfl ?_ | refine E_cond_true rfl ?_ | refine E_cond_false rfl ?_ | refine E_skip ?_ | refine E_blockS ?_ | refine E_blockR ?_ | refine E_blockC ?_ | refine E_blockB ?_ | refine E_inBlock ?_ | refine E_exit rfl ?_ | refine T_not rfl rfl ?_ | refine T_notB rfl rfl ?_ | refine T_max rfl rfl rfl ?_ | refine T_min rfl rfl rfl ?_ | refine T_extract rfl rfl rfl ?_) | (first | refine T_len tyI rfl rfl (Ints.len (by assumption)) ?_ | refine T_indexN tyI rfl rfl rfl (by assumption) (by omega) ?_ | refine T_indexI tyI rfl rfl rfl (by assumption) (by omega) ?_ | refine T_loadI Try.isAgg3 rfl rfl (by assumption) (by omega) ?_))
  refine E_loop (σ := Nat × Nat × Int × List Pc × Value) (fun ⟨k, j, frm, acc, pv⟩ => [(0, v), (24, u), (25, .int .i64 ws.length), (26, .int .i64 k), (7, pv), (8, .int .i64 j), (9, .int .i64 frm)])
    (fun ⟨k, j, frm, acc, pv⟩ w' => k ≤ ws.length ∧ j ≤ ps.length ∧ 0 ≤ frm ∧ (j < ps.length → frm < ps.getD j 0) ∧ (j = ps.length → frm = 0) ∧ (ws.drop k).sum ≤ (ps.drop j).sum - frm ∧ acc.length ≤ k + j ∧
      acc ++ cutAll (ws.drop k) k j (ps.drop j) frm = pieces ps ws skip ∧ OwnR recP w' w.heap.size 37 pv acc ∧ Below w.heap.size w w')
    (fun ⟨k, _⟩ => ws.length - k) (0, j0, f0, [], .slice none 0 0)
    ⟨by omega, hplace.1, hplace.2.1, hplace.2.2.1, hplace.2.2.2.2, by simp only [List.drop_zero]; omega, by simp, by rw [hpc]; rfl, OwnR.nil _ _ _ _, Below.refl _ _⟩ ⟨rfl, rfl, rfl, rfl, rfl, rfl, rfl, trivial⟩ ?_
  clear hplace hpc hj0 hf0
  rintro ⟨k, j, frm, acc, pv⟩ w1 ⟨hk, hj, hf, hfl, hfe, hsum, hal, hacc, hO, hB⟩ IH
  have hP1 := hP.later hB
  have hW1 := hW.later hB
  repeat (first | (first | refine T_move rfl rfl ?_ | refine T_assign rfl rfl ?_ | refine T_nil0 ?_ | refine T_nil1 ?_ | refine E_seq ?_ | refine E_region ?_ | refine T_cmp rfl rfl rfl rfl ?_ | refine T_on rfl rfl ?_ | refine T_off rfl rfl rfl ?_ | refine T_offU rfl rfl rfl ?_ | refine T_add rfl rfl rfl (by omega) ?_ | refine T_sub rfl rfl rfl (by omega) ?_ | refine T_pick_true rfl rfl rfl ?_ | refine T_pick_false rfl rfl rfl ?_ | refine E_cond_true rfl ?_ | refine E_cond_false rfl ?_ | refine E_skip ?_ | refine E_blockS ?_ | refine E_blockR ?_ | refine E_blockC ?_ | refine E_blockB ?_ | refine E_inBlock ?_ | refine E_exit rfl ?_ | refine T_not rfl rfl ?_ | refine T_notB rfl rfl ?_ | refine T_max rfl rfl rfl ?_ | refine T_min rfl rfl rfl ?_ | refine T_extract rfl rfl rfl ?_) | (first | refine T_len tyI rfl rfl (Ints.len (by assumption)) ?_ | refine T_indexN tyI rfl rfl rfl (by assumption) (by omega) ?_ | refine T_indexI tyI rfl rfl rfl (by assumption) (by omega) ?_ | refine T_loadI Try.isAgg3 rfl rfl (by assumption) (by omega) ?_))
  refine E_cond_if rfl (fun hlt => ?_) (fun hlt => ?_)
  case refine_2 =>
    repeat' (first | (first | refine T_move rfl rfl ?_ | refine T_assign rfl rfl ?_ | refine T_nil0 ?_ | refine T_nil1 ?_ | refine E_seq ?_ | refine E_region ?_ | refine T_cmp rfl rfl rfl rfl ?_ | refine T_on rfl rfl ?_ | refine T_off rfl rfl rfl ?_ | refine T_offU rfl rfl rfl ?_ | refine T_add rfl rfl rfl (by omega) ?_ | refine T_sub rfl rfl rfl (by omega) ?_ | refine T_pick_true rfl rfl rfl ?_ | refine T_pick_false rfl rfl rfl ?_ | refine E_cond_true rfl ?_ | refine E_cond_false rfl ?_ | refine E_skip ?_ | refine E_blockS ?_ | refine E_blockR ?_ | refine E_blockC ?_ | refine E_blockB ?_ | refine E_inBlock ?_ | refine E_exit rfl ?_ | refine T_not rfl rfl ?_ | refine T_notB rfl rfl ?_ | refine T_max rfl rfl rfl ?_ | refine T_min rfl rfl rfl ?_ | refine T_extract rfl rfl rfl ?_) | (first | refine T_len tyI rfl rfl (Ints.len (by assumption)) ?_ | refine T_indexN tyI rfl rfl rfl (by assumption) (by omega) ?_ | refine T_indexI tyI rfl rfl rfl (by assumption) (by omega) ?_ | refine T_loadI Try.isAgg3 rfl rfl (by assumption) (by omega) ?_) | (first | refine T_guard rfl rfl (fun hp => ?_) (fun hp => ?_) | refine T_guardB rfl rfl (fun hp => ?_) (fun hp => ?_) | refine E_cond_if rfl (fun hp => ?_) (fun hp => ?_) | refine E_cond_bool rfl (fun hp => ?_) (fun hp => ?_)) | (first | refine E_ret1 rfl rfl ?_ | refine E_ret2 rfl rfl rfl ?_ | refine E_ret3 rfl rfl rfl rfl ?_))
    have : k = ws.length := by omega
    subst this
    rw [List.drop_length, cutAll, List.append_nil] at hacc
    rw [← hacc]
    exact ⟨hO, hB⟩
  have hwk := hen.2.1.2 _ (getD_mem (xs := ws) (k := k) (by omega))
  have hdr := drop_sum (xs := ws) (k := k) (by omega)
  have hdc := drop_cons (xs := ws) (k := k) (by omega)
  have hdp := drop_pos hen.2.1.2 (k + 1)
  rw [hdc, todo_cons] at hacc
  repeat (first | (first | refine T_move rfl rfl ?_ | refine T_assign rfl rfl ?_ | refine T_nil0 ?_ | refine T_nil1 ?_ | refine E_seq ?_ | refine E_region ?_ | refine T_cmp rfl rfl rfl rfl ?_ | refine T_on rfl rfl ?_ | refine T_off rfl rfl rfl ?_ | refine T_offU rfl rfl rfl ?_ | refine T_add rfl rfl rfl (by omega) ?_ | refine T_sub rfl rfl rfl (by omega) ?_ | refine T_pick_true rfl rfl rfl ?_ | refine T_pick_false rfl rfl rfl ?_ | refine E_cond_true rfl ?_ | refine E_cond_false rfl ?_ | refine E_skip ?_ | refine E_blockS ?_ | refine E_blockR ?_ | refine E_blockC ?_ | refine E_blockB ?_ | refine E_inBlock ?_ | refine E_exit rfl ?_ | refine T_not rfl rfl ?_ | refine T_notB rfl rfl ?_ | refine T_max rfl rfl rfl ?_ | refine T_min rfl rfl rfl ?_ | refine T_extract rfl rfl rfl ?_) | (first | refine T_len tyI rfl rfl (Ints.len (by assumption)) ?_ | refine T_indexN tyI rfl rfl rfl (by assumption) (by omega) ?_ | refine T_indexI tyI rfl rfl rfl (by assumption) (by omega) ?_ | refine T_loadI Try.isAgg3 rfl rfl (by assumption) (by omega) ?_))
  refine E_loop (σ := Int × Nat × Int × List Pc × Value) (fun ⟨want, j, frm, acc, pv⟩ => [(0, v), (24, u), (25, .int .i64 ws.length), (26, .int .i64 k), (10, .int .i64 k), (11, .int .i64 want), (7, pv), (8, .int .i64 j), (9, .int .i64 frm)])
    (fun ⟨want, j, frm, acc, pv⟩ w' => 0 ≤ want ∧ want ≤ 400 ∧ j ≤ ps.length ∧ 0 ≤ frm ∧ (j < ps.length → frm < ps.getD j 0) ∧ (j = ps.length → frm = 0) ∧ want + (ws.drop (k + 1)).sum ≤ (ps.drop j).sum - frm ∧ acc.length ≤ k + j + (if 0 < want then 0 else 1) ∧
      acc ++ todo k (ws.drop (k + 1)) j (ps.drop j) frm want = pieces ps ws skip ∧ OwnR recP w' w.heap.size 37 pv acc ∧ Below w.heap.size w w')
    (fun ⟨want, _⟩ => want.toNat) (ws.getD k 0, j, frm, acc, pv)
    ⟨by omega, by omega, hj, hf, hfl, hfe, by omega, by rw [if_pos (by omega)]; omega, hacc, hO, hB⟩ ⟨rfl, rfl, rfl, rfl, rfl, rfl, rfl, rfl, rfl, trivial⟩ ?_
  clear hj hf hfl hfe hsum hal hacc hO hB hP1 hW1
  rintro ⟨want, j, frm, acc, pv⟩ w2 ⟨hw0, hw4, hj, hf, hfl, hfe, hsum, hal, hacc, hO, hB⟩ IH2
  have hP1 := hP.later hB
  repeat (first | (first | refine T_move rfl rfl ?_ | refine T_assign rfl rfl ?_ | refine T_nil0 ?_ | refine T_nil1 ?_ | refine E_seq ?_ | refine E_region ?_ | refine T_cmp rfl rfl rfl rfl ?_ | refine T_on rfl rfl ?_ | refine T_off rfl rfl rfl ?_ | refine T_offU rfl rfl rfl ?_ | refine T_add rfl rfl rfl (by omega) ?_ | refine T_sub rfl rfl rfl (by omega) ?_ | refine T_pick_true rfl rfl rfl ?_ | refine T_pick_false rfl rfl rfl ?_ | refine E_cond_true rfl ?_ | refine E_cond_false rfl ?_ | refine E_skip ?_ | refine E_blockS ?_ | refine E_blockR ?_ | refine E_blockC ?_ | refine E_blockB ?_ | refine E_inBlock ?_ | refine E_exit rfl ?_ | refine T_not rfl rfl ?_ | refine T_notB rfl rfl ?_ | refine T_max rfl rfl rfl ?_ | refine T_min rfl rfl rfl ?_ | refine T_extract rfl rfl rfl ?_) | (first | refine T_len tyI rfl rfl (Ints.len (by assumption)) ?_ | refine T_indexN tyI rfl rfl rfl (by assumption) (by omega) ?_ | refine T_indexI tyI rfl rfl rfl (by assumption) (by omega) ?_ | refine T_loadI Try.isAgg3 rfl rfl (by assumption) (by omega) ?_))
  refine E_cond_if rfl (fun hgo => ?_) (fun hgo => ?_)
  case refine_2 =>
    have h0 : want = 0 := by omega
    subst h0
    rw [todo_done _ _ _ _ _ _ (Int.le_refl _)] at hacc
    rw [if_neg (by omega)] at hal
    repeat (first | (first | refine T_move rfl rfl ?_ | refine T_assign rfl rfl ?_ | refine T_nil0 ?_ | refine T_nil1 ?_ | refine E_seq ?_ | refine E_region ?_ | refine T_cmp rfl rfl rfl rfl ?_ | refine T_on rfl rfl ?_ | refine T_off rfl rfl rfl ?_ | refine T_offU rfl rfl rfl ?_ | refine T_add rfl rfl rfl (by omega) ?_ | refine T_sub rfl rfl rfl (by omega) ?_ | refine T_pick_true rfl rfl rfl ?_ | refine T_pick_false rfl rfl rfl ?_ | refine E_cond_true rfl ?_ | refine E_cond_false rfl ?_ | refine E_skip ?_ | refine E_blockS ?_ | refine E_blockR ?_ | refine E_blockC ?_ | refine E_blockB ?_ | refine E_inBlock ?_ | refine E_exit rfl ?_ | refine T_not rfl rfl ?_ | refine T_notB rfl rfl ?_ | refine T_max rfl rfl rfl ?_ | refine T_min rfl rfl rfl ?_ | refine T_extract rfl rfl rfl ?_) | (first | refine T_len tyI rfl rfl (Ints.len (by assumption)) ?_ | refine T_indexN tyI rfl rfl rfl (by assumption) (by omega) ?_ | refine T_indexI tyI rfl rfl rfl (by assumption) (by omega) ?_ | refine T_loadI Try.isAgg3 rfl rfl (by assumption) (by omega) ?_))
    exact IH (k + 1, j, frm, acc, pv) w2 _ ⟨by omega, hj, hf, hfl, hfe, by omega, by omega, hacc, hO, hB⟩ (by show ws.length - (k + 1) < ws.length - k; omega) ⟨rfl, rfl, rfl, rfl, rfl, rfl, rfl, trivial⟩
  rw [if_pos hgo] at hal
  have hjlt : j < ps.length := by
    rcases Nat.lt_or_ge j ps.length with h | h
    · exact h
    · have h1 : (ps.drop j).sum = 0 := by rw [List.drop_eq_nil_of_le h]; rfl
      omega
  have hfl := hfl hjlt
  have hpj := hen.1.2 _ (getD_mem (xs := ps) (k := j) hjlt)
  have hds := drop_sum (xs := ps) (k := j) hjlt
  have hdcp := drop_cons (xs := ps) (k := j) hjlt
  repeat (first | (first | refine T_move rfl rfl ?_ | refine T_assign rfl rfl ?_ | refine T_nil0 ?_ | refine T_nil1 ?_ | refine E_seq ?_ | refine E_region ?_ | refine T_cmp rfl rfl rfl rfl ?_ | refine T_on rfl rfl ?_ | refine T_off rfl rfl rfl ?_ | refine T_offU rfl rfl rfl ?_ | refine T_add rfl rfl rfl (by omega) ?_ | refine T_sub rfl rfl rfl (by omega) ?_ | refine T_pick_true rfl rfl rfl ?_ | refine T_pick_false rfl rfl rfl ?_ | refine E_cond_true rfl ?_ | refine E_cond_false rfl ?_ | refine E_skip ?_ | refine E_blockS ?_ | refine E_blockR ?_ | refine E_blockC ?_ | refine E_blockB ?_ | refine E_inBlock ?_ | refine E_exit rfl ?_ | refine T_not rfl rfl ?_ | refine T_notB rfl rfl ?_ | refine T_max rfl rfl rfl ?_ | refine T_min rfl rfl rfl ?_ | refine T_extract rfl rfl rfl ?_) | (first | refine T_len tyI rfl rfl (Ints.len (by assumption)) ?_ | refine T_indexN tyI rfl rfl rfl (by assumption) (by omega) ?_ | refine T_indexI tyI rfl rfl rfl (by assumption) (by omega) ?_ | refine T_loadI Try.isAgg3 rfl rfl (by assumption) (by omega) ?_))
  refine T_build rfl rfl (bP _ _ _ _) ?_
  refine T_lit1 (r := recP) tyP rfl rfl rfl (fun u1 w3 hO1 _ _ hB1 => ?_)
  have hO := hO.later hB1
  have hB3 := hB.step hB.size hB1
  refine T_appendR (r := recP) tyP rfl rfl rfl hO hO1.recs hB3.size (by simp; omega) (by simp; omega) (fun pv' w4 hO4 hg4 _ => ?_)
  have hB4 := hB3.own hg4 hO.blk (Nat.le_refl _) hB3.size
  have hP4 := hP.later hB4
  repeat (first | (first | refine T_move rfl rfl ?_ | refine T_assign rfl rfl ?_ | refine T_nil0 ?_ | refine T_nil1 ?_ | refine E_seq ?_ | refine E_region ?_ | refine T_cmp rfl rfl rfl rfl ?_ | refine T_on rfl rfl ?_ | refine T_off rfl rfl rfl ?_ | refine T_offU rfl rfl rfl ?_ | refine T_add rfl rfl rfl (by omega) ?_ | refine T_sub rfl rfl rfl (by omega) ?_ | refine T_pick_true rfl rfl rfl ?_ | refine T_pick_false rfl rfl rfl ?_ | refine E_cond_true rfl ?_ | refine E_cond_false rfl ?_ | refine E_skip ?_ | refine E_blockS ?_ | refine E_blockR ?_ | refine E_blockC ?_ | refine E_blockB ?_ | refine E_inBlock ?_ | refine E_exit rfl ?_ | refine T_not rfl rfl ?_ | refine T_notB rfl rfl ?_ | refine T_max rfl rfl rfl ?_ | refine T_min rfl rfl rfl ?_ | refine T_extract rfl rfl rfl ?_) | (first | refine T_len tyI rfl rfl (Ints.len (by assumption)) ?_ | refine T_indexN tyI rfl rfl rfl (by assumption) (by omega) ?_ | refine T_indexI tyI rfl rfl rfl (by assumption) (by omega) ?_ | refine T_loadI Try.isAgg3 rfl rfl (by assumption) (by omega) ?_))
  refine E_cond_if rfl (fun heq => ?_) (fun hne => ?_)
  · have hn : min want (ps.getD j 0 - frm) = ps.getD j 0 - frm := by omega
    have hge : ps.getD j 0 - frm ≤ want := by omega
    rw [hdcp, todo_full _ _ _ _ _ _ _ hgo hge] at hacc
    rw [hn] at hO4
    repeat (first | (first | refine T_move rfl rfl ?_ | refine T_assign rfl rfl ?_ | refine T_nil0 ?_ | refine T_nil1 ?_ | refine E_seq ?_ | refine E_region ?_ | refine T_cmp rfl rfl rfl rfl ?_ | refine T_on rfl rfl ?_ | refine T_off rfl rfl rfl ?_ | refine T_offU rfl rfl rfl ?_ | refine T_add rfl rfl rfl (by omega) ?_ | refine T_sub rfl rfl rfl (by omega) ?_ | refine T_pick_true rfl rfl rfl ?_ | refine T_pick_false rfl rfl rfl ?_ | refine E_cond_true rfl ?_ | refine E_cond_false rfl ?_ | refine E_skip ?_ | refine E_blockS ?_ | refine E_blockR ?_ | refine E_blockC ?_ | refine E_blockB ?_ | refine E_inBlock ?_ | refine E_exit rfl ?_ | refine T_not rfl rfl ?_ | refine T_notB rfl rfl ?_ | refine T_max rfl rfl rfl ?_ | refine T_min rfl rfl rfl ?_ | refine T_extract rfl rfl rfl ?_) | (first | refine T_len tyI rfl rfl (Ints.len (by assumption)) ?_ | refine T_indexN tyI rfl rfl rfl (by assumption) (by omega) ?_ | refine T_indexI tyI rfl rfl rfl (by assumption) (by omega) ?_ | refine T_loadI Try.isAgg3 rfl rfl (by assumption) (by omega) ?_))
    refine IH2 (want - (ps.getD j 0 - frm), j + 1, 0, acc ++ [((j : Int), (k : Int), frm, ps.getD j 0 - frm)], pv') w4 _ ⟨by omega, by omega, by omega, by omega, fun h => ?_, fun _ => rfl, by omega, ?_, ?_, hO4, hB4⟩
      (by show (want - (ps.getD j 0 - frm)).toNat < want.toNat; omega) ⟨rfl, rfl, rfl, rfl, rfl, slotI rfl (by omega), rfl, rfl, rfl, trivial⟩
    · have := hen.1.2 _ (getD_mem (xs := ps) (k := j + 1) h); omega
    · simp only [List.length_append, List.length_singleton]; split <;> omega
    · rw [List.append_assoc]; exact hacc
  · have hn : min want (ps.getD j 0 - frm) = want := by omega
    have hlt2 : want < ps.getD j 0 - frm := by omega
    rw [hdcp, todo_part _ _ _ _ _ _ _ hgo hlt2] at hacc
    rw [hn] at hO4
    repeat (first | (first | refine T_move rfl rfl ?_ | refine T_assign rfl rfl ?_ | refine T_nil0 ?_ | refine T_nil1 ?_ | refine E_seq ?_ | refine E_region ?_ | refine T_cmp rfl rfl rfl rfl ?_ | refine T_on rfl rfl ?_ | refine T_off rfl rfl rfl ?_ | refine T_offU rfl rfl rfl ?_ | refine T_add rfl rfl rfl (by omega) ?_ | refine T_sub rfl rfl rfl (by omega) ?_ | refine T_pick_true rfl rfl rfl ?_ | refine T_pick_false rfl rfl rfl ?_ | refine E_cond_true rfl ?_ | refine E_cond_false rfl ?_ | refine E_skip ?_ | refine E_blockS ?_ | refine E_blockR ?_ | refine E_blockC ?_ | refine E_blockB ?_ | refine E_inBlock ?_ | refine E_exit rfl ?_ | refine T_not rfl rfl ?_ | refine T_notB rfl rfl ?_ | refine T_max rfl rfl rfl ?_ | refine T_min rfl rfl rfl ?_ | refine T_extract rfl rfl rfl ?_) | (first | refine T_len tyI rfl rfl (Ints.len (by assumption)) ?_ | refine T_indexN tyI rfl rfl rfl (by assumption) (by omega) ?_ | refine T_indexI tyI rfl rfl rfl (by assumption) (by omega) ?_ | refine T_loadI Try.isAgg3 rfl rfl (by assumption) (by omega) ?_))
    refine IH2 (0, j, frm + want, acc ++ [((j : Int), (k : Int), frm, want)], pv') w4 _ ⟨by omega, by omega, by omega, by omega, fun _ => by omega, fun h => by omega, by omega, ?_, ?_, hO4, hB4⟩
      (by show (0 : Int).toNat < want.toNat; omega) ⟨rfl, rfl, rfl, rfl, rfl, slotI rfl (by omega), rfl, rfl, slotI rfl (by omega), trivial⟩
    · simp only [List.length_append, List.length_singleton]; split <;> omega
    · rw [List.append_assoc, hdcp]; exact hacc

theorem place_zero {ps : List Int} (h : ∀ x ∈ ps, 1 ≤ x ∧ x ≤ 400) (j : Nat) : place (ps.drop j) 0 = (0, 0) := by
  rcases Nat.lt_or_ge j ps.length with hj | hj
  · exact place_ge hj (by have := h _ (getD_mem (xs := ps) (k := j) hj); omega)
  · exact place_end hj

theorem spieces_spec (v u : Value) (ps ws : List Int) (skip : Int) (w : World) (hP : Ints w.heap v ps) (hW : Ints w.heap u ws) (hen : enough ps ws skip) :
    Ret Try.prog 46 #[v, u, .int .i64 skip] w (fun r w' => OwnR recP w' w.heap.size 37 r (pieces ps ws skip) ∧ Below w.heap.size w w') := by
  have hsp := hen.1.sum
  have hsw := hen.2.1.sum
  have hen4 := hen.2.2.2
  have hen3 := hen.2.2.1
  have hpl := hen.1.1
  have hwl := hen.2.1.1
  have hplen := pieces_len ps ws skip
  refine Ret_of (args := [_, _, _]) Try.call46 Try.func46 rfl _ Try.ntmps46 rfl ?_
  repeat (first | (first | refine T_move rfl rfl ?_ | refine T_assign rfl rfl ?_ | refine T_nil0 ?_ | refine T_nil1 ?_ | refine E_seq ?_ | refine E_region ?_ | refine T_cmp rfl rfl rfl rfl ?_ | refine T_on rfl rfl ?_ | refine T_off rfl rfl rfl ?_ | refine T_offU rfl rfl rfl ?_ | refine T_add rfl rfl rfl (by omega) ?_ | refine T_sub rfl rfl rfl (by omega) ?_ | refine T_pick_true rfl rfl rfl ?_ | refine T_pick_false rfl rfl rfl ?_ | refine E_cond_true rfl ?_ | refine E_cond_false rfl ?_ | refine E_skip ?_ | refine E_blockS ?_ | refine E_blockR ?_ | refine E_blockC ?_ | refine E_blockB ?_ | refine E_inBlock ?_ | refine E_exit rfl ?_ | refine T_not rfl rfl ?_ | refine T_notB rfl rfl ?_ | refine T_max rfl rfl rfl ?_ | refine T_min rfl rfl rfl ?_ | refine T_extract rfl rfl rfl ?_) | (first | refine T_len tyI rfl rfl (Ints.len (by assumption)) ?_ | refine T_indexN tyI rfl rfl rfl (by assumption) (by omega) ?_ | refine T_indexI tyI rfl rfl rfl (by assumption) (by omega) ?_ | refine T_loadI Try.isAgg3 rfl rfl (by assumption) (by omega) ?_))
  refine T_lit (ps := []) tyP rfl rfl rfl (by simp) (by simp) (fun pv0 w0 hO0 _ _ hB0 => ?_)
  have hO0 : OwnR recP w0 w.heap.size 37 pv0 [] := by unfold OwnR; exact hO0
  repeat (first | (first | refine T_move rfl rfl ?_ | refine T_assign rfl rfl ?_ | refine T_nil0 ?_ | refine T_nil1 ?_ | refine E_seq ?_ | refine E_region ?_ | refine T_cmp rfl rfl rfl rfl ?_ | refine T_on rfl rfl ?_ | refine T_off rfl rfl rfl ?_ | refine T_offU rfl rfl rfl ?_ | refine T_add rfl rfl rfl (by omega) ?_ | refine T_sub rfl rfl rfl (by omega) ?_ | refine T_pick_true rfl rfl rfl ?_ | refine T_pick_false rfl rfl rfl ?_ | refine E_cond_true rfl ?_ | refine E_cond_false rfl ?_ | refine E_skip ?_ | refine E_blockS ?_ | refine E_blockR ?_ | refine E_blockC ?_ | refine E_blockB ?_ | refine E_inBlock ?_ | refine E_exit rfl ?_ | refine T_not rfl rfl ?_ | refine T_notB rfl rfl ?_ | refine T_max rfl rfl rfl ?_ | refine T_min rfl rfl rfl ?_ | refine T_extract rfl rfl rfl ?_) | (first | refine T_len tyI rfl rfl (Ints.len (by assumption)) ?_ | refine T_indexN tyI rfl rfl rfl (by assumption) (by omega) ?_ | refine T_indexI tyI rfl rfl rfl (by assumption) (by omega) ?_ | refine T_loadI Try.isAgg3 rfl rfl (by assumption) (by omega) ?_))
  refine E_loop (σ := Nat × Nat × Int × List Pc × Value) (fun ⟨k, p, a, acc, pv⟩ => [(0, v), (1, u), (7, pv), (8, .int .i64 p), (9, .int .i64 a), (10, .int .i64 k)])
    (fun ⟨k, p, a, acc, pv⟩ w' => k ≤ ws.length ∧ p ≤ ps.length ∧ 0 ≤ a ∧ a ≤ 24000 ∧ (ws.drop k).sum ≤ (ps.drop p).sum - a ∧
      acc ++ cutAll (ws.drop k) k (p + (place (ps.drop p) a).1) (ps.drop (p + (place (ps.drop p) a).1)) (place (ps.drop p) a).2 = pieces ps ws skip ∧ OwnR recP w' w.heap.size 37 pv acc ∧ Below w.heap.size w w')
    (fun ⟨k, _⟩ => ws.length - k) (0, 0, skip, [], pv0)
    ⟨by omega, by omega, by omega, by omega, by simp only [List.drop_zero]; omega, by simp [pieces], hO0, hB0⟩ ⟨rfl, rfl, rfl, rfl, rfl, rfl, trivial⟩ ?_
  clear hO0 hB0
  rintro ⟨k, p, a, acc, pv⟩ w1 ⟨hk, hj, hf, hfu, hsum, hacc, hO, hB⟩ IH
  have hP1 := hP.later hB
  have hW1 := hW.later hB
  repeat (first | (first | refine T_move rfl rfl ?_ | refine T_assign rfl rfl ?_ | refine T_nil0 ?_ | refine T_nil1 ?_ | refine E_seq ?_ | refine E_region ?_ | refine T_cmp rfl rfl rfl rfl ?_ | refine T_on rfl rfl ?_ | refine T_off rfl rfl rfl ?_ | refine T_offU rfl rfl rfl ?_ | refine T_add rfl rfl rfl (by omega) ?_ | refine T_sub rfl rfl rfl (by omega) ?_ | refine T_pick_true rfl rfl rfl ?_ | refine T_pick_false rfl rfl rfl ?_ | refine E_cond_true rfl ?_ | refine E_cond_false rfl ?_ | refine E_skip ?_ | refine E_blockS ?_ | refine E_blockR ?_ | refine E_blockC ?_ | refine E_blockB ?_ | refine E_inBlock ?_ | refine E_exit rfl ?_ | refine T_not rfl rfl ?_ | refine T_notB rfl rfl ?_ | refine T_max rfl rfl rfl ?_ | refine T_min rfl rfl rfl ?_ | refine T_extract rfl rfl rfl ?_) | (first | refine T_len tyI rfl rfl (Ints.len (by assumption)) ?_ | refine T_indexN tyI rfl rfl rfl (by assumption) (by omega) ?_ | refine T_indexI tyI rfl rfl rfl (by assumption) (by omega) ?_ | refine T_loadI Try.isAgg3 rfl rfl (by assumption) (by omega) ?_))
  refine E_cond_if rfl (fun hlt => ?_) (fun hlt => ?_)
  case refine_2 =>
    repeat' (first | (first | refine T_move rfl rfl ?_ | refine T_assign rfl rfl ?_ | refine T_nil0 ?_ | refine T_nil1 ?_ | refine E_seq ?_ | refine E_region ?_ | refine T_cmp rfl rfl rfl rfl ?_ | refine T_on rfl rfl ?_ | refine T_off rfl rfl rfl ?_ | refine T_offU rfl rfl rfl ?_ | refine T_add rfl rfl rfl (by omega) ?_ | refine T_sub rfl rfl rfl (by omega) ?_ | refine T_pick_true rfl rfl rfl ?_ | refine T_pick_false rfl rfl rfl ?_ | refine E_cond_true rfl ?_ | refine E_cond_false rfl ?_ | refine E_skip ?_ | refine E_blockS ?_ | refine E_blockR ?_ | refine E_blockC ?_ | refine E_blockB ?_ | refine E_inBlock ?_ | refine E_exit rfl ?_ | refine T_not rfl rfl ?_ | refine T_notB rfl rfl ?_ | refine T_max rfl rfl rfl ?_ | refine T_min rfl rfl rfl ?_ | refine T_extract rfl rfl rfl ?_) | (first | refine T_len tyI rfl rfl (Ints.len (by assumption)) ?_ | refine T_indexN tyI rfl rfl rfl (by assumption) (by omega) ?_ | refine T_indexI tyI rfl rfl rfl (by assumption) (by omega) ?_ | refine T_loadI Try.isAgg3 rfl rfl (by assumption) (by omega) ?_) | (first | refine T_guard rfl rfl (fun hp => ?_) (fun hp => ?_) | refine T_guardB rfl rfl (fun hp => ?_) (fun hp => ?_) | refine E_cond_if rfl (fun hp => ?_) (fun hp => ?_) | refine E_cond_bool rfl (fun hp => ?_) (fun hp => ?_)) | (first | refine E_ret1 rfl rfl ?_ | refine E_ret2 rfl rfl rfl ?_ | refine E_ret3 rfl rfl rfl rfl ?_))
    have : k = ws.length := by omega
    subst this
    rw [List.drop_length, cutAll, List.append_nil] at hacc
    rw [← hacc]
    exact ⟨hO, hB⟩
  have hwk := hen.2.1.2 _ (getD_mem (xs := ws) (k := k) (by omega))
  have hdr := drop_sum (xs := ws) (k := k) (by omega)
  have hdc := drop_cons (xs := ws) (k := k) (by omega)
  have hdp := drop_pos hen.2.1.2 (k + 1)
  rw [hdc, todo_cons] at hacc
  repeat (first | (first | refine T_move rfl rfl ?_ | refine T_assign rfl rfl ?_ | refine T_nil0 ?_ | refine T_nil1 ?_ | refine E_seq ?_ | refine E_region ?_ | refine T_cmp rfl rfl rfl rfl ?_ | refine T_on rfl rfl ?_ | refine T_off rfl rfl rfl ?_ | refine T_offU rfl rfl rfl ?_ | refine T_add rfl rfl rfl (by omega) ?_ | refine T_sub rfl rfl rfl (by omega) ?_ | refine T_pick_true rfl rfl rfl ?_ | refine T_pick_false rfl rfl rfl ?_ | refine E_cond_true rfl ?_ | refine E_cond_false rfl ?_ | refine E_skip ?_ | refine E_blockS ?_ | refine E_blockR ?_ | refine E_blockC ?_ | refine E_blockB ?_ | refine E_inBlock ?_ | refine E_exit rfl ?_ | refine T_not rfl rfl ?_ | refine T_notB rfl rfl ?_ | refine T_max rfl rfl rfl ?_ | refine T_min rfl rfl rfl ?_ | refine T_extract rfl rfl rfl ?_) | (first | refine T_len tyI rfl rfl (Ints.len (by assumption)) ?_ | refine T_indexN tyI rfl rfl rfl (by assumption) (by omega) ?_ | refine T_indexI tyI rfl rfl rfl (by assumption) (by omega) ?_ | refine T_loadI Try.isAgg3 rfl rfl (by assumption) (by omega) ?_))
  refine E_loop (σ := Int × Nat × Int × List Pc × Value) (fun ⟨want, p, a, acc, pv⟩ => [(0, v), (1, u), (7, pv), (8, .int .i64 p), (9, .int .i64 a), (10, .int .i64 k), (11, .int .i64 want)])
    (fun ⟨want, p, a, acc, pv⟩ w' => 0 ≤ want ∧ want ≤ 400 ∧ p ≤ ps.length ∧ 0 ≤ a ∧ a ≤ 24000 ∧ want + (ws.drop (k + 1)).sum ≤ (ps.drop p).sum - a ∧
      acc ++ todo k (ws.drop (k + 1)) (p + (place (ps.drop p) a).1) (ps.drop (p + (place (ps.drop p) a).1)) (place (ps.drop p) a).2 want = pieces ps ws skip ∧ OwnR recP w' w.heap.size 37 pv acc ∧ Below w.heap.size w w')
    (fun ⟨want, _⟩ => want.toNat) (ws.getD k 0, p, a, acc, pv)
    ⟨by omega, by omega, hj, hf, hfu, by omega, hacc, hO, hB⟩ ⟨rfl, rfl, rfl, rfl, rfl, rfl, rfl, trivial⟩ ?_
  clear hj hf hfu hsum hacc hO hB hP1 hW1
  rintro ⟨want, p, a, acc, pv⟩ w2 ⟨hw0, hw4, hj, hf, hfu, hsum, hacc, hO, hB⟩ IH2
  repeat (first | (first | refine T_move rfl rfl ?_ | refine T_assign rfl rfl ?_ | refine T_nil0 ?_ | refine T_nil1 ?_ | refine E_seq ?_ | refine E_region ?_ | refine T_cmp rfl rfl rfl rfl ?_ | refine T_on rfl rfl ?_ | refine T_off rfl rfl rfl ?_ | refine T_offU rfl rfl rfl ?_ | refine T_add rfl rfl rfl (by omega) ?_ | refine T_sub rfl rfl rfl (by omega) ?_ | refine T_pick_true rfl rfl rfl ?_ | refine T_pick_false rfl rfl rfl ?_ | refine E_cond_true rfl ?_ | refine E_cond_false rfl ?_ | refine E_skip ?_ | refine E_blockS ?_ | refine E_blockR ?_ | refine E_blockC ?_ | refine E_blockB ?_ | refine E_inBlock ?_ | refine E_exit rfl ?_ | refine T_not rfl rfl ?_ | refine T_notB rfl rfl ?_ | refine T_max rfl rfl rfl ?_ | refine T_min rfl rfl rfl ?_ | refine T_extract rfl rfl rfl ?_) | (first | refine T_len tyI rfl rfl (Ints.len (by assumption)) ?_ | refine T_indexN tyI rfl rfl rfl (by assumption) (by omega) ?_ | refine T_indexI tyI rfl rfl rfl (by assumption) (by omega) ?_ | refine T_loadI Try.isAgg3 rfl rfl (by assumption) (by omega) ?_))
  refine E_cond_if rfl (fun hgo => ?_) (fun hgo => ?_)
  case refine_2 =>
    have h0 : want = 0 := by omega
    subst h0
    rw [todo_done _ _ _ _ _ _ (Int.le_refl _)] at hacc
    repeat (first | (first | refine T_move rfl rfl ?_ | refine T_assign rfl rfl ?_ | refine T_nil0 ?_ | refine T_nil1 ?_ | refine E_seq ?_ | refine E_region ?_ | refine T_cmp rfl rfl rfl rfl ?_ | refine T_on rfl rfl ?_ | refine T_off rfl rfl rfl ?_ | refine T_offU rfl rfl rfl ?_ | refine T_add rfl rfl rfl (by omega) ?_ | refine T_sub rfl rfl rfl (by omega) ?_ | refine T_pick_true rfl rfl rfl ?_ | refine T_pick_false rfl rfl rfl ?_ | refine E_cond_true rfl ?_ | refine E_cond_false rfl ?_ | refine E_skip ?_ | refine E_blockS ?_ | refine E_blockR ?_ | refine E_blockC ?_ | refine E_blockB ?_ | refine E_inBlock ?_ | refine E_exit rfl ?_ | refine T_not rfl rfl ?_ | refine T_notB rfl rfl ?_ | refine T_max rfl rfl rfl ?_ | refine T_min rfl rfl rfl ?_ | refine T_extract rfl rfl rfl ?_) | (first | refine T_len tyI rfl rfl (Ints.len (by assumption)) ?_ | refine T_indexN tyI rfl rfl rfl (by assumption) (by omega) ?_ | refine T_indexI tyI rfl rfl rfl (by assumption) (by omega) ?_ | refine T_loadI Try.isAgg3 rfl rfl (by assumption) (by omega) ?_))
    exact IH (k + 1, p, a, acc, pv) w2 _ ⟨by omega, hj, hf, hfu, by omega, hacc, hO, hB⟩ (by show ws.length - (k + 1) < ws.length - k; omega) ⟨rfl, rfl, rfl, rfl, rfl, rfl, trivial⟩
  repeat (first | (first | refine T_move rfl rfl ?_ | refine T_assign rfl rfl ?_ | refine T_nil0 ?_ | refine T_nil1 ?_ | refine E_seq ?_ | refine E_region ?_ | refine T_cmp rfl rfl rfl rfl ?_ | refine T_on rfl rfl ?_ | refine T_off rfl rfl rfl ?_ | refine T_offU rfl rfl rfl ?_ | refine T_add rfl rfl rfl (by omega) ?_ | refine T_sub rfl rfl rfl (by omega) ?_ | refine T_pick_true rfl rfl rfl ?_ | refine T_pick_false rfl rfl rfl ?_ | refine E_cond_true rfl ?_ | refine E_cond_false rfl ?_ | refine E_skip ?_ | refine E_blockS ?_ | refine E_blockR ?_ | refine E_blockC ?_ | refine E_blockB ?_ | refine E_inBlock ?_ | refine E_exit rfl ?_ | refine T_not rfl rfl ?_ | refine T_notB rfl rfl ?_ | refine T_max rfl rfl rfl ?_ | refine T_min rfl rfl rfl ?_ | refine T_extract rfl rfl rfl ?_) | (first | refine T_len tyI rfl rfl (Ints.len (by assumption)) ?_ | refine T_indexN tyI rfl rfl rfl (by assumption) (by omega) ?_ | refine T_indexI tyI rfl rfl rfl (by assumption) (by omega) ?_ | refine T_loadI Try.isAgg3 rfl rfl (by assumption) (by omega) ?_))
  refine E_loop (σ := Nat × Int) (fun ⟨p, a⟩ => [(0, v), (1, u), (7, pv), (8, .int .i64 p), (9, .int .i64 a), (10, .int .i64 k), (11, .int .i64 want)])
    (fun ⟨p, a⟩ w' => w2 = w' ∧ p ≤ ps.length ∧ 0 ≤ a ∧ a ≤ 24000 ∧ want + (ws.drop (k + 1)).sum ≤ (ps.drop p).sum - a ∧
      acc ++ todo k (ws.drop (k + 1)) (p + (place (ps.drop p) a).1) (ps.drop (p + (place (ps.drop p) a).1)) (place (ps.drop p) a).2 want = pieces ps ws skip)
    (fun ⟨p, _⟩ => ps.length - p) (p, a)
    ⟨rfl, hj, hf, hfu, hsum, hacc⟩ ⟨rfl, rfl, rfl, rfl, rfl, rfl, rfl, trivial⟩ ?_
  clear hj hf hfu hsum hacc
  rintro ⟨p, a⟩ w3 ⟨rfl, hj, hf, hfu, hsum, hacc⟩ IH3
  have hP1 := hP.later hB
  have hend : ∀ (_ : ps.length ≤ p ∨ (p < ps.length ∧ a < ps.getD p 0)), p < ps.length ∧ a < ps.getD p 0 ∧ acc ++ todo k (ws.drop (k + 1)) p (ps.drop p) a want = pieces ps ws skip := by
    rintro (h | ⟨h1, h2⟩)
    · have h1 : (ps.drop p).sum = 0 := by rw [List.drop_eq_nil_of_le h]; rfl
      omega
    · rw [place_ge h1 h2] at hacc
      exact ⟨h1, h2, hacc⟩
  repeat (first | (first | refine T_move rfl rfl ?_ | refine T_assign rfl rfl ?_ | refine T_nil0 ?_ | refine T_nil1 ?_ | refine E_seq ?_ | refine E_region ?_ | refine T_cmp rfl rfl rfl rfl ?_ | refine T_on rfl rfl ?_ | refine T_off rfl rfl rfl ?_ | refine T_offU rfl rfl rfl ?_ | refine T_add rfl rfl rfl (by omega) ?_ | refine T_sub rfl rfl rfl (by omega) ?_ | refine T_pick_true rfl rfl rfl ?_ | refine T_pick_false rfl rfl rfl ?_ | refine E_cond_true rfl ?_ | refine E_cond_false rfl ?_ | refine E_skip ?_ | refine E_blockS ?_ | refine E_blockR ?_ | refine E_blockC ?_ | refine E_blockB ?_ | refine E_inBlock ?_ | refine E_exit rfl ?_ | refine T_not rfl rfl ?_ | refine T_notB rfl rfl ?_ | refine T_max rfl rfl rfl ?_ | refine T_min rfl rfl rfl ?_ | refine T_extract rfl rfl rfl ?_) | (first | refine T_len tyI rfl rfl (Ints.len (by assumption)) ?_ | refine T_indexN tyI rfl rfl rfl (by assumption) (by omega) ?_ | refine T_indexI tyI rfl rfl rfl (by assumption) (by omega) ?_ | refine T_loadI Try.isAgg3 rfl rfl (by assumption) (by omega) ?_))
  refine T_guard rfl rfl (fun hpl1 => ?_) (fun hpl1 => ?_)
  case refine_2 =>
    have := hend (.inl (by omega))
    omega
  have hx := hen.1.2 _ (getD_mem (xs := ps) (k := p) (by omega))
  have hds := drop_sum (xs := ps) (k := p) (by omega)
  repeat (first | (first | refine T_move rfl rfl ?_ | refine T_assign rfl rfl ?_ | refine T_nil0 ?_ | refine T_nil1 ?_ | refine E_seq ?_ | refine E_region ?_ | refine T_cmp rfl rfl rfl rfl ?_ | refine T_on rfl rfl ?_ | refine T_off rfl rfl rfl ?_ | refine T_offU rfl rfl rfl ?_ | refine T_add rfl rfl rfl (by omega) ?_ | refine T_sub rfl rfl rfl (by omega) ?_ | refine T_pick_true rfl rfl rfl ?_ | refine T_pick_false rfl rfl rfl ?_ | refine E_cond_true rfl ?_ | refine E_cond_false rfl ?_ | refine E_skip ?_ | refine E_blockS ?_ | refine E_blockR ?_ | refine E_blockC ?_ | refine E_blockB ?_ | refine E_inBlock ?_ | refine E_exit rfl ?_ | refine T_not rfl rfl ?_ | refine T_notB rfl rfl ?_ | refine T_max rfl rfl rfl ?_ | refine T_min rfl rfl rfl ?_ | refine T_extract rfl rfl rfl ?_) | (first | refine T_len tyI rfl rfl (Ints.len (by assumption)) ?_ | refine T_indexN tyI rfl rfl rfl (by assumption) (by omega) ?_ | refine T_indexI tyI rfl rfl rfl (by assumption) (by omega) ?_ | refine T_loadI Try.isAgg3 rfl rfl (by assumption) (by omega) ?_))
  refine E_cond_if rfl (fun hq => ?_) (fun hq => ?_)
  · repeat (first | (first | refine T_move rfl rfl ?_ | refine T_assign rfl rfl ?_ | refine T_nil0 ?_ | refine T_nil1 ?_ | refine E_seq ?_ | refine E_region ?_ | refine T_cmp rfl rfl rfl rfl ?_ | refine T_on rfl rfl ?_ | refine T_off rfl rfl rfl ?_ | refine T_offU rfl rfl rfl ?_ | refine T_add rfl rfl rfl (by omega) ?_ | refine T_sub rfl rfl rfl (by omega) ?_ | refine T_pick_true rfl rfl rfl ?_ | refine T_pick_false rfl rfl rfl ?_ | refine E_cond_true rfl ?_ | refine E_cond_false rfl ?_ | refine E_skip ?_ | refine E_blockS ?_ | refine E_blockR ?_ | refine E_blockC ?_ | refine E_blockB ?_ | refine E_inBlock ?_ | refine E_exit rfl ?_ | refine T_not rfl rfl ?_ | refine T_notB rfl rfl ?_ | refine T_max rfl rfl rfl ?_ | refine T_min rfl rfl rfl ?_ | refine T_extract rfl rfl rfl ?_) | (first | refine T_len tyI rfl rfl (Ints.len (by assumption)) ?_ | refine T_indexN tyI rfl rfl rfl (by assumption) (by omega) ?_ | refine T_indexI tyI rfl rfl rfl (by assumption) (by omega) ?_ | refine T_loadI Try.isAgg3 rfl rfl (by assumption) (by omega) ?_))
    refine IH3 (p + 1, a - ps.getD p 0) w2 _ ⟨rfl, by omega, by omega, by omega, by omega, ?_⟩ (by show ps.length - (p + 1) < ps.length - p; omega) ⟨rfl, rfl, rfl, rfl, rfl, rfl, rfl, trivial⟩
    rw [place_lt (by omega) hq] at hacc
    simp only at hacc
    rw [show p + 1 + (place (ps.drop (p + 1)) (a - ps.getD p 0)).1 = p + ((place (ps.drop (p + 1)) (a - ps.getD p 0)).1 + 1) by omega]
    exact hacc
  obtain ⟨hp2, ha2, hacc⟩ := hend (.inr ⟨by omega, by omega⟩)
  have hdcp := drop_cons (xs := ps) (k := p) hp2
  repeat (first | (first | refine T_move rfl rfl ?_ | refine T_assign rfl rfl ?_ | refine T_nil0 ?_ | refine T_nil1 ?_ | refine E_seq ?_ | refine E_region ?_ | refine T_cmp rfl rfl rfl rfl ?_ | refine T_on rfl rfl ?_ | refine T_off rfl rfl rfl ?_ | refine T_offU rfl rfl rfl ?_ | refine T_add rfl rfl rfl (by omega) ?_ | refine T_sub rfl rfl rfl (by omega) ?_ | refine T_pick_true rfl rfl rfl ?_ | refine T_pick_false rfl rfl rfl ?_ | refine E_cond_true rfl ?_ | refine E_cond_false rfl ?_ | refine E_skip ?_ | refine E_blockS ?_ | refine E_blockR ?_ | refine E_blockC ?_ | refine E_blockB ?_ | refine E_inBlock ?_ | refine E_exit rfl ?_ | refine T_not rfl rfl ?_ | refine T_notB rfl rfl ?_ | refine T_max rfl rfl rfl ?_ | refine T_min rfl rfl rfl ?_ | refine T_extract rfl rfl rfl ?_) | (first | refine T_len tyI rfl rfl (Ints.len (by assumption)) ?_ | refine T_indexN tyI rfl rfl rfl (by assumption) (by omega) ?_ | refine T_indexI tyI rfl rfl rfl (by assumption) (by omega) ?_ | refine T_loadI Try.isAgg3 rfl rfl (by assumption) (by omega) ?_))
  refine E_cond_if rfl (fun hq2 => ?_) (fun hq2 => ?_)
  · omega
  have hal : acc.length + 1 ≤ 120 ∧ acc.length ≤ 120 := by
    have := congrArg List.length hacc
    rw [hdcp] at this
    rcases Int.lt_or_le want (ps.getD p 0 - a) with h | h
    · rw [todo_part _ _ _ _ _ _ _ hgo h] at this
      simp at this; omega
    · rw [todo_full _ _ _ _ _ _ _ hgo h] at this
      simp at this; omega
  repeat (first | (first | refine T_move rfl rfl ?_ | refine T_assign rfl rfl ?_ | refine T_nil0 ?_ | refine T_nil1 ?_ | refine E_seq ?_ | refine E_region ?_ | refine T_cmp rfl rfl rfl rfl ?_ | refine T_on rfl rfl ?_ | refine T_off rfl rfl rfl ?_ | refine T_offU rfl rfl rfl ?_ | refine T_add rfl rfl rfl (by omega) ?_ | refine T_sub rfl rfl rfl (by omega) ?_ | refine T_pick_true rfl rfl rfl ?_ | refine T_pick_false rfl rfl rfl ?_ | refine E_cond_true rfl ?_ | refine E_cond_false rfl ?_ | refine E_skip ?_ | refine E_blockS ?_ | refine E_blockR ?_ | refine E_blockC ?_ | refine E_blockB ?_ | refine E_inBlock ?_ | refine E_exit rfl ?_ | refine T_not rfl rfl ?_ | refine T_notB rfl rfl ?_ | refine T_max rfl rfl rfl ?_ | refine T_min rfl rfl rfl ?_ | refine T_extract rfl rfl rfl ?_) | (first | refine T_len tyI rfl rfl (Ints.len (by assumption)) ?_ | refine T_indexN tyI rfl rfl rfl (by assumption) (by omega) ?_ | refine T_indexI tyI rfl rfl rfl (by assumption) (by omega) ?_ | refine T_loadI Try.isAgg3 rfl rfl (by assumption) (by omega) ?_))
  refine T_build rfl rfl (bP _ _ _ _) ?_
  refine T_lit1 (r := recP) tyP rfl rfl rfl (fun u1 w3 hO1 _ _ hB1 => ?_)
  have hO := hO.later hB1
  have hB3 := hB.step hB.size hB1
  refine T_appendR (r := recP) tyP rfl rfl rfl hO hO1.recs hB3.size (by simp; omega) (by simp; omega) (fun pv' w4 hO4 hg4 _ => ?_)
  have hB4 := hB3.own hg4 hO.blk (Nat.le_refl _) hB3.size
  repeat (first | (first | refine T_move rfl rfl ?_ | refine T_assign rfl rfl ?_ | refine T_nil0 ?_ | refine T_nil1 ?_ | refine E_seq ?_ | refine E_region ?_ | refine T_cmp rfl rfl rfl rfl ?_ | refine T_on rfl rfl ?_ | refine T_off rfl rfl rfl ?_ | refine T_offU rfl rfl rfl ?_ | refine T_add rfl rfl rfl (by omega) ?_ | refine T_sub rfl rfl rfl (by omega) ?_ | refine T_pick_true rfl rfl rfl ?_ | refine T_pick_false rfl rfl rfl ?_ | refine E_cond_true rfl ?_ | refine E_cond_false rfl ?_ | refine E_skip ?_ | refine E_blockS ?_ | refine E_blockR ?_ | refine E_blockC ?_ | refine E_blockB ?_ | refine E_inBlock ?_ | refine E_exit rfl ?_ | refine T_not rfl rfl ?_ | refine T_notB rfl rfl ?_ | refine T_max rfl rfl rfl ?_ | refine T_min rfl rfl rfl ?_ | refine T_extract rfl rfl rfl ?_) | (first | refine T_len tyI rfl rfl (Ints.len (by assumption)) ?_ | refine T_indexN tyI rfl rfl rfl (by assumption) (by omega) ?_ | refine T_indexI tyI rfl rfl rfl (by assumption) (by omega) ?_ | refine T_loadI Try.isAgg3 rfl rfl (by assumption) (by omega) ?_))
  rcases Int.lt_or_le want (ps.getD p 0 - a) with hlt2 | hge
  · have hn : min want (ps.getD p 0 - a) = want := by omega
    rw [hdcp, todo_part _ _ _ _ _ _ _ hgo hlt2] at hacc
    rw [hn] at hO4
    refine IH2 (0, p, a + want, acc ++ [((p : Int), (k : Int), a, want)], pv') w4 _ ⟨by omega, by omega, by omega, by omega, by omega, by omega, ?_, hO4, hB4⟩
      (by show (0 : Int).toNat < want.toNat; omega) ⟨rfl, rfl, rfl, rfl, slotI rfl (by omega), rfl, slotI rfl (by omega), trivial⟩
    rw [place_ge hp2 (by omega), List.append_assoc]
    simp only [Nat.add_zero, hdcp]
    exact hacc
  · have hn : min want (ps.getD p 0 - a) = ps.getD p 0 - a := by omega
    rw [hdcp, todo_full _ _ _ _ _ _ _ hgo hge] at hacc
    rw [hn] at hO4
    refine IH2 (want - (ps.getD p 0 - a), p, ps.getD p 0, acc ++ [((p : Int), (k : Int), a, ps.getD p 0 - a)], pv') w4 _ ⟨by omega, by omega, by omega, by omega, by omega, by omega, ?_, hO4, hB4⟩
      (by show (want - (ps.getD p 0 - a)).toNat < want.toNat; omega) ⟨rfl, rfl, rfl, rfl, slotI rfl (by omega), rfl, slotI rfl (by omega), trivial⟩
    rw [place_lt hp2 (Int.le_refl _), Int.sub_self, place_zero hen.1.2, List.append_assoc]
    exact hacc

theorem sPiecesOf_spec (v u : Value) (ps ws : List Int) (skip : Int) (w : World) (hP : Ints w.heap v ps) (hW : Ints w.heap u ws) :
    Ret Try.prog 24 #[v, u, .int .i64 skip] w (fun r w' => OwnR recP w' w.heap.size 37 r (piecesF ps ws skip) ∧ Below w.heap.size w w') := by
  refine Ret_of (args := [_, _, _]) Try.call24 Try.func24 rfl _ Try.ntmps24 rfl ?_
  repeat (first | (first | refine T_move rfl rfl ?_ | refine T_assign rfl rfl ?_ | refine T_nil0 ?_ | refine T_nil1 ?_ | refine E_seq ?_ | refine E_region ?_ | refine T_cmp rfl rfl rfl rfl ?_ | refine T_on rfl rfl ?_ | refine T_off rfl rfl rfl ?_ | refine T_offU rfl rfl rfl ?_ | refine T_add rfl rfl rfl (by omega) ?_ | refine T_sub rfl rfl rfl (by omega) ?_ | refine T_pick_true rfl rfl rfl ?_ | refine T_pick_false rfl rfl rfl ?_ | refine E_cond_true rfl ?_ | refine E_cond_false rfl ?_ | refine E_skip ?_ | refine E_blockS ?_ | refine E_blockR ?_ | refine E_blockC ?_ | refine E_blockB ?_ | refine E_inBlock ?_ | refine E_exit rfl ?_ | refine T_not rfl rfl ?_ | refine T_notB rfl rfl ?_ | refine T_max rfl rfl rfl ?_ | refine T_min rfl rfl rfl ?_ | refine T_extract rfl rfl rfl ?_) | (first | refine T_len tyI rfl rfl (Ints.len (by assumption)) ?_ | refine T_indexN tyI rfl rfl rfl (by assumption) (by omega) ?_ | refine T_indexI tyI rfl rfl rfl (by assumption) (by omega) ?_ | refine T_loadI Try.isAgg3 rfl rfl (by assumption) (by omega) ?_))
  refine T_call rfl rfl (enough_spec v u ps ws skip w hP hW) (fun r w1 hr => ?_)
  obtain ⟨rfl, rfl⟩ := hr
  repeat (first | (first | refine T_move rfl rfl ?_ | refine T_assign rfl rfl ?_ | refine T_nil0 ?_ | refine T_nil1 ?_ | refine E_seq ?_ | refine E_region ?_ | refine T_cmp rfl rfl rfl rfl ?_ | refine T_on rfl rfl ?_ | refine T_off rfl rfl rfl ?_ | refine T_offU rfl rfl rfl ?_ | refine T_add rfl rfl rfl (by omega) ?_ | refine T_sub rfl rfl rfl (by omega) ?_ | refine T_pick_true rfl rfl rfl ?_ | refine T_pick_false rfl rfl rfl ?_ | refine E_cond_true rfl ?_ | refine E_cond_false rfl ?_ | refine E_skip ?_ | refine E_blockS ?_ | refine E_blockR ?_ | refine E_blockC ?_ | refine E_blockB ?_ | refine E_inBlock ?_ | refine E_exit rfl ?_ | refine T_not rfl rfl ?_ | refine T_notB rfl rfl ?_ | refine T_max rfl rfl rfl ?_ | refine T_min rfl rfl rfl ?_ | refine T_extract rfl rfl rfl ?_) | (first | refine T_len tyI rfl rfl (Ints.len (by assumption)) ?_ | refine T_indexN tyI rfl rfl rfl (by assumption) (by omega) ?_ | refine T_indexI tyI rfl rfl rfl (by assumption) (by omega) ?_ | refine T_loadI Try.isAgg3 rfl rfl (by assumption) (by omega) ?_))
  refine E_cond_if rfl (fun hp => ?_) (fun hp => ?_)
  · repeat' (first | (first | refine T_move rfl rfl ?_ | refine T_assign rfl rfl ?_ | refine T_nil0 ?_ | refine T_nil1 ?_ | refine E_seq ?_ | refine E_region ?_ | refine T_cmp rfl rfl rfl rfl ?_ | refine T_on rfl rfl ?_ | refine T_off rfl rfl rfl ?_ | refine T_offU rfl rfl rfl ?_ | refine T_add rfl rfl rfl (by omega) ?_ | refine T_sub rfl rfl rfl (by omega) ?_ | refine T_pick_true rfl rfl rfl ?_ | refine T_pick_false rfl rfl rfl ?_ | refine E_cond_true rfl ?_ | refine E_cond_false rfl ?_ | refine E_skip ?_ | refine E_blockS ?_ | refine E_blockR ?_ | refine E_blockC ?_ | refine E_blockB ?_ | refine E_inBlock ?_ | refine E_exit rfl ?_ | refine T_not rfl rfl ?_ | refine T_notB rfl rfl ?_ | refine T_max rfl rfl rfl ?_ | refine T_min rfl rfl rfl ?_ | refine T_extract rfl rfl rfl ?_) | (first | refine T_len tyI rfl rfl (Ints.len (by assumption)) ?_ | refine T_indexN tyI rfl rfl rfl (by assumption) (by omega) ?_ | refine T_indexI tyI rfl rfl rfl (by assumption) (by omega) ?_ | refine T_loadI Try.isAgg3 rfl rfl (by assumption) (by omega) ?_) | (first | refine T_guard rfl rfl (fun hp => ?_) (fun hp => ?_) | refine T_guardB rfl rfl (fun hp => ?_) (fun hp => ?_) | refine E_cond_if rfl (fun hp => ?_) (fun hp => ?_) | refine E_cond_bool rfl (fun hp => ?_) (fun hp => ?_)) | (first | refine E_ret1 rfl rfl ?_ | refine E_ret2 rfl rfl rfl ?_ | refine E_ret3 rfl rfl rfl rfl ?_))
    unfold piecesF
    rw [if_neg hp]
    exact ⟨OwnR.nil _ _ _ _, Below.refl _ _⟩
  have hen : enough ps ws skip := Decidable.not_not.1 hp
  repeat (first | (first | refine T_move rfl rfl ?_ | refine T_assign rfl rfl ?_ | refine T_nil0 ?_ | refine T_nil1 ?_ | refine E_seq ?_ | refine E_region ?_ | refine T_cmp rfl rfl rfl rfl ?_ | refine T_on rfl rfl ?_ | refine T_off rfl rfl rfl ?_ | refine T_offU rfl rfl rfl ?_ | refine T_add rfl rfl rfl (by omega) ?_ | refine T_sub rfl rfl rfl (by omega) ?_ | refine T_pick_true rfl rfl rfl ?_ | refine T_pick_false rfl rfl rfl ?_ | refine E_cond_true rfl ?_ | refine E_cond_false rfl ?_ | refine E_skip ?_ | refine E_blockS ?_ | refine E_blockR ?_ | refine E_blockC ?_ | refine E_blockB ?_ | refine E_inBlock ?_ | refine E_exit rfl ?_ | refine T_not rfl rfl ?_ | refine T_notB rfl rfl ?_ | refine T_max rfl rfl rfl ?_ | refine T_min rfl rfl rfl ?_ | refine T_extract rfl rfl rfl ?_) | (first | refine T_len tyI rfl rfl (Ints.len (by assumption)) ?_ | refine T_indexN tyI rfl rfl rfl (by assumption) (by omega) ?_ | refine T_indexI tyI rfl rfl rfl (by assumption) (by omega) ?_ | refine T_loadI Try.isAgg3 rfl rfl (by assumption) (by omega) ?_))
  refine T_call rfl rfl (spieces_spec v u ps ws skip w hP hW hen) (fun r w1 hr => ?_)
  repeat' (first | (first | refine T_move rfl rfl ?_ | refine T_assign rfl rfl ?_ | refine T_nil0 ?_ | refine T_nil1 ?_ | refine E_seq ?_ | refine E_region ?_ | refine T_cmp rfl rfl rfl rfl ?_ | refine T_on rfl rfl ?_ | refine T_off rfl rfl rfl ?_ | refine T_offU rfl rfl rfl ?_ | refine T_add rfl rfl rfl (by omega) ?_ | refine T_sub rfl rfl rfl (by omega) ?_ | refine T_pick_true rfl rfl rfl ?_ | refine T_pick_false rfl rfl rfl ?_ | refine E_cond_true rfl ?_ | refine E_cond_false rfl ?_ | refine E_skip ?_ | refine E_blockS ?_ | refine E_blockR ?_ | refine E_blockC ?_ | refine E_blockB ?_ | refine E_inBlock ?_ | refine E_exit rfl ?_ | refine T_not rfl rfl ?_ | refine T_notB rfl rfl ?_ | refine T_max rfl rfl rfl ?_ | refine T_min rfl rfl rfl ?_ | refine T_extract rfl rfl rfl ?_) | (first | refine T_len tyI rfl rfl (Ints.len (by assumption)) ?_ | refine T_indexN tyI rfl rfl rfl (by assumption) (by omega) ?_ | refine T_indexI tyI rfl rfl rfl (by assumption) (by omega) ?_ | refine T_loadI Try.isAgg3 rfl rfl (by assumption) (by omega) ?_) | (first | refine T_guard rfl rfl (fun hp => ?_) (fun hp => ?_) | refine T_guardB rfl rfl (fun hp => ?_) (fun hp => ?_) | refine E_cond_if rfl (fun hp => ?_) (fun hp => ?_) | refine E_cond_bool rfl (fun hp => ?_) (fun hp => ?_)) | (first | refine E_ret1 rfl rfl ?_ | refine E_ret2 rfl rfl rfl ?_ | refine E_ret3 rfl rfl rfl rfl ?_))
  unfold piecesF
  rw [if_pos hen]
  exact hr
end Go.Proofs.Ytmlopjkjnpkgcaa
