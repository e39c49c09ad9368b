/-
  Contracts: patterns filled with the widest first. Conditions: the arguments lie in memory as the contract says.
-/
import Derived.Test.YtjpbmjigmbfcfaaC3V
namespace Go.Proofs.Ytjpbmjigmbfcfaa
open Go Go.PR Go.RowKit attribute [local irreducible] T E Ints Sl Bools OwnI OwnB OwnR Recs Box Ret

set_option maxHeartbeats 2000000 in
theorem greedy_spec (v u : Value) (width : Int) (ws ns : List Int) (w : World) (hI : Ints w.heap v ws) (hJ : Ints w.heap u ns) (hok : okW width ws) (hl : ns.length = ws.length) (hn : ∀ x ∈ ns, 0 ≤ x ∧ x ≤ 4) :
    Ret Try.prog 72 #[.int .i64 width, v, u] w (fun r w' => ∃ rs L, OwnSS w' w.heap.size 22 3 r rs L ∧ L.length ≤ 24 ∧ Below w.heap.size w w') := by
  have hw1 := hok.1
  have hwl := hok.2.1
  have hws : ∀ k, k < ws.length → 1 ≤ ws.getD k 0 ∧ ws.getD k 0 ≤ width := fun k hk => hok.2.2.1 _ (getD_mem hk)
  refine Ret_of (args := [_, _, _]) Try.call72 Try.func72 rfl _ Try.ntmps72 rfl ?_
  repeat (first | refine T_assign rfl rfl ?_ | refine T_nil0 ?_ | refine E_seq ?_ | refine E_region ?_)
  refine T_lit0S 3 tySS rfl (fun ov w1 hO _ _ hB => ?_)
  have hob := hO.blk.1
  repeat (first | refine T_move rfl rfl ?_ | refine T_assign rfl rfl ?_ | refine T_nil0 ?_ | refine E_seq ?_ | refine E_region ?_)
  refine T_call rfl rfl (widest_spec v ws w1 (hI.later hB) (by omega)) (fun kv w2 hr => ?_)
  obtain ⟨K, hK, hP, hb⟩ := hr
  have hkb := hK.blk
  have hO := hO.later hb
  have hB := hB.step hB.size hb
  have hz2 := hb.size
  repeat (first | refine T_move rfl rfl ?_ | refine T_assign rfl rfl ?_ | refine T_nil0 ?_ | refine E_seq ?_ | refine E_region ?_)
  refine T_call rfl rfl (copyInts_spec u ns w2 (hJ.later hB) (by omega)) (fun lv w3 hr => ?_)
  obtain ⟨hF, hb⟩ := hr
  have hlb := hF.blk
  have hO := hO.later hb
  have hK := hK.later hb
  have hB := hB.step hB.size hb
  have hz3 := hb.size
  have hsb := sum_bound hn
  have hKl := hP.1
  have hko : kv.ownBlock = none ∨ kv.ownBlock ≠ ov.ownBlock := Blk.ne hkb hob (.inr (Nat.le_refl _))
  have hlo : ov.ownBlock = none ∨ ov.ownBlock ≠ lv.ownBlock := Blk.ne hob hlb (.inl (by omega))
  have hlk : lv.ownBlock = none ∨ lv.ownBlock ≠ kv.ownBlock := Blk.ne hlb hkb (.inr (Nat.le_refl _))
  have hkl : kv.ownBlock = none ∨ kv.ownBlock ≠ lv.ownBlock := Blk.ne hkb hlb (.inl (Nat.le_refl _))
  clear hob hb
  repeat (first | refine T_assign rfl rfl ?_ | refine T_nil0 ?_ | refine E_seq ?_)
  refine E_loop (σ := List Int × List Value × List (List Int) × Value) (fun ⟨F, rs, L, ov⟩ => [(0, .int .i64 width), (1, v), (7, ov), (8, kv), (9, lv)])
    (fun ⟨F, rs, L, ov⟩ w' => F.length = ws.length ∧ (∀ x ∈ F, 0 ≤ x ∧ x ≤ 4) ∧ (L.length : Int) + F.sum ≤ 24 ∧ (kv.ownBlock = none ∨ kv.ownBlock ≠ ov.ownBlock) ∧ (ov.ownBlock = none ∨ ov.ownBlock ≠ lv.ownBlock) ∧ (∀ i, i < L.length → (rs.getD i nilV).ownBlock = none ∨ (rs.getD i nilV).ownBlock ≠ lv.ownBlock) ∧ OwnI w' w1.heap.size 3 kv K ∧ OwnI w' w2.heap.size 3 lv F ∧ OwnSS w' w.heap.size 22 3 ov rs L ∧ Below w.heap.size w w' ∧ w3.heap.size ≤ w'.heap.size) (fun ⟨F, _⟩ => F.sum.toNat) (ns, [], [], ov)
    ⟨hl, hn, by simp; omega, hko, hlo, by simp, hK, hF, hO, hB, Nat.le_refl _⟩ ⟨rfl, rfl, rfl, rfl, rfl, trivial⟩ ?_
  clear hK hF hO hB hsb hko hlo
  rintro ⟨F, rs, L, ov⟩ w4 ⟨hFl, hFb, hsum, hko, hlo, hrl, hK, hF, hO, hB, hz4⟩ IH
  have hfs := sum_bound hFb
  repeat (first | refine T_move rfl rfl ?_ | refine E_seq ?_ | refine E_region ?_)
  refine T_call rfl rfl (stotal_spec lv F w4 hF.ints (by omega) (fun x hx => by have := hFb x hx; omega)) (fun r w5 hr => ?_)
  obtain ⟨rfl, rfl⟩ := hr
  repeat (first | refine T_nil0 ?_ | refine T_cmp rfl rfl rfl rfl ?_)
  refine E_cond_if rfl (fun hp1 => ?_) (fun hp1 => ?_)
  case refine_2 =>
    repeat' (first | refine T_move rfl rfl ?_ | refine T_assign rfl rfl ?_ | refine T_nil0 ?_ | refine E_seq ?_ | refine E_region ?_ | refine E_exit rfl ?_ | refine E_ret1 rfl rfl ?_)
    exact ⟨rs, L, hO, by omega, hB⟩
  repeat (first | refine T_move rfl rfl ?_ | refine T_assign rfl rfl ?_ | refine T_nil0 ?_ | refine E_seq ?_ | refine E_region ?_ | refine E_skip ?_ | refine E_blockS ?_ | refine T_len tyI rfl rfl (Ints.len (by assumption)) ?_)
  refine T_makeI tyI rfl rfl rfl (by omega) (fun cv w5 hC _ _ hb => ?_)
  simp only [Int.toNat_natCast] at hC
  have hcb := hC.blk
  have hobs := hO.blk
  have hK := hK.later hb
  have hF := hF.later hb
  have hO := hO.later hb
  have hB := hB.step hB.size hb
  have hz5 := hb.size
  clear hb
  repeat (first | refine T_assign rfl rfl ?_ | refine T_nil0 ?_ | refine E_seq ?_ | refine E_region ?_)
  refine E_loop (σ := Nat × List Int × List Int × Int) (fun ⟨k, F', cs, room⟩ => [(0, .int .i64 width), (1, v), (7, ov), (8, kv), (9, lv), (10, .int .i64 room), (11, cv), (12, .int .i64 (k : Int))])
    (fun ⟨k, F', cs, room⟩ w' => k ≤ ws.length ∧ F'.length = ws.length ∧ (∀ x ∈ F', 0 ≤ x ∧ x ≤ 4) ∧ cs.length = ws.length ∧ (0 ≤ room ∧ room ≤ width) ∧ F'.sum ≤ F.sum ∧ ((room = width ∧ F' = F ∧ ∀ q, q < k → F.getD (K.getD q 0).toNat 0 = 0) ∨ F'.sum < F.sum) ∧ OwnI w' w1.heap.size 3 kv K ∧ OwnI w' w2.heap.size 3 lv F' ∧ OwnI w' w4.heap.size 3 cv cs ∧ OwnSS w' w.heap.size 22 3 ov rs L ∧ Below w.heap.size w w' ∧ w5.heap.size ≤ w'.heap.size) (fun ⟨k, _⟩ => ws.length - k) (0, F, _, width)
    ⟨by omega, hFl, hFb, by simp, by omega, Int.le_refl _, .inl ⟨rfl, rfl, by omega⟩, hK, hF, hC, hO, hB, Nat.le_refl _⟩ ⟨rfl, rfl, rfl, rfl, rfl, rfl, rfl, rfl, trivial⟩ ?_
  clear hK hF hC hO hB
  rintro ⟨k, F', cs, room⟩ w6 ⟨hk, hFl', hFb', hcl, hroom, hle, hprog, hK, hF, hC, hO, hB, hz6⟩ IH2
  have hI6 := hI.later hB
  have hKI := hK.ints
  have hFI := hF.ints
  repeat (first | refine T_move rfl rfl ?_ | refine T_nil0 ?_ | refine E_seq ?_ | refine E_region ?_ | refine T_cmp rfl rfl rfl rfl ?_ | refine T_len tyI rfl rfl (Ints.len (by assumption)) ?_)
  refine E_cond_if rfl (fun hp2 => ?_) (fun hp2 => ?_)
  case refine_2 =>
    have e : k = ws.length := by omega
    subst e
    have hlt : F'.sum < F.sum := by
      rcases hprog with ⟨_, e2, hz⟩ | h
      · have h0 := sum_zero (xs := F) (fun j hj => hP.all hz j (by omega))
        omega
      · exact h
    have hfs' := sum_bound hFb'
    repeat (first | refine T_move rfl rfl ?_ | refine E_region ?_ | refine E_exit rfl ?_)
    refine T_litS tySS rfl rfl hC (by omega) (fun tv w7 hT _ _ hb => ?_)
    have hO := hO.later hb
    have hK := hK.later hb
    have hF := hF.later hb
    have hB := hB.step hB.size hb
    have hz7 := hb.size
    have hz4w := hB.size
    refine T_appendSS tySS rfl rfl rfl hO hT hobs (by omega) (by omega) (by simp; omega) (by simp; omega) (fun ov' w8 hO8 hg hor => ?_)
    have hB := hB.own hg hobs.1 (Nat.le_refl _) hB.size
    have hK := hK.kept hg hko
    have hF := hF.kept hg (ne_swap hlo)
    have hgz := hg.size
    repeat (first | refine T_assign rfl rfl ?_ | refine T_nil0 ?_ | refine E_inBlock ?_)
    refine IH (F', rs ++ [cv], L ++ [cs], ov') w8 _ ⟨hFl', hFb', by simp; omega, ?_, ?_, fun i hi => ?_, hK, hF, hO8, hB, by omega⟩ (by show F'.sum.toNat < F.sum.toNat; omega) ⟨rfl, rfl, rfl, rfl, rfl, trivial⟩
    · rcases hor with h | h
      · rw [h]; exact hko
      · rw [h]; exact hkb.ne_some (.inl (by omega))
    · rcases hor with h | h
      · rw [h]; exact hlo
      · rw [h]; exact ne_swap (hlb.ne_some (.inl (by omega)))
    · by_cases e : i < L.length
      · rw [getD_append_left (by rw [hO.len]; exact e)]; exact hrl i e
      · have : i = rs.length := by simp at hi; have := hO.len; omega
        subst this
        rw [getD_append_right (Nat.le_refl _), Nat.sub_self]
        exact Blk.ne hcb hlb (.inr (by omega))
  have hkn : k < ws.length := by omega
  have ho := hP.at hkn
  have hwo := hws (K.getD k 0).toNat (by omega)
  have hfo := hFb' _ (getD_mem (xs := F') (k := (K.getD k 0).toNat) (by omega))
  have hdv : 0 ≤ room / ws.getD (K.getD k 0).toNat 0 := Int.ediv_nonneg hroom.1 (by omega)
  have hdm : room / ws.getD (K.getD k 0).toNat 0 * ws.getD (K.getD k 0).toNat 0 ≤ room := Int.ediv_mul_le _ (by omega)
  repeat (first | refine E_seq ?_ | refine E_skip ?_ | refine E_blockS ?_)
  refine E_region_still follows (by kernel_rfl) ?_
  repeat (first | refine T_move rfl rfl ?_ | refine T_indexN tyI rfl rfl rfl (by assumption) (by omega) ?_ | refine T_indexI tyI rfl rfl rfl (by assumption) (by omega) ?_ | refine T_loadI Try.isAgg3 rfl rfl (by assumption) (by omega) ?_)
  refine T_quo rfl rfl rfl (by omega) ?_
  repeat (first | refine T_move rfl rfl ?_ | refine T_assign rfl rfl ?_ | refine T_nil1 ?_ | refine E_seq ?_ | refine E_region ?_ | refine T_min rfl rfl rfl ?_ | refine T_indexN tyI rfl rfl rfl (by assumption) (by omega) ?_ | refine T_loadI Try.isAgg3 rfl rfl (by assumption) (by omega) ?_)
  have hdr : Below w6.heap.size w6 w6.drew := (Below.refl _ _).drew
  have hI6 := hI6.later hdr
  have hKI := hKI.later hdr
  have hFI := hFI.later hdr
  have hK := hK.later hdr
  have hF := hF.later hdr
  have hC := hC.later hdr
  have hO := hO.later hdr
  have hB := hB.step hB.size hdr
  have hzd : w6.drew.heap.size = w6.heap.size := rfl
  clear hdr
  generalize w6.drew = w7 at *
  have hn' : ∃ n', n' = min (F'.getD (K.getD k 0).toNat 0) (room / ws.getD (K.getD k 0).toNat 0) := ⟨_, rfl⟩
  obtain ⟨n', hn'⟩ := hn'
  rw [← hn']
  have hn0 : 0 ≤ n' ∧ n' ≤ F'.getD (K.getD k 0).toNat 0 ∧ n' ≤ room / ws.getD (K.getD k 0).toNat 0 := by omega
  have hnm0 : 0 ≤ n' * ws.getD (K.getD k 0).toNat 0 := Int.mul_nonneg hn0.1 (by omega)
  have hnm : n' * ws.getD (K.getD k 0).toNat 0 ≤ room := Int.le_trans (Int.mul_le_mul_of_nonneg_right hn0.2.2 (by omega)) hdm
  have hcb7 := hC.blk
  have hCI := hC.ints
  repeat (first | refine T_indexI tyI rfl rfl rfl (by assumption) (by omega) ?_)
  refine T_storeI Try.sizeOf3 rfl rfl hC (by omega) (fun w8 hC hg hs8 => ?_)
  have hK := hK.kept hg (Blk.ne hkb hcb (.inl (by omega)))
  have hF := hF.kept hg (Blk.ne hlb hcb (.inl (by omega)))
  have hO := hO.kept hg hcb hobs (.inl (Nat.le_refl _))
  have hB := hB.own hg hcb (by have := hz4; omega) hB.size
  have hI6 := hI.later hB
  have hKI := hK.ints
  have hFI := hF.ints
  clear hg hCI
  repeat (first | refine T_nil0 ?_ | refine E_seq ?_)
  refine E_region_tail 14 follows (by kernel_rfl) ?_
  repeat (first | refine T_move rfl rfl ?_ | refine T_nil1 ?_ | refine T_sub rfl rfl rfl (by omega) ?_ | refine T_indexN tyI rfl rfl rfl (by assumption) (by omega) ?_ | refine T_indexI tyI rfl rfl rfl (by assumption) (by omega) ?_ | refine T_loadI Try.isAgg3 rfl rfl (by assumption) (by omega) ?_)
  have hdr : Below w8.heap.size w8 w8.drew := (Below.refl _ _).drew
  have hK := hK.later hdr
  have hF := hF.later hdr
  have hC := hC.later hdr
  have hO := hO.later hdr
  have hB := hB.step hB.size hdr
  have hzd : w8.drew.heap.size = w8.heap.size := rfl
  clear hdr
  have hFI := hF.ints
  generalize w8.drew = w9 at *
  skip
  refine T_storeI Try.sizeOf3 rfl rfl hF (by omega) (fun w10 hF hg hs10 => ?_)
  have hK := hK.kept hg hkl
  have hC := hC.kept hg (Blk.ne hcb hlb (.inr (by omega)))
  have hO := hO.keptNe hg hlo hrl
  have hB := hB.own hg hlb (by omega) hB.size
  have hI6 := hI.later hB
  have hKI := hK.ints
  clear hg hFI
  repeat (first | refine T_move rfl rfl ?_ | refine T_nil0 ?_ | refine E_region ?_ | refine T_indexN tyI rfl rfl rfl (by assumption) (by omega) ?_ | refine T_indexI tyI rfl rfl rfl (by assumption) (by omega) ?_ | refine T_loadI Try.isAgg3 rfl rfl (by assumption) (by omega) ?_)
  refine T_mul rfl rfl rfl (by omega) ?_
  repeat (first | refine T_move rfl rfl ?_ | refine T_assign rfl rfl ?_ | refine T_nil0 ?_ | refine E_region ?_ | refine T_add rfl rfl rfl (by omega) ?_ | refine T_sub rfl rfl rfl (by omega) ?_ | refine E_inBlock ?_)
  have hss := sum_set (xs := F') (i := (K.getD k 0).toNat) (y := F'.getD (K.getD k 0).toNat 0 - n') (by omega)
  refine IH2 (k + 1, F'.set (K.getD k 0).toNat (F'.getD (K.getD k 0).toNat 0 - n'), cs.set (K.getD k 0).toNat n', room - n' * ws.getD (K.getD k 0).toNat 0) w10 _ ⟨by omega, by simp; omega, fun x hx => ?_, by simp; omega, by omega, by omega, ?_, hK, hF, hC, hO, hB, by omega⟩ (by show ws.length - (k + 1) < ws.length - k; omega) ⟨rfl, rfl, rfl, rfl, rfl, rfl, rfl, rfl, trivial⟩
  · rcases List.mem_or_eq_of_mem_set hx with h | h
    · exact hFb' x h
    · omega
  · by_cases hn1 : 1 ≤ n'
    · right; omega
    · rcases hprog with ⟨e1, e2, hz⟩ | h
      · subst e2
        have hz0 : F'.getD (K.getD k 0).toNat 0 = 0 := by
          apply Classical.byContradiction
          intro hne
          have : 1 ≤ room / ws.getD (K.getD k 0).toNat 0 := by
            rw [e1]
            exact (Int.le_ediv_iff_mul_le (by omega)).2 (by omega)
          omega
        have hn00 : n' = 0 := by omega
        left
        refine ⟨by rw [hn00]; omega, ?_, fun q hq => ?_⟩
        · refine eq_of_getD (by simp) (fun j hj => ?_)
          have hj' : j < F'.length := by simpa using hj
          rw [getD_set (by omega)]
          split
          · rename_i e; subst e; omega
          · rfl
        · by_cases e : q = k
          · subst e; exact hz0
          · exact hz q (by omega)
      · right; omega
end Go.Proofs.Ytjpbmjigmbfcfaa
