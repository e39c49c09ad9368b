/-
  Contracts: the full patterns of the reference. Conditions: the arguments lie in memory as the contract says.
-/
import Derived.Test.YtjpbmjigmbfcfaaC3d
import Derived.Test.YtjpbmjigmbfcfaaC3S
import Derived.Test.YtjpbmjigmbfcfaaLibS
import Derived.Test.YtjpbmjigmbfcfaaHeld
namespace Go.Proofs.Ytjpbmjigmbfcfaa
open Go Go.PR Go.RowKit attribute [local irreducible] T E Ints Sl Bools OwnI OwnB OwnR Recs Box Ret
attribute [local irreducible] X

theorem patterns_spec (ws : List Int) (hw : ∀ x ∈ ws, 1 ≤ x ∧ x ≤ 60) (hwl : ws.length ≤ 6) : ∀ (d : Nat) (v u : Value) (b : List Int) (left : Int) (w : World), ws.length - b.length = d → Ints w.heap v ws → Ints w.heap u b → b.length ≤ ws.length → 0 ≤ left ∧ left ≤ 24 →
    Ret Try.prog 57 #[.int .i64 left, v, u] w (fun r w' => ∃ rs, OwnSS w' w.heap.size 22 3 r rs (patsF ws (ws.drop b.length) left b) ∧ Below w.heap.size w w') := by
  intro d
  induction d with
  | zero =>
    intro v u b left w hd hI hJ hb h0
    have hbe : b.length = ws.length := by omega
    have hP : patsF ws (ws.drop b.length) left b = if full ws left then [b] else [] := by rw [hbe, List.drop_length, patsF]
    rw [hP]
    refine Ret_of (args := [_, _, _]) Try.call57 Try.func57 rfl _ Try.ntmps57 rfl ?_
    repeat (first | refine T_move rfl rfl ?_ | refine T_assign rfl rfl ?_ | refine T_nil0 ?_ | refine E_seq ?_ | refine E_region ?_ | refine T_cmp rfl rfl rfl rfl ?_ | refine T_len tyI rfl rfl (Ints.len (by assumption)) ?_)
    refine E_cond_if rfl (fun g1 => ?_) (fun g1 => ?_)
    case refine_2 => omega
    repeat (first | refine T_assign rfl rfl ?_ | refine T_nil0 ?_ | refine E_seq ?_ | refine E_region ?_)
    refine E_loop (σ := Nat) (fun i => [(0, .int .i64 left), (1, v), (2, u), (8, .int .i64 i)]) (fun i w' => w = w' ∧ i ≤ ws.length ∧ ∀ j, j < i → left < ws.getD j 0) (fun i => ws.length - i) 0 ⟨rfl, by omega, by omega⟩ ⟨rfl, rfl, rfl, rfl, trivial⟩ ?_
    rintro i w1 ⟨rfl, hi, hall⟩ IH
    repeat (first | refine T_move rfl rfl ?_ | refine T_nil0 ?_ | refine E_seq ?_ | refine E_region ?_ | refine T_cmp rfl rfl rfl rfl ?_ | refine T_len tyI rfl rfl (Ints.len (by assumption)) ?_)
    refine E_cond_if rfl (fun hp1 => ?_) (fun hp1 => ?_)
    case refine_2 =>
      repeat (first | refine T_move rfl rfl ?_ | refine E_seq ?_ | refine E_region ?_ | refine E_exit rfl ?_)
      refine T_call rfl rfl (copyInts_spec u b w hJ (by omega)) (fun c w2 hc => ?_)
      obtain ⟨hc, hB⟩ := hc
      refine T_litS tySS rfl rfl hc hB.size (fun t w3 ht _ _ hb3 => ?_)
      repeat' (first | refine T_assign rfl rfl ?_ | refine T_nil0 ?_ | refine E_ret1 rfl rfl ?_)
      have hfl : full ws left := all_of_getD fun j hj => hall j (by omega)
      rw [if_pos hfl]
      exact ⟨_, ht, hB.step hB.size hb3⟩
    repeat (first | refine T_move rfl rfl ?_ | refine T_nil0 ?_ | refine E_seq ?_ | refine E_region ?_ | refine T_cmp rfl rfl rfl rfl ?_ | refine E_skip ?_ | refine E_blockS ?_ | refine T_indexN tyI rfl rfl rfl (by assumption) (by omega) ?_ | refine T_loadI Try.isAgg3 rfl rfl (by assumption) (by omega) ?_)
    refine E_cond_if rfl (fun hp2 => ?_) (fun hp2 => ?_)
    · repeat (first | refine E_seq ?_ | refine E_region ?_)
      refine T_lit0S 3 tySS rfl (fun u0 w0 h0 _ _ hB0 => ?_)
      repeat' (first | refine T_assign rfl rfl ?_ | refine T_nil0 ?_ | refine E_ret1 rfl rfl ?_)
      have hfl : ¬ full ws left := fun h => by have := h _ (getD_mem (xs := ws) (k := i) (by omega)); omega
      rw [if_neg hfl]
      exact ⟨_, h0, hB0⟩
    · repeat (first | refine T_move rfl rfl ?_ | refine T_assign rfl rfl ?_ | refine T_nil0 ?_ | refine E_region ?_ | refine T_add rfl rfl rfl (by omega) ?_ | refine E_skip ?_ | refine E_inBlock ?_)
      refine IH (i + 1) w _ ⟨rfl, by omega, fun j hj => ?_⟩ (by omega) ⟨rfl, rfl, rfl, rfl, trivial⟩
      by_cases e : j = i
      · subst e; omega
      · exact hall j (by omega)
  | succ d ih =>
    intro v u b left w hd hI hJ hb h0
    have hbl : b.length < ws.length := by omega
    have hx := hw _ (getD_mem (xs := ws) (k := b.length) hbl)
    have hdr : ws.drop b.length = ws.getD b.length 0 :: ws.drop (b.length + 1) := drop_cons hbl
    have hq0 : 0 ≤ left / ws.getD b.length 0 := Int.ediv_nonneg h0.1 (by omega)
    have hq1 : left / ws.getD b.length 0 ≤ left := Int.ediv_le_self _ h0.1
    have htd := fun n hn => toNat_div h0.1 hx.1 (n := n) hn
    have hP : patsF ws (ws.drop b.length) left b = downTo (fun n => patsF ws (ws.drop (b.length + 1)) (left - n * ws.getD b.length 0) (b ++ [(n : Int)])) (left / ws.getD b.length 0).toNat := by rw [hdr, patsF]
    have hdw : (ws.drop (b.length + 1)).length ≤ 5 := by simp; omega
    have hsz : ∀ n, n ≤ (left / ws.getD b.length 0).toNat → (patsF ws (ws.drop (b.length + 1)) (left - (n : Int) * ws.getD b.length 0) (b ++ [(n : Int)])).length ≤ 9765625 := fun n hn => by
      have h1 := htd n hn
      have h2 := patsF_length ws (ws.drop (b.length + 1)) (left - (n : Int) * ws.getD b.length 0) (b ++ [(n : Int)]) (fun x hx => (hw x (List.mem_of_mem_drop hx)).1) (by omega) (by omega)
      have h3 : 25 ^ (ws.drop (b.length + 1)).length ≤ 25 ^ 5 := Nat.pow_le_pow_right (by omega) hdw
      have h4 : (25 : Nat) ^ 5 = 9765625 := by decide
      omega
    rw [hP]
    generalize hfd : (fun n : Nat => patsF ws (ws.drop (b.length + 1)) (left - n * ws.getD b.length 0) (b ++ [(n : Int)])) = f at *
    have hf : ∀ n : Nat, f n = patsF ws (ws.drop (b.length + 1)) (left - n * ws.getD b.length 0) (b ++ [(n : Int)]) := fun n => by rw [← hfd]
    have hal : ∀ k, k ≤ (left / ws.getD b.length 0).toNat + 1 → (aheadL f (left / ws.getD b.length 0).toNat k).length ≤ k * 9765625 := by
      intro k
      induction k with
      | zero => intro _; simp [aheadL]
      | succ k ihk =>
        intro hk
        have h1 := ihk (by omega)
        have h2 := hsz ((left / ws.getD b.length 0).toNat - k) (by omega)
        rw [aheadL, List.length_append, hf, Nat.succ_mul]
        omega
    refine Ret_of (args := [_, _, _]) Try.call57 Try.func57 rfl _ Try.ntmps57 rfl ?_
    repeat (first | refine T_move rfl rfl ?_ | refine T_assign rfl rfl ?_ | refine T_nil0 ?_ | refine E_seq ?_ | refine E_region ?_ | refine T_cmp rfl rfl rfl rfl ?_ | refine T_len tyI rfl rfl (Ints.len (by assumption)) ?_)
    refine E_cond_if rfl (fun g1 => ?_) (fun g1 => ?_)
    · omega
    repeat (first | refine E_seq ?_ | refine E_region ?_ | refine E_skip ?_)
    refine T_lit0S 3 tySS rfl (fun u0 w0 hO _ _ hB => ?_)
    have hI0 := hI.later hB
    repeat (first | refine T_move rfl rfl ?_ | refine T_assign rfl rfl ?_ | refine T_nil0 ?_ | refine E_seq ?_ | refine E_region ?_ | refine T_indexN tyI rfl rfl rfl (by assumption) (by omega) ?_ | refine T_loadI Try.isAgg3 rfl rfl (by assumption) (by omega) ?_)
    refine T_quo rfl rfl rfl (by omega) ?_
    repeat (first | refine T_assign rfl rfl ?_ | refine T_nil0 ?_)
    generalize hqd : (left / ws.getD b.length 0).toNat = q at *
    have hqq : left / ws.getD b.length 0 = (q : Int) := by omega
    rw [hqq]
    refine E_loop (σ := Nat × Value × List Value) (fun ⟨k, ov, os⟩ => [(0, .int .i64 left), (1, v), (2, u), (7, .int .i64 b.length), (9, ov), (10, .int .i64 (q - k))])
      (fun ⟨k, ov, os⟩ w' => k ≤ q + 1 ∧ OwnSS w' w.heap.size 22 3 ov os (aheadL f q k) ∧ Below w.heap.size w w') (fun ⟨k, _⟩ => q + 1 - k) (0, u0, [])
      ⟨by omega, hO, hB⟩ ⟨rfl, rfl, rfl, rfl, rfl, slotI rfl (by omega), trivial⟩ ?_
    clear hO hB hI0
    rintro ⟨k, ov, os⟩ w1 ⟨hk, hO, hB⟩ IH
    repeat (first | refine T_move rfl rfl ?_ | refine T_nil0 ?_ | refine E_seq ?_ | refine E_region ?_ | refine T_cmp rfl rfl rfl rfl ?_)
    refine E_cond_if rfl (fun hp1 => ?_) (fun hp1 => ?_)
    case refine_2 =>
      have hke : k = q + 1 := by omega
      subst hke
      rw [aheadL_all] at hO
      repeat' (first | refine T_move rfl rfl ?_ | refine T_assign rfl rfl ?_ | refine T_nil0 ?_ | refine E_seq ?_ | refine E_region ?_ | refine E_exit rfl ?_ | refine E_ret1 rfl rfl ?_)
      exact ⟨os, hO, hB⟩
    have hn := htd (q - k) (by omega)
    have hnc : ((q - k : Nat) : Int) = (q : Int) - k := by omega
    rw [hnc] at hn
    have hI1 := hI.later hB
    have hz := hB.size
    have hbs := hO.blk
    have hlk := hal k hk
    have hsn := hsz (q - k) (by omega)
    rw [hnc] at hsn
    repeat (first | refine E_seq ?_ | refine E_skip ?_ | refine E_blockR ?_)
    refine E_region_held 16 w1.drew follows (by kernel_rfl) ?_
    have hdr1 : Below w1.heap.size w1 w1.drew := (Below.refl _ _).drew
    have hId := hI1.later hdr1
    have hJd := (hJ.later hB).later hdr1
    have hOd := hO.later hdr1
    have hBd := hB.step hB.size hdr1
    have hzd := hdr1.size
    have hdd : w1.drew.heap.size = w1.heap.size := rfl
    generalize w1.drew = w2 at *
    refine X_run 0 11 (by kernel_rfl) (Below.refl _ _) ?_
    repeat (first | refine T_move rfl rfl ?_ | refine T_indexN tyI rfl rfl rfl (by assumption) (by omega) ?_ | refine T_loadI Try.isAgg3 rfl rfl (by assumption) (by omega) ?_)
    refine T_mul rfl rfl rfl (by omega) ?_
    repeat (first | refine T_move rfl rfl ?_ | refine T_nil3 ?_ | refine T_sub rfl rfl rfl (by omega) ?_)
    refine X_run 12 1 (by kernel_rfl) (Below.refl _ _) ?_
    repeat (first | refine T_move rfl rfl ?_ | refine T_nil3 ?_)
    refine X_join 11 13 (fun m' w' => ∃ cv tv, Sub [(0, .int .i64 left), (1, v), (2, u), (7, .int .i64 b.length), (9, ov), (10, .int .i64 (q - k)), (44, ov), (52, .int .i64 (left - (q - k) * ws.getD b.length 0)), (53, v), (55, cv), (57, tv)] m' ∧ OwnI w' w2.heap.size 3 cv b ∧ Ints w'.heap tv [(q : Int) - k] ∧ Below w2.heap.size w2 w')
      (by kernel_rfl) (by kernel_rfl) (by kernel_rfl) (by kernel_rfl) ?_ ?_ ?_
    · refine T_call rfl rfl (copyInts_spec u b w2 hJd (by omega)) (fun c w3 hc => ?_)
      obtain ⟨hc, hb3⟩ := hc
      repeat (first | refine T_nil0 ?_)
      refine ⟨hb3, ?_⟩
      refine T_litI tyI rfl rfl rfl rfl (fun tv w4 ht _ _ hb4 => ?_)
      repeat (first | refine T_nil0 ?_)
      exact ⟨hb3.step hb3.size hb4, c, tv, ⟨rfl, rfl, rfl, rfl, rfl, rfl, rfl, rfl, rfl, rfl, rfl, trivial⟩, hc.later hb4, ht.ints, hb3.step hb3.size hb4⟩
    · refine T_litI tyI rfl rfl rfl rfl (fun tv w3 ht _ _ hb3 => ?_)
      repeat (first | refine T_nil0 ?_)
      refine ⟨hb3, ?_⟩
      refine T_call rfl rfl (copyInts_spec u b w3 (hJd.later hb3) (by omega)) (fun c w4 hc => ?_)
      obtain ⟨hc, hb4⟩ := hc
      repeat (first | refine T_nil0 ?_)
      exact ⟨hb3.step hb3.size hb4, c, tv, ⟨rfl, rfl, rfl, rfl, rfl, rfl, rfl, rfl, rfl, rfl, rfl, trivial⟩, hc.base hb3.size, ht.ints.later hb4, hb3.step hb3.size hb4⟩
    rintro m' w3 ⟨cv, tv, hsub, hc, ht, hb3⟩
    refine X.weaken hsub ?_
    refine X_one 14 (by kernel_rfl) ?_
    refine T_appendI tyI rfl rfl rfl hc ht hb3.size (by simp; omega) (by simp; omega) (fun cv' w4 hc4 hg4 _ => ?_)
    have hb4 := hb3.own hg4 hc.blk (Nat.le_refl _) hb3.size
    repeat (first | refine T_nil0 ?_)
    refine ⟨hb4, ?_⟩
    refine X_one 15 (by kernel_rfl) ?_
    refine T_call rfl rfl (ih v cv' (b ++ [(q : Int) - k]) (left - (q - k) * ws.getD b.length 0) w4 (by simp; omega) (hId.later hb4) hc4.ints (by simp; omega) (by omega)) (fun r w5 hr => ?_)
    obtain ⟨rs, hR, hb5⟩ := hr
    have hB5 := hb4.step hb4.size hb5
    repeat (first | refine T_nil0 ?_)
    refine ⟨hB5, ?_⟩
    refine X_tail (by kernel_rfl) ?_
    have hlb : (b ++ [(q : Int) - k]).length = b.length + 1 := by simp
    rw [hlb] at hR
    have hfk : f (q - k) = patsF ws (ws.drop (b.length + 1)) (left - ((q : Int) - k) * ws.getD b.length 0) (b ++ [(q : Int) - k]) := by rw [hf, hnc]
    rw [← hfk] at hR hsn
    have hO5 := hOd.later hB5
    have hb44 := hb4.size
    have hR := hR.base (B' := w1.heap.size) (by omega)
    refine T_appendSS tySS rfl rfl rfl hO5 hR hbs hz (by have := hB5.size; omega) (by omega) (by omega) (fun ov' w6 hO6 hg6 _ => ?_)
    have hB6 := (hBd.step hBd.size hB5).own hg6 hbs.1 (Nat.le_refl _) (by have := hB5.size; omega)
    repeat (first | refine T_move rfl rfl ?_ | refine T_assign rfl rfl ?_ | refine T_nil0 ?_ | refine E_region ?_ | refine T_sub rfl rfl rfl (by omega) ?_ | refine E_inBlock ?_)
    exact IH (k + 1, ov', _) w6 _ ⟨by omega, hO6, hB6⟩ (by show q + 1 - (k + 1) < q + 1 - k; omega) ⟨rfl, rfl, rfl, rfl, rfl, slotI rfl (by omega), trivial⟩

theorem sFullPatterns_spec (v : Value) (width : Int) (ws : List Int) (w : World) (hI : Ints w.heap v ws) (hl : ws.length ≤ 1048576) :
    Ret Try.prog 26 #[.int .i64 width, v] w (fun r w' => ∃ rs, OwnSS w' w.heap.size 22 3 r rs (fullF width ws) ∧ Below w.heap.size w w') := by
  have no : ¬ (okW width ws ∧ width ≤ 24) → fullF width ws = [] := fun h => by unfold fullF; rw [if_neg h]
  refine Ret_of (args := [_, _]) Try.call26 Try.func26 rfl _ Try.ntmps26 rfl ?_
  repeat (first | refine T_move rfl rfl ?_ | refine T_assign rfl rfl ?_ | refine T_nil0 ?_ | refine E_seq ?_ | refine E_region ?_)
  refine T_call rfl rfl (validWidths_spec v width ws w hI hl) (fun r w1 hr => ?_)
  obtain ⟨rfl, hB⟩ := hr
  repeat (first | refine T_move rfl rfl ?_ | refine T_not rfl rfl ?_)
  refine T_guard rfl rfl (fun g1 => ?_) (fun g1 => ?_)
  · repeat' (first | refine T_assign rfl rfl ?_ | refine T_nil0 ?_ | refine E_seq ?_ | refine E_region ?_ | refine T_off rfl rfl rfl ?_ | refine T_pick_true rfl rfl rfl ?_ | refine E_cond_true rfl ?_ | refine E_ret1 rfl rfl ?_)
    rw [no (fun h => g1 h.1)]
    exact ⟨[], OwnSS.nil _ _ _ _, hB⟩
  have hok := Decidable.not_not.1 g1
  repeat (first | refine T_move rfl rfl ?_ | refine T_nil0 ?_ | refine T_cmp rfl rfl rfl rfl ?_ | refine T_on rfl rfl ?_ | refine T_pick_false rfl rfl rfl ?_)
  refine E_cond_if rfl (fun g2 => ?_) (fun g2 => ?_)
  · repeat' (first | refine T_assign rfl rfl ?_ | refine T_nil0 ?_ | refine E_seq ?_ | refine E_region ?_ | refine E_ret1 rfl rfl ?_)
    rw [no (fun h => by omega)]
    exact ⟨[], OwnSS.nil _ _ _ _, hB⟩
  have hF : fullF width ws = patsF ws (ws.drop ([] : List Int).length) width [] := by unfold fullF; rw [if_pos ⟨hok, by omega⟩]; rfl
  have hw := hok.1
  repeat (first | refine T_move rfl rfl ?_ | refine E_seq ?_ | refine E_region ?_ | refine E_skip ?_)
  refine T_litI tyI rfl rfl rfl rfl (fun u0 w2 h0 _ _ hb => ?_)
  have hB2 := hB.step hB.size hb
  refine T_call rfl rfl (patterns_spec ws (fun x hx => by have := hok.2.2.1 x hx; omega) hok.2.1.2 ws.length v u0 [] width w2 (by simp) (hI.later hB2) h0.ints (by simp) (by omega)) (fun r w3 hr => ?_)
  obtain ⟨rs, hR, hb3⟩ := hr
  repeat' (first | refine T_assign rfl rfl ?_ | refine T_nil0 ?_ | refine E_ret1 rfl rfl ?_)
  exact ⟨rs, by rw [hF]; exact hR.base hB2.size, hB2.step hB2.size hb3⟩
end Go.Proofs.Ytjpbmjigmbfcfaa
