/-
  Contracts: the full patterns of the program. Conditions: the arguments lie in memory as the contract says.
-/
import Derived.Test.YtjpbmjigmbfcfaaC3f
import Derived.Test.YtjpbmjigmbfcfaaClos
namespace Go.PR
open Go Go.RowKit
/-- Where the variables of FullPatterns lie: N: behind all of them; kc: the counts; bw, bn, bl, bc, bf: the boxes. -/
structure FT (B N kc bw bn bl bc bf : Nat) : Prop where
  lo : B ≤ kc ∧ B ≤ bw ∧ B ≤ bn ∧ B ≤ bl ∧ B ≤ bc ∧ B ≤ bf
  hi : kc < N ∧ bw < N ∧ bn < N ∧ bl < N ∧ bc < N ∧ bf < N
  ne : bl ≠ bw ∧ bl ≠ bn ∧ bl ≠ bc ∧ bl ≠ bf ∧ kc ≠ bw ∧ kc ≠ bn ∧ kc ≠ bl ∧ kc ≠ bc ∧ kc ≠ bf
structure FS (W0 : World) (N kc bw bn bl bc bf : Nat) (eo ei : TypeId) (v : Value) (nar : Int) (fv cv : Value) (w : World) (lv : Value) (ls : List Value) (xss : List (List Int)) (cs : List Int) : Prop where
  below : Below W0.heap.size W0 w
  bxw : Box w.heap bw [v]
  bxn : Box w.heap bn [.int .i64 nar]
  bxl : Box w.heap bl [lv]
  bxc : Box w.heap bc [cv]
  bxf : Box w.heap bf [fv]
  cnt : OwnI w W0.heap.size ei cv cs
  cblk : Blk cv kc (kc + 1)
  rws : OwnSS w N eo ei lv ls xss
  size : N ≤ w.heap.size
theorem FS.later {W0 : World} {N kc bw bn bl bc bf : Nat} {eo ei : TypeId} {v : Value} {nar : Int} {fv cv : Value} {w w' : World} {lv : Value} {ls : List Value} {xss : List (List Int)} {cs : List Int} (h : FS W0 N kc bw bn bl bc bf eo ei v nar fv cv w lv ls xss cs) (hb : Below w.heap.size w w') :
    FS W0 N kc bw bn bl bc bf eo ei v nar fv cv w' lv ls xss cs :=
  ⟨h.below.step h.below.size hb, h.bxw.later hb, h.bxn.later hb, h.bxl.later hb, h.bxc.later hb, h.bxf.later hb, h.cnt.later hb, h.cblk, h.rws.later hb, Nat.le_trans h.size hb.size⟩
end Go.PR
namespace Go.Proofs.Ytjpbmjigmbfcfaa
open Go Go.PR Go.RowKit attribute [local irreducible] T E Ints Sl Bools OwnI OwnB OwnR Recs Box Ret
attribute [local irreducible] X

theorem Min_spec (v : Value) (xs : List Int) (w : World) (hI : Ints w.heap v xs) (h1 : 1 ≤ xs.length) (hl : xs.length ≤ 1000000) :
    Ret Try.prog 59 #[v] w (fun u w' => ∃ m, u = .int .i64 m ∧ m ∈ xs ∧ (∀ x ∈ xs, m ≤ x) ∧ w = w') := by
  refine Ret_of (args := [_]) Try.call59 Try.func59 rfl _ Try.ntmps59 rfl ?_
  repeat (first | (first | refine T_move rfl rfl ?_ | refine T_assign rfl rfl ?_ | refine T_nil0 ?_ | refine T_nil1 ?_ | refine T_nil3 ?_ | refine T_nil4 ?_ | refine E_seq ?_ | refine E_region ?_ | refine T_cmp rfl rfl rfl rfl ?_ | refine T_on rfl rfl ?_ | refine T_off rfl rfl rfl ?_ | refine T_offU rfl rfl rfl ?_ | refine T_add rfl rfl rfl (by omega) ?_ | refine T_sub rfl rfl rfl (by omega) ?_ | refine T_pick_true rfl rfl rfl ?_ | refine T_pick_false rfl rfl rfl ?_ | refine E_cond_true rfl ?_ | refine E_cond_false rfl ?_ | refine E_skip ?_ | refine E_blockS ?_ | refine E_blockR ?_ | refine E_blockC ?_ | refine E_blockB ?_ | refine E_inBlock ?_ | refine E_exit rfl ?_ | refine T_not rfl rfl ?_ | refine T_notB rfl rfl ?_ | refine T_max rfl rfl rfl ?_ | refine T_min rfl rfl rfl ?_ | refine T_extract rfl rfl rfl ?_) | (first | refine T_len tyI rfl rfl (Ints.len (by assumption)) ?_ | refine T_indexN tyI rfl rfl rfl (by assumption) (by omega) ?_ | refine T_indexI tyI rfl rfl rfl (by assumption) (by omega) ?_ | refine T_loadI Try.isAgg3 rfl rfl (by assumption) (by omega) ?_))
  refine E_cond_if rfl (fun g1 => ?_) (fun g1 => ?_)
  · omega
  repeat (first | (first | refine T_move rfl rfl ?_ | refine T_assign rfl rfl ?_ | refine T_nil0 ?_ | refine T_nil1 ?_ | refine T_nil3 ?_ | refine T_nil4 ?_ | refine E_seq ?_ | refine E_region ?_ | refine T_cmp rfl rfl rfl rfl ?_ | refine T_on rfl rfl ?_ | refine T_off rfl rfl rfl ?_ | refine T_offU rfl rfl rfl ?_ | refine T_add rfl rfl rfl (by omega) ?_ | refine T_sub rfl rfl rfl (by omega) ?_ | refine T_pick_true rfl rfl rfl ?_ | refine T_pick_false rfl rfl rfl ?_ | refine E_cond_true rfl ?_ | refine E_cond_false rfl ?_ | refine E_skip ?_ | refine E_blockS ?_ | refine E_blockR ?_ | refine E_blockC ?_ | refine E_blockB ?_ | refine E_inBlock ?_ | refine E_exit rfl ?_ | refine T_not rfl rfl ?_ | refine T_notB rfl rfl ?_ | refine T_max rfl rfl rfl ?_ | refine T_min rfl rfl rfl ?_ | refine T_extract rfl rfl rfl ?_) | (first | refine T_len tyI rfl rfl (Ints.len (by assumption)) ?_ | refine T_indexN tyI rfl rfl rfl (by assumption) (by omega) ?_ | refine T_indexI tyI rfl rfl rfl (by assumption) (by omega) ?_ | refine T_loadI Try.isAgg3 rfl rfl (by assumption) (by omega) ?_))
  refine E_loop (σ := Nat × Int) (fun ⟨k, m⟩ => [(0, v), (3, .int .i64 m), (4, .int .i64 k)]) (fun ⟨k, m⟩ w' => w = w' ∧ 1 ≤ k ∧ k ≤ xs.length ∧ m ∈ xs ∧ ∀ j, j < k → m ≤ xs.getD j 0) (fun ⟨k, _⟩ => xs.length - k) (1, xs.getD 0 0)
    ⟨rfl, by omega, by omega, getD_mem (by omega), fun j hj => by have : j = 0 := by omega
                                                                  subst this; exact Int.le_refl _⟩ ⟨rfl, rfl, rfl, trivial⟩ ?_
  rintro ⟨k, m⟩ w1 ⟨rfl, hk1, hk, hm, hall⟩ IH
  repeat (first | (first | refine T_move rfl rfl ?_ | refine T_assign rfl rfl ?_ | refine T_nil0 ?_ | refine T_nil1 ?_ | refine T_nil3 ?_ | refine T_nil4 ?_ | refine E_seq ?_ | refine E_region ?_ | refine T_cmp rfl rfl rfl rfl ?_ | refine T_on rfl rfl ?_ | refine T_off rfl rfl rfl ?_ | refine T_offU rfl rfl rfl ?_ | refine T_add rfl rfl rfl (by omega) ?_ | refine T_sub rfl rfl rfl (by omega) ?_ | refine T_pick_true rfl rfl rfl ?_ | refine T_pick_false rfl rfl rfl ?_ | refine E_cond_true rfl ?_ | refine E_cond_false rfl ?_ | refine E_skip ?_ | refine E_blockS ?_ | refine E_blockR ?_ | refine E_blockC ?_ | refine E_blockB ?_ | refine E_inBlock ?_ | refine E_exit rfl ?_ | refine T_not rfl rfl ?_ | refine T_notB rfl rfl ?_ | refine T_max rfl rfl rfl ?_ | refine T_min rfl rfl rfl ?_ | refine T_extract rfl rfl rfl ?_) | (first | refine T_len tyI rfl rfl (Ints.len (by assumption)) ?_ | refine T_indexN tyI rfl rfl rfl (by assumption) (by omega) ?_ | refine T_indexI tyI rfl rfl rfl (by assumption) (by omega) ?_ | refine T_loadI Try.isAgg3 rfl rfl (by assumption) (by omega) ?_))
  refine E_cond_if rfl (fun hp => ?_) (fun hp => ?_)
  · repeat (first | (first | refine T_move rfl rfl ?_ | refine T_assign rfl rfl ?_ | refine T_nil0 ?_ | refine T_nil1 ?_ | refine T_nil3 ?_ | refine T_nil4 ?_ | refine E_seq ?_ | refine E_region ?_ | refine T_cmp rfl rfl rfl rfl ?_ | refine T_on rfl rfl ?_ | refine T_off rfl rfl rfl ?_ | refine T_offU rfl rfl rfl ?_ | refine T_add rfl rfl rfl (by omega) ?_ | refine T_sub rfl rfl rfl (by omega) ?_ | refine T_pick_true rfl rfl rfl ?_ | refine T_pick_false rfl rfl rfl ?_ | refine E_cond_true rfl ?_ | refine E_cond_false rfl ?_ | refine E_skip ?_ | refine E_blockS ?_ | refine E_blockR ?_ | refine E_blockC ?_ | refine E_blockB ?_ | refine E_inBlock ?_ | refine E_exit rfl ?_ | refine T_not rfl rfl ?_ | refine T_notB rfl rfl ?_ | refine T_max rfl rfl rfl ?_ | refine T_min rfl rfl rfl ?_ | refine T_extract rfl rfl rfl ?_) | (first | refine T_len tyI rfl rfl (Ints.len (by assumption)) ?_ | refine T_indexN tyI rfl rfl rfl (by assumption) (by omega) ?_ | refine T_indexI tyI rfl rfl rfl (by assumption) (by omega) ?_ | refine T_loadI Try.isAgg3 rfl rfl (by assumption) (by omega) ?_))
    refine IH (k + 1, min m (xs.getD k 0)) w _ ⟨rfl, by omega, by omega, ?_, fun j hj => ?_⟩ (by show xs.length - (k + 1) < xs.length - k; omega) ⟨rfl, rfl, rfl, trivial⟩
    · rcases Int.le_total m (xs.getD k 0) with h | h
      · rw [Int.min_eq_left h]; exact hm
      · rw [Int.min_eq_right h]; exact getD_mem (by omega)
    · by_cases e : j = k
      · subst e; omega
      · have := hall j (by omega); omega
  · repeat' (first | (first | refine T_move rfl rfl ?_ | refine T_assign rfl rfl ?_ | refine T_nil0 ?_ | refine T_nil1 ?_ | refine T_nil3 ?_ | refine T_nil4 ?_ | refine E_seq ?_ | refine E_region ?_ | refine T_cmp rfl rfl rfl rfl ?_ | refine T_on rfl rfl ?_ | refine T_off rfl rfl rfl ?_ | refine T_offU rfl rfl rfl ?_ | refine T_add rfl rfl rfl (by omega) ?_ | refine T_sub rfl rfl rfl (by omega) ?_ | refine T_pick_true rfl rfl rfl ?_ | refine T_pick_false rfl rfl rfl ?_ | refine E_cond_true rfl ?_ | refine E_cond_false rfl ?_ | refine E_skip ?_ | refine E_blockS ?_ | refine E_blockR ?_ | refine E_blockC ?_ | refine E_blockB ?_ | refine E_inBlock ?_ | refine E_exit rfl ?_ | refine T_not rfl rfl ?_ | refine T_notB rfl rfl ?_ | refine T_max rfl rfl rfl ?_ | refine T_min rfl rfl rfl ?_ | refine T_extract rfl rfl rfl ?_) | (first | refine T_len tyI rfl rfl (Ints.len (by assumption)) ?_ | refine T_indexN tyI rfl rfl rfl (by assumption) (by omega) ?_ | refine T_indexI tyI rfl rfl rfl (by assumption) (by omega) ?_ | refine T_loadI Try.isAgg3 rfl rfl (by assumption) (by omega) ?_) | (first | refine T_guard rfl rfl (fun hp => ?_) (fun hp => ?_) | refine T_guardB rfl rfl (fun hp => ?_) (fun hp => ?_) | refine E_cond_if rfl (fun hp => ?_) (fun hp => ?_) | refine E_cond_bool rfl (fun hp => ?_) (fun hp => ?_)) | (first | refine E_ret1 rfl rfl ?_ | refine E_ret2 rfl rfl rfl ?_ | refine E_ret3 rfl rfl rfl rfl ?_))
    exact ⟨m, rfl, hm, all_of_getD fun j hj => hall j (by omega), rfl⟩

theorem fill_spec (W0 : World) (N kc bw bn bl bc bf : Nat) (v : Value) (nar : Int) (cv : Value) (ws : List Int) (hFT : FT W0.heap.size N kc bw bn bl bc bf) (hI : Ints W0.heap v ws) (hw : ∀ x ∈ ws, 1 ≤ x ∧ x ≤ 60) (hwl : 1 ≤ ws.length ∧ ws.length ≤ 6) (hnar : nar ∈ ws ∧ ∀ x ∈ ws, nar ≤ x) :
    ∀ (d kind : Nat) (left : Int) (w : World) (lv : Value) (ls : List Value) (xss : List (List Int)) (cs : List Int), ws.length - kind = d → kind ≤ ws.length → 0 ≤ left ∧ left ≤ 24 → cs.length = ws.length →
    FS W0 N kc bw bn bl bc bf 22 3 v nar (.func (.func 60) #[] #[bPtr bw 0, bPtr bn 0, bPtr bl 0, bPtr bc 0, bPtr bf 0]) cv w lv ls xss cs → xss.length + 25 ^ d ≤ 300000000 →
    Ret Try.prog 60 #[.int .i64 kind, .int .i64 left, bPtr bw 0, bPtr bn 0, bPtr bl 0, bPtr bc 0, bPtr bf 0] w (fun r w' => ∃ lv' ls' cs', FS W0 N kc bw bn bl bc bf 22 3 v nar (.func (.func 60) #[] #[bPtr bw 0, bPtr bn 0, bPtr bl 0, bPtr bc 0, bPtr bf 0]) cv w' lv' ls' (xss ++ patsF ws (ws.drop kind) left (cs.take kind)) cs' ∧ cs'.length = ws.length ∧ cs'.take kind = cs.take kind) := by
  have hlo := hFT.lo
  have hhi := hFT.hi
  have hne := hFT.ne
  have hfull : ∀ left, full ws left ↔ left < nar := fun left => ⟨fun h => h _ hnar.1, fun h x hx => by have := hnar.2 x hx; omega⟩
  intro d
  induction d with
  | zero =>
    intro kind left w lv ls xss cs hd hk h0 hcl hS hsz
    have hke : kind = ws.length := by omega
    have hP : patsF ws (ws.drop kind) left (cs.take kind) = if full ws left then [cs] else [] := by rw [hke, List.drop_length, ← hcl, List.take_length, patsF]
    rw [hP]
    have hIw := hI.later hS.below
    refine Ret_of (args := [_, _, _, _, _, _, _]) Try.call60 Try.func60 rfl _ Try.ntmps60 rfl ?_
    repeat (first | (first | refine T_move rfl rfl ?_ | refine T_assign rfl rfl ?_ | refine T_nil0 ?_ | refine T_nil1 ?_ | refine T_nil3 ?_ | refine T_nil4 ?_ | refine E_seq ?_ | refine E_region ?_ | refine T_cmp rfl rfl rfl rfl ?_ | refine T_on rfl rfl ?_ | refine T_off rfl rfl rfl ?_ | refine T_offU rfl rfl rfl ?_ | refine T_add rfl rfl rfl (by omega) ?_ | refine T_sub rfl rfl rfl (by omega) ?_ | refine T_pick_true rfl rfl rfl ?_ | refine T_pick_false rfl rfl rfl ?_ | refine E_cond_true rfl ?_ | refine E_cond_false rfl ?_ | refine E_skip ?_ | refine E_blockS ?_ | refine E_blockR ?_ | refine E_blockC ?_ | refine E_blockB ?_ | refine E_inBlock ?_ | refine E_exit rfl ?_ | refine T_not rfl rfl ?_ | refine T_notB rfl rfl ?_ | refine T_max rfl rfl rfl ?_ | refine T_min rfl rfl rfl ?_ | refine T_extract rfl rfl rfl ?_) | (first | refine T_len tyI rfl rfl (Ints.len (by assumption)) ?_ | refine T_indexN tyI rfl rfl rfl (by assumption) (by omega) ?_ | refine T_indexI tyI rfl rfl rfl (by assumption) (by omega) ?_ | refine T_loadI Try.isAgg3 rfl rfl (by assumption) (by omega) ?_))
    refine T_loadBox Try.isAgg22 rfl rfl hS.bxw rfl ?_
    repeat (first | (first | refine T_move rfl rfl ?_ | refine T_assign rfl rfl ?_ | refine T_nil0 ?_ | refine T_nil1 ?_ | refine T_nil3 ?_ | refine T_nil4 ?_ | refine E_seq ?_ | refine E_region ?_ | refine T_cmp rfl rfl rfl rfl ?_ | refine T_on rfl rfl ?_ | refine T_off rfl rfl rfl ?_ | refine T_offU rfl rfl rfl ?_ | refine T_add rfl rfl rfl (by omega) ?_ | refine T_sub rfl rfl rfl (by omega) ?_ | refine T_pick_true rfl rfl rfl ?_ | refine T_pick_false rfl rfl rfl ?_ | refine E_cond_true rfl ?_ | refine E_cond_false rfl ?_ | refine E_skip ?_ | refine E_blockS ?_ | refine E_blockR ?_ | refine E_blockC ?_ | refine E_blockB ?_ | refine E_inBlock ?_ | refine E_exit rfl ?_ | refine T_not rfl rfl ?_ | refine T_notB rfl rfl ?_ | refine T_max rfl rfl rfl ?_ | refine T_min rfl rfl rfl ?_ | refine T_extract rfl rfl rfl ?_) | (first | refine T_len tyI rfl rfl (Ints.len (by assumption)) ?_ | refine T_indexN tyI rfl rfl rfl (by assumption) (by omega) ?_ | refine T_indexI tyI rfl rfl rfl (by assumption) (by omega) ?_ | refine T_loadI Try.isAgg3 rfl rfl (by assumption) (by omega) ?_))
    refine E_cond_if rfl (fun g1 => ?_) (fun g1 => ?_)
    case refine_2 => omega
    repeat (first | (first | refine T_move rfl rfl ?_ | refine T_assign rfl rfl ?_ | refine T_nil0 ?_ | refine T_nil1 ?_ | refine T_nil3 ?_ | refine T_nil4 ?_ | refine E_seq ?_ | refine E_region ?_ | refine T_cmp rfl rfl rfl rfl ?_ | refine T_on rfl rfl ?_ | refine T_off rfl rfl rfl ?_ | refine T_offU rfl rfl rfl ?_ | refine T_add rfl rfl rfl (by omega) ?_ | refine T_sub rfl rfl rfl (by omega) ?_ | refine T_pick_true rfl rfl rfl ?_ | refine T_pick_false rfl rfl rfl ?_ | refine E_cond_true rfl ?_ | refine E_cond_false rfl ?_ | refine E_skip ?_ | refine E_blockS ?_ | refine E_blockR ?_ | refine E_blockC ?_ | refine E_blockB ?_ | refine E_inBlock ?_ | refine E_exit rfl ?_ | refine T_not rfl rfl ?_ | refine T_notB rfl rfl ?_ | refine T_max rfl rfl rfl ?_ | refine T_min rfl rfl rfl ?_ | refine T_extract rfl rfl rfl ?_) | (first | refine T_len tyI rfl rfl (Ints.len (by assumption)) ?_ | refine T_indexN tyI rfl rfl rfl (by assumption) (by omega) ?_ | refine T_indexI tyI rfl rfl rfl (by assumption) (by omega) ?_ | refine T_loadI Try.isAgg3 rfl rfl (by assumption) (by omega) ?_))
    refine T_loadBox Try.isAgg3 rfl rfl hS.bxn rfl ?_
    repeat (first | (first | refine T_move rfl rfl ?_ | refine T_assign rfl rfl ?_ | refine T_nil0 ?_ | refine T_nil1 ?_ | refine T_nil3 ?_ | refine T_nil4 ?_ | refine E_seq ?_ | refine E_region ?_ | refine T_cmp rfl rfl rfl rfl ?_ | refine T_on rfl rfl ?_ | refine T_off rfl rfl rfl ?_ | refine T_offU rfl rfl rfl ?_ | refine T_add rfl rfl rfl (by omega) ?_ | refine T_sub rfl rfl rfl (by omega) ?_ | refine T_pick_true rfl rfl rfl ?_ | refine T_pick_false rfl rfl rfl ?_ | refine E_cond_true rfl ?_ | refine E_cond_false rfl ?_ | refine E_skip ?_ | refine E_blockS ?_ | refine E_blockR ?_ | refine E_blockC ?_ | refine E_blockB ?_ | refine E_inBlock ?_ | refine E_exit rfl ?_ | refine T_not rfl rfl ?_ | refine T_notB rfl rfl ?_ | refine T_max rfl rfl rfl ?_ | refine T_min rfl rfl rfl ?_ | refine T_extract rfl rfl rfl ?_) | (first | refine T_len tyI rfl rfl (Ints.len (by assumption)) ?_ | refine T_indexN tyI rfl rfl rfl (by assumption) (by omega) ?_ | refine T_indexI tyI rfl rfl rfl (by assumption) (by omega) ?_ | refine T_loadI Try.isAgg3 rfl rfl (by assumption) (by omega) ?_))
    refine E_cond_if rfl (fun g2 => ?_) (fun g2 => ?_)
    case refine_2 =>
      repeat (first | (first | refine T_move rfl rfl ?_ | refine T_assign rfl rfl ?_ | refine T_nil0 ?_ | refine T_nil1 ?_ | refine T_nil3 ?_ | refine T_nil4 ?_ | refine E_seq ?_ | refine E_region ?_ | refine T_cmp rfl rfl rfl rfl ?_ | refine T_on rfl rfl ?_ | refine T_off rfl rfl rfl ?_ | refine T_offU rfl rfl rfl ?_ | refine T_add rfl rfl rfl (by omega) ?_ | refine T_sub rfl rfl rfl (by omega) ?_ | refine T_pick_true rfl rfl rfl ?_ | refine T_pick_false rfl rfl rfl ?_ | refine E_cond_true rfl ?_ | refine E_cond_false rfl ?_ | refine E_skip ?_ | refine E_blockS ?_ | refine E_blockR ?_ | refine E_blockC ?_ | refine E_blockB ?_ | refine E_inBlock ?_ | refine E_exit rfl ?_ | refine T_not rfl rfl ?_ | refine T_notB rfl rfl ?_ | refine T_max rfl rfl rfl ?_ | refine T_min rfl rfl rfl ?_ | refine T_extract rfl rfl rfl ?_) | (first | refine T_len tyI rfl rfl (Ints.len (by assumption)) ?_ | refine T_indexN tyI rfl rfl rfl (by assumption) (by omega) ?_ | refine T_indexI tyI rfl rfl rfl (by assumption) (by omega) ?_ | refine T_loadI Try.isAgg3 rfl rfl (by assumption) (by omega) ?_))
      refine E_ret0 rfl ?_
      rw [if_neg (fun h => g2 ((hfull left).1 h)), List.append_nil]
      exact ⟨lv, ls, cs, hS, hcl, rfl⟩
    rw [if_pos ((hfull left).2 g2)]
    repeat (first | (first | refine T_move rfl rfl ?_ | refine T_assign rfl rfl ?_ | refine T_nil0 ?_ | refine T_nil1 ?_ | refine T_nil3 ?_ | refine T_nil4 ?_ | refine E_seq ?_ | refine E_region ?_ | refine T_cmp rfl rfl rfl rfl ?_ | refine T_on rfl rfl ?_ | refine T_off rfl rfl rfl ?_ | refine T_offU rfl rfl rfl ?_ | refine T_add rfl rfl rfl (by omega) ?_ | refine T_sub rfl rfl rfl (by omega) ?_ | refine T_pick_true rfl rfl rfl ?_ | refine T_pick_false rfl rfl rfl ?_ | refine E_cond_true rfl ?_ | refine E_cond_false rfl ?_ | refine E_skip ?_ | refine E_blockS ?_ | refine E_blockR ?_ | refine E_blockC ?_ | refine E_blockB ?_ | refine E_inBlock ?_ | refine E_exit rfl ?_ | refine T_not rfl rfl ?_ | refine T_notB rfl rfl ?_ | refine T_max rfl rfl rfl ?_ | refine T_min rfl rfl rfl ?_ | refine T_extract rfl rfl rfl ?_) | (first | refine T_len tyI rfl rfl (Ints.len (by assumption)) ?_ | refine T_indexN tyI rfl rfl rfl (by assumption) (by omega) ?_ | refine T_indexI tyI rfl rfl rfl (by assumption) (by omega) ?_ | refine T_loadI Try.isAgg3 rfl rfl (by assumption) (by omega) ?_))
    refine E_region_held 4 w.drew follows (by kernel_rfl) ?_
    have hdr : Below w.heap.size w w.drew := (Below.refl _ _).drew
    have hS := hS.later hdr
    generalize w.drew = w1 at *
    refine X_run 0 2 (by kernel_rfl) (Below.refl _ _) ?_
    refine T_loadBox Try.isAgg36 rfl rfl hS.bxl rfl ?_
    refine T_loadBox Try.isAgg22 rfl rfl hS.bxc rfl ?_
    repeat (first | (first | refine T_move rfl rfl ?_ | refine T_assign rfl rfl ?_ | refine T_nil0 ?_ | refine T_nil1 ?_ | refine T_nil3 ?_ | refine T_nil4 ?_ | refine E_seq ?_ | refine E_region ?_ | refine T_cmp rfl rfl rfl rfl ?_ | refine T_on rfl rfl ?_ | refine T_off rfl rfl rfl ?_ | refine T_offU rfl rfl rfl ?_ | refine T_add rfl rfl rfl (by omega) ?_ | refine T_sub rfl rfl rfl (by omega) ?_ | refine T_pick_true rfl rfl rfl ?_ | refine T_pick_false rfl rfl rfl ?_ | refine E_cond_true rfl ?_ | refine E_cond_false rfl ?_ | refine E_skip ?_ | refine E_blockS ?_ | refine E_blockR ?_ | refine E_blockC ?_ | refine E_blockB ?_ | refine E_inBlock ?_ | refine E_exit rfl ?_ | refine T_not rfl rfl ?_ | refine T_notB rfl rfl ?_ | refine T_max rfl rfl rfl ?_ | refine T_min rfl rfl rfl ?_ | refine T_extract rfl rfl rfl ?_) | (first | refine T_len tyI rfl rfl (Ints.len (by assumption)) ?_ | refine T_indexN tyI rfl rfl rfl (by assumption) (by omega) ?_ | refine T_indexI tyI rfl rfl rfl (by assumption) (by omega) ?_ | refine T_loadI Try.isAgg3 rfl rfl (by assumption) (by omega) ?_))
    refine X_one 2 (by kernel_rfl) ?_
    refine T_call rfl rfl (Clone_spec cv cs w1 hS.cnt.ints (by omega)) (fun c w2 hc => ?_)
    obtain ⟨hc, hb⟩ := hc
    repeat (first | (first | refine T_move rfl rfl ?_ | refine T_assign rfl rfl ?_ | refine T_nil0 ?_ | refine T_nil1 ?_ | refine T_nil3 ?_ | refine T_nil4 ?_ | refine E_seq ?_ | refine E_region ?_ | refine T_cmp rfl rfl rfl rfl ?_ | refine T_on rfl rfl ?_ | refine T_off rfl rfl rfl ?_ | refine T_offU rfl rfl rfl ?_ | refine T_add rfl rfl rfl (by omega) ?_ | refine T_sub rfl rfl rfl (by omega) ?_ | refine T_pick_true rfl rfl rfl ?_ | refine T_pick_false rfl rfl rfl ?_ | refine E_cond_true rfl ?_ | refine E_cond_false rfl ?_ | refine E_skip ?_ | refine E_blockS ?_ | refine E_blockR ?_ | refine E_blockC ?_ | refine E_blockB ?_ | refine E_inBlock ?_ | refine E_exit rfl ?_ | refine T_not rfl rfl ?_ | refine T_notB rfl rfl ?_ | refine T_max rfl rfl rfl ?_ | refine T_min rfl rfl rfl ?_ | refine T_extract rfl rfl rfl ?_) | (first | refine T_len tyI rfl rfl (Ints.len (by assumption)) ?_ | refine T_indexN tyI rfl rfl rfl (by assumption) (by omega) ?_ | refine T_indexI tyI rfl rfl rfl (by assumption) (by omega) ?_ | refine T_loadI Try.isAgg3 rfl rfl (by assumption) (by omega) ?_))
    refine ⟨hb, ?_⟩
    have hbs := hS.rws.blk
    have hsize := hS.size
    have hS2 := hS.later hb
    refine X_one 3 (by kernel_rfl) ?_
    refine T_litS tySS rfl rfl hc hb.size (fun t w3 ht _ _ hb3 => ?_)
    repeat (first | (first | refine T_move rfl rfl ?_ | refine T_assign rfl rfl ?_ | refine T_nil0 ?_ | refine T_nil1 ?_ | refine T_nil3 ?_ | refine T_nil4 ?_ | refine E_seq ?_ | refine E_region ?_ | refine T_cmp rfl rfl rfl rfl ?_ | refine T_on rfl rfl ?_ | refine T_off rfl rfl rfl ?_ | refine T_offU rfl rfl rfl ?_ | refine T_add rfl rfl rfl (by omega) ?_ | refine T_sub rfl rfl rfl (by omega) ?_ | refine T_pick_true rfl rfl rfl ?_ | refine T_pick_false rfl rfl rfl ?_ | refine E_cond_true rfl ?_ | refine E_cond_false rfl ?_ | refine E_skip ?_ | refine E_blockS ?_ | refine E_blockR ?_ | refine E_blockC ?_ | refine E_blockB ?_ | refine E_inBlock ?_ | refine E_exit rfl ?_ | refine T_not rfl rfl ?_ | refine T_notB rfl rfl ?_ | refine T_max rfl rfl rfl ?_ | refine T_min rfl rfl rfl ?_ | refine T_extract rfl rfl rfl ?_) | (first | refine T_len tyI rfl rfl (Ints.len (by assumption)) ?_ | refine T_indexN tyI rfl rfl rfl (by assumption) (by omega) ?_ | refine T_indexI tyI rfl rfl rfl (by assumption) (by omega) ?_ | refine T_loadI Try.isAgg3 rfl rfl (by assumption) (by omega) ?_))
    have hB3 := hb.step hb.size hb3
    refine ⟨hB3, ?_⟩
    have hS3 := hS2.later hb3
    refine X_tail (by kernel_rfl) ?_
    refine T_appendSS tySS rfl rfl rfl hS3.rws ht hbs (by omega) (by have := hB3.size; omega) (by simp; omega) (by simp; omega) (fun lv' w4 hO4 hg4 _ => ?_)
    have hst := Stay.of_grown hg4 hbs.1
    have b1 := hS3.bxw.stay hst (.inl (by omega))
    have b2 := hS3.bxn.stay hst (.inl (by omega))
    have b3 := hS3.bxl.stay hst (.inl (by omega))
    have b4 := hS3.bxc.stay hst (.inl (by omega))
    have b5 := hS3.bxf.stay hst (.inl (by omega))
    have c1 := hS3.cnt.stay hst hS3.cblk (.inl (by omega))
    have hB4 := hst.below hS3.below (by omega) (by have := hS3.size; omega)
    have hz4 := hg4.size
    refine T_storeBox Try.sizeOf36 rfl rfl (by rcases hO4.own.2 with ⟨e, _⟩ | ⟨g, c, cu, e, _⟩ <;> rw [e] <;> rfl) b3 (by simp) (fun w5 b35 hg5 hs5 => ?_)
    have hst5 := Stay.of_box hg5
    have b35 : Box w5.heap bl [lv'] := b35
    repeat (first | (first | refine T_move rfl rfl ?_ | refine T_assign rfl rfl ?_ | refine T_nil0 ?_ | refine T_nil1 ?_ | refine T_nil3 ?_ | refine T_nil4 ?_ | refine E_seq ?_ | refine E_region ?_ | refine T_cmp rfl rfl rfl rfl ?_ | refine T_on rfl rfl ?_ | refine T_off rfl rfl rfl ?_ | refine T_offU rfl rfl rfl ?_ | refine T_add rfl rfl rfl (by omega) ?_ | refine T_sub rfl rfl rfl (by omega) ?_ | refine T_pick_true rfl rfl rfl ?_ | refine T_pick_false rfl rfl rfl ?_ | refine E_cond_true rfl ?_ | refine E_cond_false rfl ?_ | refine E_skip ?_ | refine E_blockS ?_ | refine E_blockR ?_ | refine E_blockC ?_ | refine E_blockB ?_ | refine E_inBlock ?_ | refine E_exit rfl ?_ | refine T_not rfl rfl ?_ | refine T_notB rfl rfl ?_ | refine T_max rfl rfl rfl ?_ | refine T_min rfl rfl rfl ?_ | refine T_extract rfl rfl rfl ?_) | (first | refine T_len tyI rfl rfl (Ints.len (by assumption)) ?_ | refine T_indexN tyI rfl rfl rfl (by assumption) (by omega) ?_ | refine T_indexI tyI rfl rfl rfl (by assumption) (by omega) ?_ | refine T_loadI Try.isAgg3 rfl rfl (by assumption) (by omega) ?_))
    refine E_ret0 rfl ?_
    have hz3 := hS3.size
    refine ⟨lv', _, cs, ⟨hst5.below hB4 (by omega) (by omega), b1.stay hst5 (by omega), b2.stay hst5 (by omega), b35, b4.stay hst5 (by omega), b5.stay hst5 (by omega), c1.stay hst5 hS3.cblk (by omega), hS3.cblk, hO4.stay hst5 hO4.blk (.inr (by omega)), by omega⟩, hcl, rfl⟩
  | succ d ih =>
    intro kind left w lv ls xss cs hd hk h0 hcl hS hsz
    have hkl : kind < ws.length := by omega
    have hx := hw _ (getD_mem (xs := ws) (k := kind) hkl)
    have hdr : ws.drop kind = ws.getD kind 0 :: ws.drop (kind + 1) := drop_cons hkl
    have hq0 : 0 ≤ left / ws.getD kind 0 := Int.ediv_nonneg h0.1 (by omega)
    have hq1 : left / ws.getD kind 0 ≤ left := Int.ediv_le_self _ h0.1
    have htd := fun n hn => toNat_div h0.1 hx.1 (n := n) hn
    have hP : patsF ws (ws.drop kind) left (cs.take kind) = downTo (fun n => patsF ws (ws.drop (kind + 1)) (left - n * ws.getD kind 0) (cs.take kind ++ [(n : Int)])) (left / ws.getD kind 0).toNat := by rw [hdr, patsF]
    have hdw : (ws.drop (kind + 1)).length = d := by simp; omega
    have hsn : ∀ n, n ≤ (left / ws.getD kind 0).toNat → (patsF ws (ws.drop (kind + 1)) (left - (n : Int) * ws.getD kind 0) (cs.take kind ++ [(n : Int)])).length ≤ 25 ^ d := fun n hn => by
      have h1 := htd n hn
      have h2 := patsF_length ws (ws.drop (kind + 1)) (left - (n : Int) * ws.getD kind 0) (cs.take kind ++ [(n : Int)]) (fun x hx => (hw x (List.mem_of_mem_drop hx)).1) (by omega) (by omega)
      rw [hdw] at h2
      exact h2
    rw [hP]
    generalize hfd : (fun n : Nat => patsF ws (ws.drop (kind + 1)) (left - n * ws.getD kind 0) (cs.take kind ++ [(n : Int)])) = f at *
    have hf : ∀ n : Nat, f n = patsF ws (ws.drop (kind + 1)) (left - n * ws.getD kind 0) (cs.take kind ++ [(n : Int)]) := fun n => by rw [← hfd]
    have hal : ∀ k, k ≤ (left / ws.getD kind 0).toNat + 1 → (aheadL f (left / ws.getD kind 0).toNat k).length ≤ k * 25 ^ d := by
      intro k
      induction k with
      | zero => intro _; simp [aheadL]
      | succ k ihk =>
        intro hk
        have h1 := ihk (by omega)
        have h2 := hsn ((left / ws.getD kind 0).toNat - k) (by omega)
        rw [aheadL, List.length_append, hf, Nat.succ_mul]
        omega
    rw [Nat.pow_succ] at hsz
    have hIw := hI.later hS.below
    refine Ret_of (args := [_, _, _, _, _, _, _]) Try.call60 Try.func60 rfl _ Try.ntmps60 rfl ?_
    repeat (first | (first | refine T_move rfl rfl ?_ | refine T_assign rfl rfl ?_ | refine T_nil0 ?_ | refine T_nil1 ?_ | refine T_nil3 ?_ | refine T_nil4 ?_ | refine E_seq ?_ | refine E_region ?_ | refine T_cmp rfl rfl rfl rfl ?_ | refine T_on rfl rfl ?_ | refine T_off rfl rfl rfl ?_ | refine T_offU rfl rfl rfl ?_ | refine T_add rfl rfl rfl (by omega) ?_ | refine T_sub rfl rfl rfl (by omega) ?_ | refine T_pick_true rfl rfl rfl ?_ | refine T_pick_false rfl rfl rfl ?_ | refine E_cond_true rfl ?_ | refine E_cond_false rfl ?_ | refine E_skip ?_ | refine E_blockS ?_ | refine E_blockR ?_ | refine E_blockC ?_ | refine E_blockB ?_ | refine E_inBlock ?_ | refine E_exit rfl ?_ | refine T_not rfl rfl ?_ | refine T_notB rfl rfl ?_ | refine T_max rfl rfl rfl ?_ | refine T_min rfl rfl rfl ?_ | refine T_extract rfl rfl rfl ?_) | (first | refine T_len tyI rfl rfl (Ints.len (by assumption)) ?_ | refine T_indexN tyI rfl rfl rfl (by assumption) (by omega) ?_ | refine T_indexI tyI rfl rfl rfl (by assumption) (by omega) ?_ | refine T_loadI Try.isAgg3 rfl rfl (by assumption) (by omega) ?_))
    refine T_loadBox Try.isAgg22 rfl rfl hS.bxw rfl ?_
    repeat (first | (first | refine T_move rfl rfl ?_ | refine T_assign rfl rfl ?_ | refine T_nil0 ?_ | refine T_nil1 ?_ | refine T_nil3 ?_ | refine T_nil4 ?_ | refine E_seq ?_ | refine E_region ?_ | refine T_cmp rfl rfl rfl rfl ?_ | refine T_on rfl rfl ?_ | refine T_off rfl rfl rfl ?_ | refine T_offU rfl rfl rfl ?_ | refine T_add rfl rfl rfl (by omega) ?_ | refine T_sub rfl rfl rfl (by omega) ?_ | refine T_pick_true rfl rfl rfl ?_ | refine T_pick_false rfl rfl rfl ?_ | refine E_cond_true rfl ?_ | refine E_cond_false rfl ?_ | refine E_skip ?_ | refine E_blockS ?_ | refine E_blockR ?_ | refine E_blockC ?_ | refine E_blockB ?_ | refine E_inBlock ?_ | refine E_exit rfl ?_ | refine T_not rfl rfl ?_ | refine T_notB rfl rfl ?_ | refine T_max rfl rfl rfl ?_ | refine T_min rfl rfl rfl ?_ | refine T_extract rfl rfl rfl ?_) | (first | refine T_len tyI rfl rfl (Ints.len (by assumption)) ?_ | refine T_indexN tyI rfl rfl rfl (by assumption) (by omega) ?_ | refine T_indexI tyI rfl rfl rfl (by assumption) (by omega) ?_ | refine T_loadI Try.isAgg3 rfl rfl (by assumption) (by omega) ?_))
    refine E_cond_if rfl (fun g1 => ?_) (fun g1 => ?_)
    · omega
    repeat (first | (first | refine T_move rfl rfl ?_ | refine T_assign rfl rfl ?_ | refine T_nil0 ?_ | refine T_nil1 ?_ | refine T_nil3 ?_ | refine T_nil4 ?_ | refine E_seq ?_ | refine E_region ?_ | refine T_cmp rfl rfl rfl rfl ?_ | refine T_on rfl rfl ?_ | refine T_off rfl rfl rfl ?_ | refine T_offU rfl rfl rfl ?_ | refine T_add rfl rfl rfl (by omega) ?_ | refine T_sub rfl rfl rfl (by omega) ?_ | refine T_pick_true rfl rfl rfl ?_ | refine T_pick_false rfl rfl rfl ?_ | refine E_cond_true rfl ?_ | refine E_cond_false rfl ?_ | refine E_skip ?_ | refine E_blockS ?_ | refine E_blockR ?_ | refine E_blockC ?_ | refine E_blockB ?_ | refine E_inBlock ?_ | refine E_exit rfl ?_ | refine T_not rfl rfl ?_ | refine T_notB rfl rfl ?_ | refine T_max rfl rfl rfl ?_ | refine T_min rfl rfl rfl ?_ | refine T_extract rfl rfl rfl ?_) | (first | refine T_len tyI rfl rfl (Ints.len (by assumption)) ?_ | refine T_indexN tyI rfl rfl rfl (by assumption) (by omega) ?_ | refine T_indexI tyI rfl rfl rfl (by assumption) (by omega) ?_ | refine T_loadI Try.isAgg3 rfl rfl (by assumption) (by omega) ?_))
    refine T_loadBox Try.isAgg22 rfl rfl hS.bxw rfl ?_
    repeat (first | (first | refine T_move rfl rfl ?_ | refine T_assign rfl rfl ?_ | refine T_nil0 ?_ | refine T_nil1 ?_ | refine T_nil3 ?_ | refine T_nil4 ?_ | refine E_seq ?_ | refine E_region ?_ | refine T_cmp rfl rfl rfl rfl ?_ | refine T_on rfl rfl ?_ | refine T_off rfl rfl rfl ?_ | refine T_offU rfl rfl rfl ?_ | refine T_add rfl rfl rfl (by omega) ?_ | refine T_sub rfl rfl rfl (by omega) ?_ | refine T_pick_true rfl rfl rfl ?_ | refine T_pick_false rfl rfl rfl ?_ | refine E_cond_true rfl ?_ | refine E_cond_false rfl ?_ | refine E_skip ?_ | refine E_blockS ?_ | refine E_blockR ?_ | refine E_blockC ?_ | refine E_blockB ?_ | refine E_inBlock ?_ | refine E_exit rfl ?_ | refine T_not rfl rfl ?_ | refine T_notB rfl rfl ?_ | refine T_max rfl rfl rfl ?_ | refine T_min rfl rfl rfl ?_ | refine T_extract rfl rfl rfl ?_) | (first | refine T_len tyI rfl rfl (Ints.len (by assumption)) ?_ | refine T_indexN tyI rfl rfl rfl (by assumption) (by omega) ?_ | refine T_indexI tyI rfl rfl rfl (by assumption) (by omega) ?_ | refine T_loadI Try.isAgg3 rfl rfl (by assumption) (by omega) ?_))
    refine T_quo rfl rfl rfl (by omega) ?_
    repeat (first | (first | refine T_move rfl rfl ?_ | refine T_assign rfl rfl ?_ | refine T_nil0 ?_ | refine T_nil1 ?_ | refine T_nil3 ?_ | refine T_nil4 ?_ | refine E_seq ?_ | refine E_region ?_ | refine T_cmp rfl rfl rfl rfl ?_ | refine T_on rfl rfl ?_ | refine T_off rfl rfl rfl ?_ | refine T_offU rfl rfl rfl ?_ | refine T_add rfl rfl rfl (by omega) ?_ | refine T_sub rfl rfl rfl (by omega) ?_ | refine T_pick_true rfl rfl rfl ?_ | refine T_pick_false rfl rfl rfl ?_ | refine E_cond_true rfl ?_ | refine E_cond_false rfl ?_ | refine E_skip ?_ | refine E_blockS ?_ | refine E_blockR ?_ | refine E_blockC ?_ | refine E_blockB ?_ | refine E_inBlock ?_ | refine E_exit rfl ?_ | refine T_not rfl rfl ?_ | refine T_notB rfl rfl ?_ | refine T_max rfl rfl rfl ?_ | refine T_min rfl rfl rfl ?_ | refine T_extract rfl rfl rfl ?_) | (first | refine T_len tyI rfl rfl (Ints.len (by assumption)) ?_ | refine T_indexN tyI rfl rfl rfl (by assumption) (by omega) ?_ | refine T_indexI tyI rfl rfl rfl (by assumption) (by omega) ?_ | refine T_loadI Try.isAgg3 rfl rfl (by assumption) (by omega) ?_))
    generalize hqd : (left / ws.getD kind 0).toNat = q at *
    have hqq : left / ws.getD kind 0 = (q : Int) := by omega
    rw [hqq]
    generalize hpd : 25 ^ d = pd at *
    have hq24 : q ≤ 24 := by omega
    refine E_loop (σ := Nat × Value × List Value × List Int) (fun ⟨k, lv, ls, cs'⟩ => [(0, .int .i64 kind), (1, .int .i64 left), (2, bPtr bw 0), (3, bPtr bn 0), (4, bPtr bl 0), (5, bPtr bc 0), (6, bPtr bf 0), (9, .int .i64 (q - k))])
      (fun ⟨k, lv, ls, cs'⟩ w' => k ≤ q + 1 ∧ cs'.length = ws.length ∧ cs'.take kind = cs.take kind ∧ FS W0 N kc bw bn bl bc bf 22 3 v nar (.func (.func 60) #[] #[bPtr bw 0, bPtr bn 0, bPtr bl 0, bPtr bc 0, bPtr bf 0]) cv w' lv ls (xss ++ aheadL f q k) cs') (fun ⟨k, _⟩ => q + 1 - k) (0, lv, ls, cs)
      ⟨by omega, hcl, rfl, by simpa [aheadL] using hS⟩ ⟨rfl, rfl, rfl, rfl, rfl, rfl, rfl, slotI rfl (by omega), trivial⟩ ?_
    clear hS hIw
    rintro ⟨k, lv, ls, cs'⟩ w1 ⟨hk1, hcl', htk, hS⟩ IH
    repeat (first | (first | refine T_move rfl rfl ?_ | refine T_assign rfl rfl ?_ | refine T_nil0 ?_ | refine T_nil1 ?_ | refine T_nil3 ?_ | refine T_nil4 ?_ | refine E_seq ?_ | refine E_region ?_ | refine T_cmp rfl rfl rfl rfl ?_ | refine T_on rfl rfl ?_ | refine T_off rfl rfl rfl ?_ | refine T_offU rfl rfl rfl ?_ | refine T_add rfl rfl rfl (by omega) ?_ | refine T_sub rfl rfl rfl (by omega) ?_ | refine T_pick_true rfl rfl rfl ?_ | refine T_pick_false rfl rfl rfl ?_ | refine E_cond_true rfl ?_ | refine E_cond_false rfl ?_ | refine E_skip ?_ | refine E_blockS ?_ | refine E_blockR ?_ | refine E_blockC ?_ | refine E_blockB ?_ | refine E_inBlock ?_ | refine E_exit rfl ?_ | refine T_not rfl rfl ?_ | refine T_notB rfl rfl ?_ | refine T_max rfl rfl rfl ?_ | refine T_min rfl rfl rfl ?_ | refine T_extract rfl rfl rfl ?_) | (first | refine T_len tyI rfl rfl (Ints.len (by assumption)) ?_ | refine T_indexN tyI rfl rfl rfl (by assumption) (by omega) ?_ | refine T_indexI tyI rfl rfl rfl (by assumption) (by omega) ?_ | refine T_loadI Try.isAgg3 rfl rfl (by assumption) (by omega) ?_))
    refine E_cond_if rfl (fun hp1 => ?_) (fun hp1 => ?_)
    case refine_2 =>
      have hke : k = q + 1 := by omega
      subst hke
      rw [aheadL_all] at hS
      repeat (first | (first | refine T_move rfl rfl ?_ | refine T_assign rfl rfl ?_ | refine T_nil0 ?_ | refine T_nil1 ?_ | refine T_nil3 ?_ | refine T_nil4 ?_ | refine E_seq ?_ | refine E_region ?_ | refine T_cmp rfl rfl rfl rfl ?_ | refine T_on rfl rfl ?_ | refine T_off rfl rfl rfl ?_ | refine T_offU rfl rfl rfl ?_ | refine T_add rfl rfl rfl (by omega) ?_ | refine T_sub rfl rfl rfl (by omega) ?_ | refine T_pick_true rfl rfl rfl ?_ | refine T_pick_false rfl rfl rfl ?_ | refine E_cond_true rfl ?_ | refine E_cond_false rfl ?_ | refine E_skip ?_ | refine E_blockS ?_ | refine E_blockR ?_ | refine E_blockC ?_ | refine E_blockB ?_ | refine E_inBlock ?_ | refine E_exit rfl ?_ | refine T_not rfl rfl ?_ | refine T_notB rfl rfl ?_ | refine T_max rfl rfl rfl ?_ | refine T_min rfl rfl rfl ?_ | refine T_extract rfl rfl rfl ?_) | (first | refine T_len tyI rfl rfl (Ints.len (by assumption)) ?_ | refine T_indexN tyI rfl rfl rfl (by assumption) (by omega) ?_ | refine T_indexI tyI rfl rfl rfl (by assumption) (by omega) ?_ | refine T_loadI Try.isAgg3 rfl rfl (by assumption) (by omega) ?_))
      refine E_end0 rfl ?_
      exact ⟨lv, ls, cs', hS, hcl', htk⟩
    have hn := htd (q - k) (by omega)
    have hnc : ((q - k : Nat) : Int) = (q : Int) - k := by omega
    rw [hnc] at hn
    have hOI := hS.cnt.ints
    repeat (first | (first | refine T_move rfl rfl ?_ | refine T_assign rfl rfl ?_ | refine T_nil0 ?_ | refine T_nil1 ?_ | refine T_nil3 ?_ | refine T_nil4 ?_ | refine E_seq ?_ | refine E_region ?_ | refine T_cmp rfl rfl rfl rfl ?_ | refine T_on rfl rfl ?_ | refine T_off rfl rfl rfl ?_ | refine T_offU rfl rfl rfl ?_ | refine T_add rfl rfl rfl (by omega) ?_ | refine T_sub rfl rfl rfl (by omega) ?_ | refine T_pick_true rfl rfl rfl ?_ | refine T_pick_false rfl rfl rfl ?_ | refine E_cond_true rfl ?_ | refine E_cond_false rfl ?_ | refine E_skip ?_ | refine E_blockS ?_ | refine E_blockR ?_ | refine E_blockC ?_ | refine E_blockB ?_ | refine E_inBlock ?_ | refine E_exit rfl ?_ | refine T_not rfl rfl ?_ | refine T_notB rfl rfl ?_ | refine T_max rfl rfl rfl ?_ | refine T_min rfl rfl rfl ?_ | refine T_extract rfl rfl rfl ?_) | (first | refine T_len tyI rfl rfl (Ints.len (by assumption)) ?_ | refine T_indexN tyI rfl rfl rfl (by assumption) (by omega) ?_ | refine T_indexI tyI rfl rfl rfl (by assumption) (by omega) ?_ | refine T_loadI Try.isAgg3 rfl rfl (by assumption) (by omega) ?_))
    refine T_loadBox Try.isAgg22 rfl rfl hS.bxc rfl ?_
    repeat (first | (first | refine T_move rfl rfl ?_ | refine T_assign rfl rfl ?_ | refine T_nil0 ?_ | refine T_nil1 ?_ | refine T_nil3 ?_ | refine T_nil4 ?_ | refine E_seq ?_ | refine E_region ?_ | refine T_cmp rfl rfl rfl rfl ?_ | refine T_on rfl rfl ?_ | refine T_off rfl rfl rfl ?_ | refine T_offU rfl rfl rfl ?_ | refine T_add rfl rfl rfl (by omega) ?_ | refine T_sub rfl rfl rfl (by omega) ?_ | refine T_pick_true rfl rfl rfl ?_ | refine T_pick_false rfl rfl rfl ?_ | refine E_cond_true rfl ?_ | refine E_cond_false rfl ?_ | refine E_skip ?_ | refine E_blockS ?_ | refine E_blockR ?_ | refine E_blockC ?_ | refine E_blockB ?_ | refine E_inBlock ?_ | refine E_exit rfl ?_ | refine T_not rfl rfl ?_ | refine T_notB rfl rfl ?_ | refine T_max rfl rfl rfl ?_ | refine T_min rfl rfl rfl ?_ | refine T_extract rfl rfl rfl ?_) | (first | refine T_len tyI rfl rfl (Ints.len (by assumption)) ?_ | refine T_indexN tyI rfl rfl rfl (by assumption) (by omega) ?_ | refine T_indexI tyI rfl rfl rfl (by assumption) (by omega) ?_ | refine T_loadI Try.isAgg3 rfl rfl (by assumption) (by omega) ?_))
    refine T_storeI Try.sizeOf3 rfl rfl hS.cnt (by omega) (fun w2 hO2 hg2 hs2 => ?_)
    have hst := Stay.of_grown hg2 hS.cblk
    have hz := hS.size
    have hS2 : FS W0 N kc bw bn bl bc bf 22 3 v nar (.func (.func 60) #[] #[bPtr bw 0, bPtr bn 0, bPtr bl 0, bPtr bc 0, bPtr bf 0]) cv w2 lv ls (xss ++ aheadL f q k) (cs'.set kind (q - k)) :=
      ⟨hst.below hS.below (by omega) (by omega), hS.bxw.stay hst (by omega), hS.bxn.stay hst (by omega), hS.bxl.stay hst (by omega), hS.bxc.stay hst (by omega), hS.bxf.stay hst (by omega), hO2, hS.cblk, hS.rws.stay hst hS.rws.blk (.inr (by omega)), by omega⟩
    have hI2 := hI.later hS2.below
    have hcw := hI2
    repeat (first | (first | refine T_move rfl rfl ?_ | refine T_assign rfl rfl ?_ | refine T_nil0 ?_ | refine T_nil1 ?_ | refine T_nil3 ?_ | refine T_nil4 ?_ | refine E_seq ?_ | refine E_region ?_ | refine T_cmp rfl rfl rfl rfl ?_ | refine T_on rfl rfl ?_ | refine T_off rfl rfl rfl ?_ | refine T_offU rfl rfl rfl ?_ | refine T_add rfl rfl rfl (by omega) ?_ | refine T_sub rfl rfl rfl (by omega) ?_ | refine T_pick_true rfl rfl rfl ?_ | refine T_pick_false rfl rfl rfl ?_ | refine E_cond_true rfl ?_ | refine E_cond_false rfl ?_ | refine E_skip ?_ | refine E_blockS ?_ | refine E_blockR ?_ | refine E_blockC ?_ | refine E_blockB ?_ | refine E_inBlock ?_ | refine E_exit rfl ?_ | refine T_not rfl rfl ?_ | refine T_notB rfl rfl ?_ | refine T_max rfl rfl rfl ?_ | refine T_min rfl rfl rfl ?_ | refine T_extract rfl rfl rfl ?_) | (first | refine T_len tyI rfl rfl (Ints.len (by assumption)) ?_ | refine T_indexN tyI rfl rfl rfl (by assumption) (by omega) ?_ | refine T_indexI tyI rfl rfl rfl (by assumption) (by omega) ?_ | refine T_loadI Try.isAgg3 rfl rfl (by assumption) (by omega) ?_))
    refine E_region_tail 11 follows (by kernel_rfl) ?_
    refine T_loadBox Try.isAgg50 rfl rfl hS2.bxf rfl ?_
    repeat (first | (first | refine T_move rfl rfl ?_ | refine T_assign rfl rfl ?_ | refine T_nil0 ?_ | refine T_nil1 ?_ | refine T_nil3 ?_ | refine T_nil4 ?_ | refine E_seq ?_ | refine E_region ?_ | refine T_cmp rfl rfl rfl rfl ?_ | refine T_on rfl rfl ?_ | refine T_off rfl rfl rfl ?_ | refine T_offU rfl rfl rfl ?_ | refine T_add rfl rfl rfl (by omega) ?_ | refine T_sub rfl rfl rfl (by omega) ?_ | refine T_pick_true rfl rfl rfl ?_ | refine T_pick_false rfl rfl rfl ?_ | refine E_cond_true rfl ?_ | refine E_cond_false rfl ?_ | refine E_skip ?_ | refine E_blockS ?_ | refine E_blockR ?_ | refine E_blockC ?_ | refine E_blockB ?_ | refine E_inBlock ?_ | refine E_exit rfl ?_ | refine T_not rfl rfl ?_ | refine T_notB rfl rfl ?_ | refine T_max rfl rfl rfl ?_ | refine T_min rfl rfl rfl ?_ | refine T_extract rfl rfl rfl ?_) | (first | refine T_len tyI rfl rfl (Ints.len (by assumption)) ?_ | refine T_indexN tyI rfl rfl rfl (by assumption) (by omega) ?_ | refine T_indexI tyI rfl rfl rfl (by assumption) (by omega) ?_ | refine T_loadI Try.isAgg3 rfl rfl (by assumption) (by omega) ?_))
    refine T_loadBox Try.isAgg22 rfl rfl hS2.bxw rfl ?_
    repeat (first | (first | refine T_move rfl rfl ?_ | refine T_assign rfl rfl ?_ | refine T_nil0 ?_ | refine T_nil1 ?_ | refine T_nil3 ?_ | refine T_nil4 ?_ | refine E_seq ?_ | refine E_region ?_ | refine T_cmp rfl rfl rfl rfl ?_ | refine T_on rfl rfl ?_ | refine T_off rfl rfl rfl ?_ | refine T_offU rfl rfl rfl ?_ | refine T_add rfl rfl rfl (by omega) ?_ | refine T_sub rfl rfl rfl (by omega) ?_ | refine T_pick_true rfl rfl rfl ?_ | refine T_pick_false rfl rfl rfl ?_ | refine E_cond_true rfl ?_ | refine E_cond_false rfl ?_ | refine E_skip ?_ | refine E_blockS ?_ | refine E_blockR ?_ | refine E_blockC ?_ | refine E_blockB ?_ | refine E_inBlock ?_ | refine E_exit rfl ?_ | refine T_not rfl rfl ?_ | refine T_notB rfl rfl ?_ | refine T_max rfl rfl rfl ?_ | refine T_min rfl rfl rfl ?_ | refine T_extract rfl rfl rfl ?_) | (first | refine T_len tyI rfl rfl (Ints.len (by assumption)) ?_ | refine T_indexN tyI rfl rfl rfl (by assumption) (by omega) ?_ | refine T_indexI tyI rfl rfl rfl (by assumption) (by omega) ?_ | refine T_loadI Try.isAgg3 rfl rfl (by assumption) (by omega) ?_))
    refine T_mul rfl rfl rfl (by omega) ?_
    repeat (first | (first | refine T_move rfl rfl ?_ | refine T_assign rfl rfl ?_ | refine T_nil0 ?_ | refine T_nil1 ?_ | refine T_nil3 ?_ | refine T_nil4 ?_ | refine E_seq ?_ | refine E_region ?_ | refine T_cmp rfl rfl rfl rfl ?_ | refine T_on rfl rfl ?_ | refine T_off rfl rfl rfl ?_ | refine T_offU rfl rfl rfl ?_ | refine T_add rfl rfl rfl (by omega) ?_ | refine T_sub rfl rfl rfl (by omega) ?_ | refine T_pick_true rfl rfl rfl ?_ | refine T_pick_false rfl rfl rfl ?_ | refine E_cond_true rfl ?_ | refine E_cond_false rfl ?_ | refine E_skip ?_ | refine E_blockS ?_ | refine E_blockR ?_ | refine E_blockC ?_ | refine E_blockB ?_ | refine E_inBlock ?_ | refine E_exit rfl ?_ | refine T_not rfl rfl ?_ | refine T_notB rfl rfl ?_ | refine T_max rfl rfl rfl ?_ | refine T_min rfl rfl rfl ?_ | refine T_extract rfl rfl rfl ?_) | (first | refine T_len tyI rfl rfl (Ints.len (by assumption)) ?_ | refine T_indexN tyI rfl rfl rfl (by assumption) (by omega) ?_ | refine T_indexI tyI rfl rfl rfl (by assumption) (by omega) ?_ | refine T_loadI Try.isAgg3 rfl rfl (by assumption) (by omega) ?_))
    have hdr2 : Below w2.heap.size w2 w2.drew := (Below.refl _ _).drew
    have hS3 := hS2.later hdr2
    have hl1 := hal k hk1
    have hl2 : k * pd ≤ 24 * pd := Nat.mul_le_mul_right _ (by omega)
    refine T_callV (cap := [bPtr bw 0, bPtr bn 0, bPtr bl 0, bPtr bc 0, bPtr bf 0]) rfl rfl rfl (ih (kind + 1) (left - ((q : Int) - k) * ws.getD kind 0) w2.drew lv ls _ _ (by omega) (by omega) (by omega) (by simpa using hcl') hS3 (by rw [List.length_append]; omega)) (fun r w4 hr => ?_)
    obtain ⟨lv', ls', cs2, hS4, hc2l, hc2t⟩ := hr
    have htk2 : (cs'.set kind ((q : Int) - k)).take (kind + 1) = cs.take kind ++ [(q : Int) - k] := by
      rw [take_snoc (by simp; omega), List.take_set_of_le (Nat.le_refl _), htk, getD_set (by omega), if_pos rfl]
    have hfk : f (q - k) = patsF ws (ws.drop (kind + 1)) (left - ((q : Int) - k) * ws.getD kind 0) (cs.take kind ++ [(q : Int) - k]) := by rw [hf, hnc]
    rw [htk2, ← hfk, List.append_assoc] at hS4
    rw [htk2] at hc2t
    have hc2k : cs2.take kind = cs.take kind := by
      have := congrArg (List.take kind) hc2t
      rw [List.take_take, Nat.min_eq_left (by omega), List.take_append_of_le_length (by simp; omega), List.take_take, Nat.min_self] at this
      exact this
    repeat (first | (first | refine T_move rfl rfl ?_ | refine T_assign rfl rfl ?_ | refine T_nil0 ?_ | refine T_nil1 ?_ | refine T_nil3 ?_ | refine T_nil4 ?_ | refine E_seq ?_ | refine E_region ?_ | refine T_cmp rfl rfl rfl rfl ?_ | refine T_on rfl rfl ?_ | refine T_off rfl rfl rfl ?_ | refine T_offU rfl rfl rfl ?_ | refine T_add rfl rfl rfl (by omega) ?_ | refine T_sub rfl rfl rfl (by omega) ?_ | refine T_pick_true rfl rfl rfl ?_ | refine T_pick_false rfl rfl rfl ?_ | refine E_cond_true rfl ?_ | refine E_cond_false rfl ?_ | refine E_skip ?_ | refine E_blockS ?_ | refine E_blockR ?_ | refine E_blockC ?_ | refine E_blockB ?_ | refine E_inBlock ?_ | refine E_exit rfl ?_ | refine T_not rfl rfl ?_ | refine T_notB rfl rfl ?_ | refine T_max rfl rfl rfl ?_ | refine T_min rfl rfl rfl ?_ | refine T_extract rfl rfl rfl ?_) | (first | refine T_len tyI rfl rfl (Ints.len (by assumption)) ?_ | refine T_indexN tyI rfl rfl rfl (by assumption) (by omega) ?_ | refine T_indexI tyI rfl rfl rfl (by assumption) (by omega) ?_ | refine T_loadI Try.isAgg3 rfl rfl (by assumption) (by omega) ?_))
    exact IH (k + 1, lv', ls', cs2) w4 _ ⟨by omega, hc2l, hc2k, hS4⟩ (by show q + 1 - (k + 1) < q + 1 - k; omega) ⟨rfl, rfl, rfl, rfl, rfl, rfl, rfl, slotI rfl (by omega), trivial⟩
end Go.Proofs.Ytjpbmjigmbfcfaa
