/-
  Contracts of the laws' helpers on reels: copies, comparisons, marks. Conditions: the arguments lie in memory as the contract says.
-/
import Derived.Test.YtnecmchcemnopaaLibR
namespace Go.PR
open Go Go.RowKit
instance : DecidableEq Dfc := fun a b => decidable_of_iff (a.l = b.l ∧ a.r = b.r ∧ a.f = b.f ∧ a.t = b.t ∧ a.g = b.g) ⟨fun h => Dfc.ext' h.1 h.2.1 h.2.2.1 h.2.2.2.1 h.2.2.2.2, fun h => by subst h; simp⟩
theorem copyR_step {α : Type} {xs : List α} {k : Nat} {z : α} (h : k < xs.length) : (xs.take k ++ List.replicate (xs.length - k) z).set k (xs.getD k z) = xs.take (k + 1) ++ List.replicate (xs.length - (k + 1)) z := by
  rw [takeS (z := z) h, show xs.length - k = (xs.length - (k + 1)) + 1 by omega, List.replicate_succ]
  have hl : (xs.take k).length = k := by simp; omega
  rw [List.set_append_right _ _ (by omega), hl]
  simp
/-- the numbers from i on, five to a record -/
def marksD (i : Int) : Nat → List Dfc
  | 0 => []
  | n + 1 => ⟨i, i + 1, i + 2, i + 3, i + 4⟩ :: marksD (i + 5) n
theorem marksD_length (n : Nat) : ∀ i, (marksD i n).length = n := by
  induction n with
  | zero => intro i; rfl
  | succ n ih => intro i; simp [marksD, ih]
theorem marksD_getD (n : Nat) : ∀ (i : Int) (j : Nat), j < n → (marksD i n).getD j dz = ⟨i + 5 * j, i + 5 * j + 1, i + 5 * j + 2, i + 5 * j + 3, i + 5 * j + 4⟩ := by
  induction n with
  | zero => intro k j h; omega
  | succ n ih =>
    intro i j h
    cases j with
    | zero => simp [marksD]
    | succ j =>
      have := ih (i + 5) j (by omega)
      simp only [marksD, List.getD_cons_succ, this]
      apply Dfc.ext' <;> simp only <;> omega
theorem marksD_snoc (n : Nat) : ∀ i : Int, marksD i (n + 1) = marksD i n ++ [⟨i + 5 * n, i + 5 * n + 1, i + 5 * n + 2, i + 5 * n + 3, i + 5 * n + 4⟩] := by
  induction n with
  | zero => intro k; simp [marksD]
  | succ n ih =>
    intro i
    have := ih (i + 5)
    rw [marksD, this, marksD]
    simp only [List.cons_append, List.cons.injEq, List.append_cancel_left_eq, and_true, true_and]
    apply Dfc.ext' <;> simp only <;> omega
theorem markD_step {xs : List Dfc} {k : Nat} (i : Int) (h : k < xs.length) : (marksD i k ++ xs.drop k).set k ⟨i + 5 * k, i + 5 * k + 1, i + 5 * k + 2, i + 5 * k + 3, i + 5 * k + 4⟩ = marksD i (k + 1) ++ xs.drop (k + 1) := by
  rw [marksD_snoc]
  have hl := marksD_length k i
  have hd : ∀ q : Dfc, (xs.drop k).set 0 q = q :: xs.drop (k + 1) := by
    intro q; rw [List.drop_eq_getElem_cons h]; rfl
  rw [List.set_append_right _ _ (by omega), hl, Nat.sub_self, hd, List.append_assoc]
  rfl
theorem getD_setS {α : Type} {xs : List α} {k : Nat} {x d : α} (h : k < xs.length) : (xs.set k x).getD k d = x := by
  rw [List.getD_eq_getElem?_getD, List.getElem?_set_self h]; rfl
end Go.PR
namespace Go.Proofs.Ytnecmchcemnopaa
open Go Go.PR Go.RowKit attribute [local irreducible] T E Ints Sl Bools OwnI OwnB OwnR Recs Box Ret

theorem szDefectS_spec (v : Value) (k : Nat) (left : Int) (w : World) (hv : SlLen v k) (hk : k ≤ 9223372036854775807) (hl : 0 ≤ left ∧ left ≤ 1048576) :
    Ret Try.prog 53 #[v, .int .i64 left] w (fun r w' => ∃ q, r = .int .i64 q ∧ (0 ≤ q → q = left - k) ∧ w' = w) := by
  refine Ret_of (args := [_, _]) Try.call53 Try.func53 rfl _ Try.ntmps53 rfl ?_
  repeat (first | refine T_move rfl rfl ?_ | refine T_assign rfl rfl ?_ | refine T_nil0 ?_ | refine E_seq ?_ | refine E_region ?_)
  refine T_len tyE rfl rfl hv ?_
  repeat (first | refine T_move rfl rfl ?_ | refine T_assign rfl rfl ?_ | refine T_nil0 ?_ | refine E_seq ?_ | refine E_region ?_ | refine T_cmp rfl rfl rfl rfl ?_ | refine T_sub rfl rfl rfl (by omega) ?_)
  refine E_cond_if rfl (fun h1 => ?_) (fun h1 => ?_)
  · repeat' (first | refine T_assign rfl rfl ?_ | refine T_nil0 ?_ | refine E_seq ?_ | refine E_region ?_ | refine E_ret1 rfl rfl ?_)
    exact ⟨_, rfl, by omega, rfl⟩
  · repeat' (first | refine T_move rfl rfl ?_ | refine T_assign rfl rfl ?_ | refine T_nil0 ?_ | refine E_seq ?_ | refine E_region ?_ | refine E_skip ?_ | refine E_ret1 rfl rfl ?_)
    exact ⟨_, rfl, fun _ => rfl, rfl⟩
theorem szReel_spec (x : Rel) (v : Value) (left : Int) (w : World) (hv : SlLen v x.ds.length) (hk : x.ds.length ≤ 9223372036854775807) (hl : 0 ≤ left ∧ left ≤ 1048576) :
    Ret Try.prog 32 #[relV x v, .int .i64 left] w (fun r w' => ∃ q, r = .int .i64 q ∧ (0 ≤ q → q = left - x.ds.length) ∧ Below w.heap.size w w') := by
  refine Ret_of (args := [_, _]) Try.call32 Try.func32 rfl _ Try.ntmps32 rfl ?_
  repeat (first | refine E_seq ?_ | refine E_region ?_)
  refine T_box (cs := relC x v) rfl rfl (fun b1 w1 hn1 hx1 hB => ?_)
  have hC := Below.refl w1.heap.size w1
  repeat (first | refine T_move rfl rfl ?_ | refine T_assign rfl rfl ?_ | refine T_nil0 ?_ | refine E_seq ?_ | refine E_region ?_ | refine T_fieldBoxF (fun _ _ => by kernel_rfl) rfl rfl ?_ | refine T_loadBoxB Try.isAgg3 rfl rfl (by assumption) (by assumption) (by rfl) ?_)
  refine T_call rfl rfl (szDefectS_spec v x.ds.length left w1 hv hk hl) (fun r w3 hr => ?_)
  obtain ⟨q, rfl, hq, rfl⟩ := hr
  repeat (first | refine T_move rfl rfl ?_ | refine T_assign rfl rfl ?_ | refine T_nil0 ?_ | refine E_seq ?_ | refine E_region ?_ | refine T_cmp rfl rfl rfl rfl ?_)
  refine E_cond_if rfl (fun h1 => ?_) (fun h1 => ?_)
  · repeat' (first | refine T_assign rfl rfl ?_ | refine T_nil0 ?_ | refine E_seq ?_ | refine E_region ?_ | refine E_ret1 rfl rfl ?_)
    exact ⟨_, rfl, by omega, hB⟩
  · repeat' (first | refine T_move rfl rfl ?_ | refine T_assign rfl rfl ?_ | refine T_nil0 ?_ | refine E_seq ?_ | refine E_region ?_ | refine E_skip ?_ | refine E_ret1 rfl rfl ?_)
    exact ⟨_, rfl, hq, hB⟩

theorem toDefect_spec (d : Dfc) (w : World) :
    Ret Try.prog 65 #[.agg (recD.enc d).toArray] w (fun r w' => r = .agg (recD.enc d).toArray ∧ Below w.heap.size w w') := by
  refine Ret_of (args := [_]) Try.call65 Try.func65 rfl _ Try.ntmps65 rfl ?_
  repeat (first | refine E_seq ?_ | refine E_region ?_)
  refine T_box rfl rfl (fun b1 w1 hn1 hx1 hB => ?_)
  refine T_alloc zD rfl (fun b2 w2 hn2 hx2 hb => ?_)
  have hz := hB.size
  have hx1 := hx1.later hb
  have hB := hB.step hB.size hb
  repeat (first | refine T_nil0 ?_ | refine E_seq ?_ | refine E_region ?_)
  refine T_alloc zD rfl (fun b3 w3 hn3 hx3 hC => ?_)
  repeat (first | refine T_nil0 ?_ | refine E_seq ?_ | refine E_region ?_ | refine T_fieldBoxF (fun _ _ => by kernel_rfl) rfl rfl ?_ | refine T_loadBoxB Try.isAgg3 rfl rfl (by assumption) (by assumption) (by rfl) ?_)
  refine T_storeBox Try.sizeOf3 rfl rfl rfl hx3 (Nat.le_of_ble_eq_true rfl) (fun _ hx3 hg3 _ => ?_); have hC := hC.grown hg3 hC.size (fun c hc => by simp at hc; omega)
  repeat (first | refine T_nil0 ?_ | refine E_seq ?_ | refine E_region ?_ | refine T_fieldBoxF (fun _ _ => by kernel_rfl) rfl rfl ?_ | refine T_loadBoxB Try.isAgg3 rfl rfl (by assumption) (by assumption) (by rfl) ?_)
  refine T_storeBox Try.sizeOf3 rfl rfl rfl hx3 (Nat.le_of_ble_eq_true rfl) (fun _ hx3 hg3 _ => ?_); have hC := hC.grown hg3 hC.size (fun c hc => by simp at hc; omega)
  repeat (first | refine T_nil0 ?_ | refine E_seq ?_ | refine E_region ?_ | refine T_fieldBoxF (fun _ _ => by kernel_rfl) rfl rfl ?_ | refine T_loadBoxB Try.isAgg3 rfl rfl (by assumption) (by assumption) (by rfl) ?_)
  refine T_storeBox Try.sizeOf3 rfl rfl rfl hx3 (Nat.le_of_ble_eq_true rfl) (fun _ hx3 hg3 _ => ?_); have hC := hC.grown hg3 hC.size (fun c hc => by simp at hc; omega)
  repeat (first | refine T_nil0 ?_ | refine E_seq ?_ | refine E_region ?_ | refine T_fieldBoxF (fun _ _ => by kernel_rfl) rfl rfl ?_ | refine T_loadBoxB Try.isAgg3 rfl rfl (by assumption) (by assumption) (by rfl) ?_)
  refine T_storeBox Try.sizeOf3 rfl rfl rfl hx3 (Nat.le_of_ble_eq_true rfl) (fun _ hx3 hg3 _ => ?_); have hC := hC.grown hg3 hC.size (fun c hc => by simp at hc; omega)
  repeat (first | refine T_nil0 ?_ | refine E_seq ?_ | refine E_region ?_ | refine T_fieldBoxF (fun _ _ => by kernel_rfl) rfl rfl ?_ | refine T_loadBoxB Try.isAgg3 rfl rfl (by assumption) (by assumption) (by rfl) ?_)
  refine T_storeBox Try.sizeOf3 rfl rfl rfl hx3 (Nat.le_of_ble_eq_true rfl) (fun _ hx3 hg3 _ => ?_); have hC := hC.grown hg3 hC.size (fun c hc => by simp at hc; omega)
  repeat (first | refine T_nil0 ?_ | refine E_seq ?_ | refine E_region ?_)
  refine T_loadBoxA (cs := recD.enc d) aD sD rfl rfl hx3 rfl ?_
  refine T_storeBoxA (us := recD.enc d) sD rfl rfl rfl (recD.one _) (hx2.later hC) rfl (fun w9 hx9 hg9 _ => ?_)
  repeat (first | refine T_nil0 ?_)
  exact E_retC rfl rfl aD sD hx9 rfl ⟨rfl, (hB.step hB.size hC).grown hg9 (by have := hC.size; have := hB.size; omega) (fun c hc => by simp at hc; omega)⟩
theorem toDefectS_spec (v : Value) (xs : List Dfc) (w : World) (hI : Recs recD w.heap v xs) (hl : xs.length ≤ 1048576) :
    Ret Try.prog 54 #[v] w (fun r w' => OwnR recD w' w.heap.size 37 r xs ∧ Below w.heap.size w w') := by
  refine Ret_of (args := [_]) Try.call54 Try.func54 rfl _ Try.ntmps54 rfl ?_
  repeat (first | refine T_move rfl rfl ?_ | refine T_assign rfl rfl ?_ | refine T_nil0 ?_ | refine E_seq ?_ | refine E_region ?_ | refine T_len tyE rfl rfl (Recs.rlen (r := recD) (by assumption)) ?_)
  refine T_makeR (r := recD) tyD rfl rfl rfl rfl rfl (by omega) (fun ov w1 hO _ _ hB => ?_)
  rw [Int.toNat_natCast] at hO
  have hO : OwnR recD w1 w.heap.size 37 ov (List.replicate xs.length dz) := hO
  repeat (first | refine T_assign rfl rfl ?_ | refine T_nil0 ?_ | refine E_seq ?_ | refine E_region ?_)
  refine E_loop (σ := Nat) (fun k => [(0, v), (3, ov), (4, .int .i64 k)]) (fun k w' => k ≤ xs.length ∧ OwnR recD w' w.heap.size 37 ov (xs.take k ++ List.replicate (xs.length - k) dz) ∧ Below w.heap.size w w') (fun k => xs.length - k) 0
    ⟨by omega, by simpa using hO, hB⟩ ⟨rfl, rfl, rfl, trivial⟩ ?_
  clear hO hB
  rintro k w2 ⟨hk, hO, hB⟩ IH
  repeat (first | refine T_move rfl rfl ?_ | refine T_nil0 ?_ | refine E_seq ?_ | refine E_region ?_ | refine T_cmp rfl rfl rfl rfl ?_ | refine T_len tyE rfl rfl (Recs.rlen (r := recD) (by assumption)) ?_)
  refine E_cond_if rfl (fun hp => ?_) (fun hp => ?_)
  case refine_2 =>
    repeat' (first | refine T_move rfl rfl ?_ | refine T_assign rfl rfl ?_ | refine T_nil0 ?_ | refine E_seq ?_ | refine E_region ?_ | refine E_exit rfl ?_ | refine E_ret1 rfl rfl ?_)
    have e : k = xs.length := by omega
    subst e
    exact ⟨by simpa using hO, hB⟩
  have hkl : k < xs.length := by omega
  have hst := copyR_step (z := dz) hkl
  have hll : (xs.take k ++ List.replicate (xs.length - k) dz).length = xs.length := by simp; omega
  generalize xs.take k ++ List.replicate (xs.length - k) dz = L at *
  have hOR := hO.recs
  repeat (first | refine T_move rfl rfl ?_ | refine E_seq ?_ | refine E_region ?_ | refine E_skip ?_ | refine E_blockR ?_ | refine T_loadDA aD sD rfl rfl (by assumption) (by assumption) (by omega) ?_ | refine T_indexD tyE rfl rfl rfl (by assumption) (by omega) ?_)
  refine T_call rfl rfl (toDefect_spec (xs.getD k dz) w2) (fun r w3 hr => ?_)
  obtain ⟨rfl, hb⟩ := hr
  have hO := hO.later hb
  have hB := hB.step hB.size hb
  repeat (first | refine T_indexD tyD rfl rfl rfl (by assumption) (by omega) ?_)
  refine T_storeRA (r := recD) (a' := xs.getD k dz) sD rfl rfl hO (by omega) (fun w4 hO4 hg4 _ => ?_)
  rw [hst] at hO4
  have hB := hB.own hg4 hO.blk (Nat.le_refl _) hB.size
  repeat (first | refine T_move rfl rfl ?_ | refine T_assign rfl rfl ?_ | refine T_nil0 ?_ | refine E_region ?_ | refine T_add rfl rfl rfl (by omega) ?_ | refine E_inBlock ?_)
  exact IH (k + 1) w4 _ ⟨by omega, hO4, hB⟩ (by omega) ⟨rfl, rfl, rfl, trivial⟩
theorem toReel_spec (x : Rel) (v : Value) (w : World) (hI : Recs recD w.heap v x.ds) (hl : x.ds.length ≤ 1048576) :
    Ret Try.prog 34 #[relV x v] w (fun r w' => ∃ u, r = relV x u ∧ OwnR recD w' w.heap.size 37 u x.ds ∧ Below w.heap.size w w') := by
  refine Ret_of (args := [_]) Try.call34 Try.func34 rfl _ Try.ntmps34 rfl ?_
  repeat (first | refine E_seq ?_ | refine E_region ?_)
  refine T_box (cs := relC x v) rfl rfl (fun b1 w1 hn1 hx1 hB => ?_)
  refine T_alloc zL rfl (fun b2 w2 hn2 hx2 hb => ?_)
  have hz := hB.size
  have hx1 := hx1.later hb
  have hB := hB.step hB.size hb
  have hI := hI.later hB
  repeat (first | refine T_nil0 ?_ | refine E_seq ?_ | refine E_region ?_)
  refine T_alloc zL rfl (fun b3 w3 hn3 hx3 hC => ?_)
  repeat (first | refine T_nil0 ?_ | refine E_seq ?_ | refine E_region ?_ | refine T_fieldBoxF (fun _ _ => by kernel_rfl) rfl rfl ?_ | refine T_loadBoxB Try.isAgg3 rfl rfl (by assumption) (by assumption) (by rfl) ?_)
  refine T_storeBox Try.sizeOf3 rfl rfl rfl hx3 (Nat.le_of_ble_eq_true rfl) (fun _ hx3 hg3 _ => ?_); have hC := hC.grown hg3 hC.size (fun c hc => by simp at hc; omega)
  repeat (first | refine T_nil0 ?_ | refine E_seq ?_ | refine E_region ?_ | refine T_fieldBoxF (fun _ _ => by kernel_rfl) rfl rfl ?_ | refine T_loadBoxB Try.isAgg3 rfl rfl (by assumption) (by assumption) (by rfl) ?_)
  refine T_storeBox Try.sizeOf3 rfl rfl rfl hx3 (Nat.le_of_ble_eq_true rfl) (fun _ hx3 hg3 _ => ?_); have hC := hC.grown hg3 hC.size (fun c hc => by simp at hc; omega)
  repeat (first | refine T_nil0 ?_ | refine E_seq ?_ | refine E_region ?_ | refine T_fieldBoxF (fun _ _ => by kernel_rfl) rfl rfl ?_ | refine T_loadBoxB Try.isAgg3 rfl rfl (by assumption) (by assumption) (by rfl) ?_)
  have hl3 := hx3.lt
  have hl2 := hx2.lt
  have hzc := hC.size
  have hzb := hB.size
  refine T_call rfl rfl (toDefectS_spec v x.ds _ (hI.later hC) hl) (fun u w4 hr => ?_)
  obtain ⟨hu, hb4⟩ := hr
  have hx3 := hx3.later hb4
  have hbu := hu.blk
  have hC := hC.step hC.size hb4
  repeat (first | refine T_fieldBoxF (fun _ _ => by kernel_rfl) rfl rfl ?_)
  refine T_storeBox s1Ds rfl rfl (slice_one hu.recs.rlen) hx3 (Nat.le_of_ble_eq_true rfl) (fun w5 hx5 hg5 _ => ?_)
  have hu := hu.kept hg5 (hbu.ne_some (.inr (by omega)))
  have hC := hC.grown hg5 hC.size (fun c hc => by simp at hc; omega)
  repeat (first | refine T_nil0 ?_ | refine E_seq ?_ | refine E_region ?_)
  refine T_loadBoxA (cs := relC x u) aL sL rfl rfl hx5 rfl ?_
  refine T_storeBoxA (us := relC x u) sL rfl rfl rfl (relC_one hu.recs.rlen) (hx2.later hC) rfl (fun w9 hx9 hg9 _ => ?_)
  have hu := hu.kept hg9 (hbu.ne_some (.inr (by omega)))
  repeat (first | refine T_nil0 ?_)
  exact E_retC rfl rfl aL sL hx9 rfl ⟨u, rfl, hu.base (by omega), (hB.step hB.size hC).grown hg9 (by have := hC.size; have := hB.size; omega) (fun c hc => by simp at hc; omega)⟩

theorem toPart_spec (p : Prt) (w : World) :
    Ret Try.prog 55 #[.agg (recT.enc p).toArray] w (fun r w' => r = .agg (recT.enc p).toArray ∧ Below w.heap.size w w') := by
  refine Ret_of (args := [_]) Try.call55 Try.func55 rfl _ Try.ntmps55 rfl ?_
  repeat (first | refine E_seq ?_ | refine E_region ?_)
  refine T_box rfl rfl (fun b1 w1 hn1 hx1 hB => ?_)
  refine T_alloc zT rfl (fun b2 w2 hn2 hx2 hb => ?_)
  have hz := hB.size
  have hx1 := hx1.later hb
  have hB := hB.step hB.size hb
  repeat (first | refine T_nil0 ?_ | refine E_seq ?_ | refine E_region ?_)
  refine T_alloc zT rfl (fun b3 w3 hn3 hx3 hC => ?_)
  repeat (first | refine T_nil0 ?_ | refine E_seq ?_ | refine E_region ?_ | refine T_fieldBoxF (fun _ _ => by kernel_rfl) rfl rfl ?_ | refine T_loadBoxB Try.isAgg3 rfl rfl (by assumption) (by assumption) (by rfl) ?_)
  refine T_storeBox Try.sizeOf3 rfl rfl rfl hx3 (Nat.le_of_ble_eq_true rfl) (fun _ hx3 hg3 _ => ?_); have hC := hC.grown hg3 hC.size (fun c hc => by simp at hc; omega)
  repeat (first | refine T_nil0 ?_ | refine E_seq ?_ | refine E_region ?_ | refine T_fieldBoxF (fun _ _ => by kernel_rfl) rfl rfl ?_ | refine T_loadBoxB Try.isAgg3 rfl rfl (by assumption) (by assumption) (by rfl) ?_)
  refine T_storeBox Try.sizeOf3 rfl rfl rfl hx3 (Nat.le_of_ble_eq_true rfl) (fun _ hx3 hg3 _ => ?_); have hC := hC.grown hg3 hC.size (fun c hc => by simp at hc; omega)
  repeat (first | refine T_nil0 ?_ | refine E_seq ?_ | refine E_region ?_ | refine T_fieldBoxF (fun _ _ => by kernel_rfl) rfl rfl ?_ | refine T_loadBoxB Try.isAgg3 rfl rfl (by assumption) (by assumption) (by rfl) ?_)
  refine T_storeBox Try.sizeOf3 rfl rfl rfl hx3 (Nat.le_of_ble_eq_true rfl) (fun _ hx3 hg3 _ => ?_); have hC := hC.grown hg3 hC.size (fun c hc => by simp at hc; omega)
  repeat (first | refine T_nil0 ?_ | refine E_seq ?_ | refine E_region ?_ | refine T_fieldBoxF (fun _ _ => by kernel_rfl) rfl rfl ?_ | refine T_loadBoxB Try.isAgg3 rfl rfl (by assumption) (by assumption) (by rfl) ?_)
  refine T_storeBox Try.sizeOf3 rfl rfl rfl hx3 (Nat.le_of_ble_eq_true rfl) (fun _ hx3 hg3 _ => ?_); have hC := hC.grown hg3 hC.size (fun c hc => by simp at hc; omega)
  repeat (first | refine T_nil0 ?_ | refine E_seq ?_ | refine E_region ?_)
  refine T_loadBoxA (cs := recT.enc p) aT sT rfl rfl hx3 rfl ?_
  refine T_storeBoxA (us := recT.enc p) sT rfl rfl rfl (recT.one _) (hx2.later hC) rfl (fun w9 hx9 hg9 _ => ?_)
  repeat (first | refine T_nil0 ?_)
  exact E_retC rfl rfl aT sT hx9 rfl ⟨rfl, (hB.step hB.size hC).grown hg9 (by have := hC.size; have := hB.size; omega) (fun c hc => by simp at hc; omega)⟩

theorem eqDefect_yes (d : Dfc) (w : World) :
    Ret Try.prog 66 #[.agg (recD.enc d).toArray, .agg (recD.enc d).toArray] w (fun r w' => r = .bool true ∧ Below w.heap.size w w') := by
  refine Ret_of (args := [_, _]) Try.call66 Try.func66 rfl _ Try.ntmps66 rfl ?_
  repeat (first | refine E_seq ?_ | refine E_region ?_)
  refine T_box rfl rfl (fun b1 w1 hn1 hx1 hB => ?_)
  refine T_box rfl rfl (fun b2 w2 hn2 hx2 hb => ?_)
  have hx1 := hx1.later hb
  have hB := hB.step hB.size hb
  have hC := Below.refl w2.heap.size w2
  repeat (first | refine T_assign rfl rfl ?_ | refine T_nil0 ?_ | refine E_seq ?_ | refine E_region ?_ | refine T_cmp rfl rfl rfl rfl ?_ | refine T_fieldBoxF (fun _ _ => by kernel_rfl) rfl rfl ?_ | refine T_loadBoxB Try.isAgg3 rfl rfl (by assumption) (by assumption) (by rfl) ?_)
  refine E_cond_if rfl (fun h => absurd rfl h) (fun _ => ?_)
  repeat (first | refine T_nil0 ?_ | refine E_seq ?_ | refine E_region ?_ | refine T_cmp rfl rfl rfl rfl ?_ | refine E_skip ?_ | refine T_fieldBoxF (fun _ _ => by kernel_rfl) rfl rfl ?_ | refine T_loadBoxB Try.isAgg3 rfl rfl (by assumption) (by assumption) (by rfl) ?_)
  refine E_cond_if rfl (fun h => absurd rfl h) (fun _ => ?_)
  repeat (first | refine T_nil0 ?_ | refine E_seq ?_ | refine E_region ?_ | refine T_cmp rfl rfl rfl rfl ?_ | refine E_skip ?_ | refine T_fieldBoxF (fun _ _ => by kernel_rfl) rfl rfl ?_ | refine T_loadBoxB Try.isAgg3 rfl rfl (by assumption) (by assumption) (by rfl) ?_)
  refine E_cond_if rfl (fun h => absurd rfl h) (fun _ => ?_)
  repeat (first | refine T_nil0 ?_ | refine E_seq ?_ | refine E_region ?_ | refine T_cmp rfl rfl rfl rfl ?_ | refine E_skip ?_ | refine T_fieldBoxF (fun _ _ => by kernel_rfl) rfl rfl ?_ | refine T_loadBoxB Try.isAgg3 rfl rfl (by assumption) (by assumption) (by rfl) ?_)
  refine E_cond_if rfl (fun h => absurd rfl h) (fun _ => ?_)
  repeat (first | refine T_nil0 ?_ | refine E_seq ?_ | refine E_region ?_ | refine T_cmp rfl rfl rfl rfl ?_ | refine E_skip ?_ | refine T_fieldBoxF (fun _ _ => by kernel_rfl) rfl rfl ?_ | refine T_loadBoxB Try.isAgg3 rfl rfl (by assumption) (by assumption) (by rfl) ?_)
  refine E_cond_if rfl (fun h => absurd rfl h) (fun _ => ?_)
  repeat' (first | refine T_assign rfl rfl ?_ | refine T_nil0 ?_ | refine E_seq ?_ | refine E_region ?_ | refine E_skip ?_ | refine E_ret1 rfl rfl ?_)
  exact ⟨rfl, hB⟩
theorem eqDefectS_yes (v u : Value) (xs : List Dfc) (w : World) (hI : Recs recD w.heap v xs) (hJ : Recs recD w.heap u xs) (hl : xs.length ≤ 1048576) :
    Ret Try.prog 56 #[v, u] w (fun r w' => r = .bool true ∧ Below w.heap.size w w') := by
  refine Ret_of (args := [_, _]) Try.call56 Try.func56 rfl _ Try.ntmps56 rfl ?_
  repeat (first | refine T_move rfl rfl ?_ | refine T_assign rfl rfl ?_ | refine T_nil0 ?_ | refine E_seq ?_ | refine E_region ?_ | refine T_cmp rfl rfl rfl rfl ?_ | refine T_len tyD rfl rfl (Recs.rlen (r := recD) (by assumption)) ?_)
  refine E_cond_if rfl (fun h => absurd rfl h) (fun _ => ?_)
  have hC := Below.refl w.heap.size w
  repeat (first | refine T_assign rfl rfl ?_ | refine T_nil0 ?_ | refine E_seq ?_ | refine E_region ?_ | refine E_skip ?_)
  refine E_loop (σ := Nat) (fun k => [(0, v), (1, u), (5, .int .i64 k)]) (fun k w' => k ≤ xs.length ∧ Below w.heap.size w w') (fun k => xs.length - k) 0 ⟨by omega, hC⟩ ⟨rfl, rfl, rfl, trivial⟩ ?_
  clear hC
  rintro k w2 ⟨hk, hC⟩ IH
  repeat (first | refine T_move rfl rfl ?_ | refine T_nil0 ?_ | refine E_seq ?_ | refine E_region ?_ | refine T_cmp rfl rfl rfl rfl ?_ | refine T_len tyD rfl rfl (Recs.rlen (r := recD) (by assumption)) ?_)
  refine E_cond_if rfl (fun hp => ?_) (fun hp => ?_)
  case refine_2 =>
    repeat' (first | refine T_assign rfl rfl ?_ | refine T_nil0 ?_ | refine E_seq ?_ | refine E_region ?_ | refine E_exit rfl ?_ | refine E_ret1 rfl rfl ?_)
    exact ⟨rfl, hC⟩
  have hkl : k < xs.length := by omega
  repeat (first | refine E_seq ?_ | refine E_skip ?_ | refine E_blockS ?_)
  refine E_region_quiet follows (by kernel_rfl) ?_
  repeat (first | refine T_move rfl rfl ?_ | refine T_indexD tyD rfl rfl rfl (by assumption) (by omega) ?_ | refine T_loadDA aD sD rfl rfl (by assumption) (by assumption) (by omega) ?_)
  refine T_callQ rfl rfl (fun w9 hb9 => eqDefect_yes (xs.getD k dz) w9) ?_
  repeat (first | refine T_notB rfl rfl ?_)
  refine T_nil2 (fun w9 hb9 => ?_)
  have hC := hC.step hC.size hb9
  repeat (first | refine T_move rfl rfl ?_ | refine T_assign rfl rfl ?_ | refine T_nil0 ?_ | refine E_region ?_ | refine T_add rfl rfl rfl (by omega) ?_ | refine E_cond_false rfl ?_ | refine E_skip ?_ | refine E_inBlock ?_)
  exact IH (k + 1) w9 _ ⟨by omega, hC⟩ (by omega) ⟨rfl, rfl, rfl, trivial⟩
theorem eqReel_yes (x : Rel) (v u : Value) (w : World) (hI : Recs recD w.heap v x.ds) (hJ : Recs recD w.heap u x.ds) (hl : x.ds.length ≤ 1048576) :
    Ret Try.prog 36 #[relV x v, relV x u] w (fun r w' => r = .bool true ∧ Below w.heap.size w w') := by
  refine Ret_of (args := [_, _]) Try.call36 Try.func36 rfl _ Try.ntmps36 rfl ?_
  repeat (first | refine E_seq ?_ | refine E_region ?_)
  refine T_box (cs := relC x v) rfl rfl (fun b1 w1 hn1 hx1 hB => ?_)
  refine T_box (cs := relC x u) rfl rfl (fun b2 w2 hn2 hx2 hb => ?_)
  have hx1 := hx1.later hb
  have hB := hB.step hB.size hb
  have hC := Below.refl w2.heap.size w2
  repeat (first | refine T_assign rfl rfl ?_ | refine T_nil0 ?_ | refine E_seq ?_ | refine E_region ?_ | refine T_cmp rfl rfl rfl rfl ?_ | refine T_fieldBoxF (fun _ _ => by kernel_rfl) rfl rfl ?_ | refine T_loadBoxB Try.isAgg3 rfl rfl (by assumption) (by assumption) (by rfl) ?_)
  refine E_cond_if rfl (fun h => absurd rfl h) (fun _ => ?_)
  repeat (first | refine T_nil0 ?_ | refine E_seq ?_ | refine E_region ?_ | refine T_cmp rfl rfl rfl rfl ?_ | refine E_skip ?_ | refine T_fieldBoxF (fun _ _ => by kernel_rfl) rfl rfl ?_ | refine T_loadBoxB Try.isAgg3 rfl rfl (by assumption) (by assumption) (by rfl) ?_)
  refine E_cond_if rfl (fun h => absurd rfl h) (fun _ => ?_)
  repeat (first | refine E_seq ?_ | refine E_region ?_ | refine E_skip ?_ | refine T_fieldBoxF (fun _ _ => by kernel_rfl) rfl rfl ?_ | refine T_loadBoxB Try.isAgg3 rfl rfl (by assumption) (by assumption) (by rfl) ?_)
  refine T_call rfl rfl (eqDefectS_yes v u x.ds w2 (hI.later hB) (hJ.later hB) hl) (fun r w3 hr => ?_)
  obtain ⟨rfl, hb⟩ := hr
  repeat (first | refine T_assign rfl rfl ?_ | refine T_nil0 ?_ | refine E_seq ?_ | refine E_region ?_ | refine E_cond_false rfl ?_ | refine E_skip ?_ | refine T_notB rfl rfl ?_)
  first
  | refine E_cond_if rfl (fun h => absurd rfl h) (fun _ => ?_)
    repeat' (first | (first | refine T_move rfl rfl ?_ | refine T_assign rfl rfl ?_ | refine T_nil0 ?_ | refine T_nil1 ?_ | refine T_nil3 ?_ | refine T_nil4 ?_ | refine E_seq ?_ | refine E_region ?_ | refine T_cmp rfl rfl rfl rfl ?_ | refine T_on rfl rfl ?_ | refine T_off rfl rfl rfl ?_ | refine T_offU rfl rfl rfl ?_ | refine T_add rfl rfl rfl (by omega) ?_ | refine T_sub rfl rfl rfl (by omega) ?_ | refine T_pick_true rfl rfl rfl ?_ | refine T_pick_false rfl rfl rfl ?_ | refine E_cond_true rfl ?_ | refine E_cond_false rfl ?_ | refine E_skip ?_ | refine E_blockS ?_ | refine E_blockR ?_ | refine E_blockC ?_ | refine E_blockB ?_ | refine E_inBlock ?_ | refine E_exit rfl ?_ | refine T_not rfl rfl ?_ | refine T_notB rfl rfl ?_ | refine T_max rfl rfl rfl ?_ | refine T_min rfl rfl rfl ?_ | refine T_extract rfl rfl rfl ?_) | (first | refine T_fieldBoxF (fun _ _ => by kernel_rfl) rfl rfl ?_ | refine T_loadBoxB Try.isAgg3 rfl rfl (by assumption) (by assumption) (by rfl) ?_ | refine T_loadBoxB nDs rfl rfl (by assumption) (by assumption) (by rfl) ?_ | refine T_loadBoxAB aL sL rfl rfl (by assumption) (by assumption) (by rfl) ?_ | refine T_loadBoxAB aD sD rfl rfl (by assumption) (by assumption) (by rfl) ?_ | refine T_loadBoxAB aT sT rfl rfl (by assumption) (by assumption) (by rfl) ?_ | refine T_len tyD rfl rfl (Recs.rlen (r := recD) (by assumption)) ?_ | refine T_indexD tyD rfl rfl rfl (by assumption) (by omega) ?_ | refine T_indexDI tyD rfl rfl rfl (by assumption) (by omega) ?_ | refine T_loadDA aD sD rfl rfl (by assumption) (by assumption) (by omega) ?_ | refine T_fieldD (fun _ _ => by kernel_rfl) rfl rfl (by assumption) (by omega) ?_ | refine T_loadD Try.isAgg3 rfl rfl (by assumption) (by assumption) (by omega) (by rfl) ?_) | (first | refine T_guard rfl rfl (fun hp => ?_) (fun hp => ?_) | refine T_guardB rfl rfl (fun hp => ?_) (fun hp => ?_) | refine E_cond_if rfl (fun hp => ?_) (fun hp => ?_) | refine E_cond_bool rfl (fun hp => ?_) (fun hp => ?_)) | (first | refine E_ret1 rfl rfl ?_ | refine E_ret2 rfl rfl rfl ?_ | refine E_ret3 rfl rfl rfl rfl ?_))
    exact ⟨rfl, hB.step hB.size hb⟩
  | repeat' (first | refine E_ret1 rfl rfl ?_)
    exact ⟨rfl, hB.step hB.size hb⟩



end Go.Proofs.Ytnecmchcemnopaa
