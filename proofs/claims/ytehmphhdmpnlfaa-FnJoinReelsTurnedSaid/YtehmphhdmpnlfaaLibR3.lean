/-
  Contracts of the laws' helpers on reels: copies, comparisons, marks. Conditions: the arguments lie in memory as the contract says.
-/
import Derived.Test.YtehmphhdmpnlfaaLibR
namespace Go.PR
open Go Go.RowKit
instance : DecidableEq Dfc := fun a b => decidable_of_iff (a.l = b.l ∧ a.r = b.r ∧ a.f = b.f ∧ a.t = b.t ∧ a.g = b.g) ⟨fun h => Dfc.ext' h.1 h.2.1 h.2.2.1 h.2.2.2.1 h.2.2.2.2, fun h => by subst h; simp⟩
theorem copyR_step {α : Type} {xs : List α} {k : Nat} {z : α} (h : k < xs.length) : (xs.take k ++ List.replicate (xs.length - k) z).set k (xs.getD k z) = xs.take (k + 1) ++ List.replicate (xs.length - (k + 1)) z := by
  rw [takeS (z := z) h, show xs.length - k = (xs.length - (k + 1)) + 1 by omega, List.replicate_succ]
  have hl : (xs.take k).length = k := by simp; omega
  rw [List.set_append_right _ _ (by omega), hl]
  simp
/-- the numbers from i on, five to a record -/
def marksD (i : Int) : Nat → List Dfc
  | 0 => []
  | n + 1 => ⟨i, i + 1, i + 2, i + 3, i + 4⟩ :: marksD (i + 5) n
theorem marksD_length (n : Nat) : ∀ i, (marksD i n).length = n := by
  induction n with
  | zero => intro i; rfl
  | succ n ih => intro i; simp [marksD, ih]
theorem marksD_getD (n : Nat) : ∀ (i : Int) (j : Nat), j < n → (marksD i n).getD j dz = ⟨i + 5 * j, i + 5 * j + 1, i + 5 * j + 2, i + 5 * j + 3, i + 5 * j + 4⟩ := by
  induction n with
  | zero => intro k j h; omega
  | succ n ih =>
    intro i j h
    cases j with
    | zero => simp [marksD]
    | succ j =>
      have := ih (i + 5) j (by omega)
      simp only [marksD, List.getD_cons_succ, this]
      apply Dfc.ext' <;> simp only <;> omega
theorem marksD_snoc (n : Nat) : ∀ i : Int, marksD i (n + 1) = marksD i n ++ [⟨i + 5 * n, i + 5 * n + 1, i + 5 * n + 2, i + 5 * n + 3, i + 5 * n + 4⟩] := by
  induction n with
  | zero => intro k; simp [marksD]
  | succ n ih =>
    intro i
    have := ih (i + 5)
    rw [marksD, this, marksD]
    simp only [List.cons_append, List.cons.injEq, List.append_cancel_left_eq, and_true, true_and]
    apply Dfc.ext' <;> simp only <;> omega
theorem markD_step {xs : List Dfc} {k : Nat} (i : Int) (h : k < xs.length) : (marksD i k ++ xs.drop k).set k ⟨i + 5 * k, i + 5 * k + 1, i + 5 * k + 2, i + 5 * k + 3, i + 5 * k + 4⟩ = marksD i (k + 1) ++ xs.drop (k + 1) := by
  rw [marksD_snoc]
  have hl := marksD_length k i
  have hd : ∀ q : Dfc, (xs.drop k).set 0 q = q :: xs.drop (k + 1) := by
    intro q; rw [List.drop_eq_getElem_cons h]; rfl
  rw [List.set_append_right _ _ (by omega), hl, Nat.sub_self, hd, List.append_assoc]
  rfl
theorem getD_setS {α : Type} {xs : List α} {k : Nat} {x d : α} (h : k < xs.length) : (xs.set k x).getD k d = x := by
  rw [List.getD_eq_getElem?_getD, List.getElem?_set_self h]; rfl
end Go.PR
namespace Go.Proofs.Ytehmphhdmpnlfaa
open Go Go.PR Go.RowKit attribute [local irreducible] T E Ints Sl Bools OwnI OwnB OwnR Recs Box Ret

theorem szDefectS_spec (v : Value) (k : Nat) (left : Int) (w : World) (hv : SlLen v k) (hk : k ≤ 9223372036854775807) (hl : 0 ≤ left ∧ left ≤ 1048576) :
    Ret Try.prog 32 #[v, .int .i64 left] w (fun r w' => ∃ q, r = .int .i64 q ∧ (0 ≤ q → q = left - k) ∧ w' = w) := by
  refine Ret_of (args := [_, _]) Try.call32 Try.func32 rfl _ Try.ntmps32 rfl ?_
  repeat (first | refine T_move rfl rfl ?_ | refine T_assign rfl rfl ?_ | refine T_nil0 ?_ | refine E_seq ?_ | refine E_region ?_)
  refine T_len tyE rfl rfl hv ?_
  repeat (first | refine T_move rfl rfl ?_ | refine T_assign rfl rfl ?_ | refine T_nil0 ?_ | refine E_seq ?_ | refine E_region ?_ | refine T_cmp rfl rfl rfl rfl ?_ | refine T_sub rfl rfl rfl (by omega) ?_)
  refine E_cond_if rfl (fun h1 => ?_) (fun h1 => ?_)
  · repeat' (first | refine T_assign rfl rfl ?_ | refine T_nil0 ?_ | refine E_seq ?_ | refine E_region ?_ | refine E_ret1 rfl rfl ?_)
    exact ⟨_, rfl, by omega, rfl⟩
  · repeat' (first | refine T_move rfl rfl ?_ | refine T_assign rfl rfl ?_ | refine T_nil0 ?_ | refine E_seq ?_ | refine E_region ?_ | refine E_skip ?_ | refine E_ret1 rfl rfl ?_)
    exact ⟨_, rfl, fun _ => rfl, rfl⟩
theorem szReel_spec (x : Rel) (v : Value) (left : Int) (w : World) (hv : SlLen v x.ds.length) (hk : x.ds.length ≤ 9223372036854775807) (hl : 0 ≤ left ∧ left ≤ 1048576) :
    Ret Try.prog 11 #[relV x v, .int .i64 left] w (fun r w' => ∃ q, r = .int .i64 q ∧ (0 ≤ q → q = left - x.ds.length) ∧ Below w.heap.size w w') := by
  refine Ret_of (args := [_, _]) Try.call11 Try.func11 rfl _ Try.ntmps11 rfl ?_
  repeat (first | refine E_seq ?_ | refine E_region ?_)
  refine T_box (cs := relC x v) rfl rfl (fun b1 w1 hn1 hx1 hB => ?_)
  have hC := Below.refl w1.heap.size w1
  repeat (first | refine T_move rfl rfl ?_ | refine T_assign rfl rfl ?_ | refine T_nil0 ?_ | refine E_seq ?_ | refine E_region ?_ | refine T_fieldBoxF (fun _ _ => by kernel_rfl) rfl rfl ?_ | refine T_loadBoxB Try.isAgg3 rfl rfl (by assumption) (by assumption) (by rfl) ?_)
  refine T_call rfl rfl (szDefectS_spec v x.ds.length left w1 hv hk hl) (fun r w3 hr => ?_)
  obtain ⟨q, rfl, hq, rfl⟩ := hr
  repeat (first | refine T_move rfl rfl ?_ | refine T_assign rfl rfl ?_ | refine T_nil0 ?_ | refine E_seq ?_ | refine E_region ?_ | refine T_cmp rfl rfl rfl rfl ?_)
  refine E_cond_if rfl (fun h1 => ?_) (fun h1 => ?_)
  · repeat' (first | refine T_assign rfl rfl ?_ | refine T_nil0 ?_ | refine E_seq ?_ | refine E_region ?_ | refine E_ret1 rfl rfl ?_)
    exact ⟨_, rfl, by omega, hB⟩
  · repeat' (first | refine T_move rfl rfl ?_ | refine T_assign rfl rfl ?_ | refine T_nil0 ?_ | refine E_seq ?_ | refine E_region ?_ | refine E_skip ?_ | refine E_ret1 rfl rfl ?_)
    exact ⟨_, rfl, hq, hB⟩

theorem toDefect_spec (d : Dfc) (w : World) :
    Ret Try.prog 55 #[.agg (recD.enc d).toArray] w (fun r w' => r = .agg (recD.enc d).toArray ∧ Below w.heap.size w w') := by
  refine Ret_of (args := [_]) Try.call55 Try.func55 rfl _ Try.ntmps55 rfl ?_
  repeat (first | refine E_seq ?_ | refine E_region ?_)
  refine T_box rfl rfl (fun b1 w1 hn1 hx1 hB => ?_)
  refine T_alloc zD rfl (fun b2 w2 hn2 hx2 hb => ?_)
  have hz := hB.size
  have hx1 := hx1.later hb
  have hB := hB.step hB.size hb
  repeat (first | refine T_nil0 ?_ | refine E_seq ?_ | refine E_region ?_)
  refine T_alloc zD rfl (fun b3 w3 hn3 hx3 hC => ?_)
  repeat (first | refine T_nil0 ?_ | refine E_seq ?_ | refine E_region ?_ | refine T_fieldBoxF (fun _ _ => by kernel_rfl) rfl rfl ?_ | refine T_loadBoxB Try.isAgg3 rfl rfl (by assumption) (by assumption) (by rfl) ?_)
  refine T_storeBox Try.sizeOf3 rfl rfl rfl hx3 (Nat.le_of_ble_eq_true rfl) (fun _ hx3 hg3 _ => ?_); have hC := hC.grown hg3 hC.size (fun c hc => by simp at hc; omega)
  repeat (first | refine T_nil0 ?_ | refine E_seq ?_ | refine E_region ?_ | refine T_fieldBoxF (fun _ _ => by kernel_rfl) rfl rfl ?_ | refine T_loadBoxB Try.isAgg3 rfl rfl (by assumption) (by assumption) (by rfl) ?_)
  refine T_storeBox Try.sizeOf3 rfl rfl rfl hx3 (Nat.le_of_ble_eq_true rfl) (fun _ hx3 hg3 _ => ?_); have hC := hC.grown hg3 hC.size (fun c hc => by simp at hc; omega)
  repeat (first | refine T_nil0 ?_ | refine E_seq ?_ | refine E_region ?_ | refine T_fieldBoxF (fun _ _ => by kernel_rfl) rfl rfl ?_ | refine T_loadBoxB Try.isAgg3 rfl rfl (by assumption) (by assumption) (by rfl) ?_)
  refine T_storeBox Try.sizeOf3 rfl rfl rfl hx3 (Nat.le_of_ble_eq_true rfl) (fun _ hx3 hg3 _ => ?_); have hC := hC.grown hg3 hC.size (fun c hc => by simp at hc; omega)
  repeat (first | refine T_nil0 ?_ | refine E_seq ?_ | refine E_region ?_ | refine T_fieldBoxF (fun _ _ => by kernel_rfl) rfl rfl ?_ | refine T_loadBoxB Try.isAgg3 rfl rfl (by assumption) (by assumption) (by rfl) ?_)
  refine T_storeBox Try.sizeOf3 rfl rfl rfl hx3 (Nat.le_of_ble_eq_true rfl) (fun _ hx3 hg3 _ => ?_); have hC := hC.grown hg3 hC.size (fun c hc => by simp at hc; omega)
  repeat (first | refine T_nil0 ?_ | refine E_seq ?_ | refine E_region ?_ | refine T_fieldBoxF (fun _ _ => by kernel_rfl) rfl rfl ?_ | refine T_loadBoxB Try.isAgg3 rfl rfl (by assumption) (by assumption) (by rfl) ?_)
  refine T_storeBox Try.sizeOf3 rfl rfl rfl hx3 (Nat.le_of_ble_eq_true rfl) (fun _ hx3 hg3 _ => ?_); have hC := hC.grown hg3 hC.size (fun c hc => by simp at hc; omega)
  repeat (first | refine T_nil0 ?_ | refine E_seq ?_ | refine E_region ?_)
  refine T_loadBoxA (cs := recD.enc d) aD sD rfl rfl hx3 rfl ?_
  refine T_storeBoxA (us := recD.enc d) sD rfl rfl rfl (recD.one _) (hx2.later hC) rfl (fun w9 hx9 hg9 _ => ?_)
  repeat (first | refine T_nil0 ?_)
  exact E_retC rfl rfl aD sD hx9 rfl ⟨rfl, (hB.step hB.size hC).grown hg9 (by have := hC.size; have := hB.size; omega) (fun c hc => by simp at hc; omega)⟩
theorem toDefectS_spec (v : Value) (xs : List Dfc) (w : World) (hI : Recs recD w.heap v xs) (hl : xs.length ≤ 1048576) :
    Ret Try.prog 36 #[v] w (fun r w' => OwnR recD w' w.heap.size 57 r xs ∧ Below w.heap.size w w') := by
  refine Ret_of (args := [_]) Try.call36 Try.func36 rfl _ Try.ntmps36 rfl ?_
  repeat (first | refine T_move rfl rfl ?_ | refine T_assign rfl rfl ?_ | refine T_nil0 ?_ | refine E_seq ?_ | refine E_region ?_ | refine T_len tyE rfl rfl (Recs.rlen (r := recD) (by assumption)) ?_)
  refine T_makeR (r := recD) tyD rfl rfl rfl rfl rfl (by omega) (fun ov w1 hO _ _ hB => ?_)
  rw [Int.toNat_natCast] at hO
  have hO : OwnR recD w1 w.heap.size 57 ov (List.replicate xs.length dz) := hO
  repeat (first | refine T_assign rfl rfl ?_ | refine T_nil0 ?_ | refine E_seq ?_ | refine E_region ?_)
  refine E_loop (σ := Nat) (fun k => [(0, v), (3, ov), (4, .int .i64 k)]) (fun k w' => k ≤ xs.length ∧ OwnR recD w' w.heap.size 57 ov (xs.take k ++ List.replicate (xs.length - k) dz) ∧ Below w.heap.size w w') (fun k => xs.length - k) 0
    ⟨by omega, by simpa using hO, hB⟩ ⟨rfl, rfl, rfl, trivial⟩ ?_
  clear hO hB
  rintro k w2 ⟨hk, hO, hB⟩ IH
  repeat (first | refine T_move rfl rfl ?_ | refine T_nil0 ?_ | refine E_seq ?_ | refine E_region ?_ | refine T_cmp rfl rfl rfl rfl ?_ | refine T_len tyE rfl rfl (Recs.rlen (r := recD) (by assumption)) ?_)
  refine E_cond_if rfl (fun hp => ?_) (fun hp => ?_)
  case refine_2 =>
    repeat' (first | refine T_move rfl rfl ?_ | refine T_assign rfl rfl ?_ | refine T_nil0 ?_ | refine E_seq ?_ | refine E_region ?_ | refine E_exit rfl ?_ | refine E_ret1 rfl rfl ?_)
    have e : k = xs.length := by omega
    subst e
    exact ⟨by simpa using hO, hB⟩
  have hkl : k < xs.length := by omega
  have hst := copyR_step (z := dz) hkl
  have hll : (xs.take k ++ List.replicate (xs.length - k) dz).length = xs.length := by simp; omega
  generalize xs.take k ++ List.replicate (xs.length - k) dz = L at *
  have hOR := hO.recs
  repeat (first | refine T_move rfl rfl ?_ | refine E_seq ?_ | refine E_region ?_ | refine E_skip ?_ | refine E_blockR ?_ | refine T_loadDA aD sD rfl rfl (by assumption) (by assumption) (by omega) ?_ | refine T_indexD tyE rfl rfl rfl (by assumption) (by omega) ?_)
  refine T_call rfl rfl (toDefect_spec (xs.getD k dz) w2) (fun r w3 hr => ?_)
  obtain ⟨rfl, hb⟩ := hr
  have hO := hO.later hb
  have hB := hB.step hB.size hb
  repeat (first | refine T_indexD tyD rfl rfl rfl (by assumption) (by omega) ?_)
  refine T_storeRA (r := recD) (a' := xs.getD k dz) sD rfl rfl hO (by omega) (fun w4 hO4 hg4 _ => ?_)
  rw [hst] at hO4
  have hB := hB.own hg4 hO.blk (Nat.le_refl _) hB.size
  repeat (first | refine T_move rfl rfl ?_ | refine T_assign rfl rfl ?_ | refine T_nil0 ?_ | refine E_region ?_ | refine T_add rfl rfl rfl (by omega) ?_ | refine E_inBlock ?_)
  exact IH (k + 1) w4 _ ⟨by omega, hO4, hB⟩ (by omega) ⟨rfl, rfl, rfl, trivial⟩
theorem toReel_spec (x : Rel) (v : Value) (w : World) (hI : Recs recD w.heap v x.ds) (hl : x.ds.length ≤ 1048576) :
    Ret Try.prog 13 #[relV x v] w (fun r w' => ∃ u, r = relV x u ∧ OwnR recD w' w.heap.size 57 u x.ds ∧ Below w.heap.size w w') := by
  refine Ret_of (args := [_]) Try.call13 Try.func13 rfl _ Try.ntmps13 rfl ?_
  repeat (first | refine E_seq ?_ | refine E_region ?_)
  refine T_box (cs := relC x v) rfl rfl (fun b1 w1 hn1 hx1 hB => ?_)
  refine T_alloc zL rfl (fun b2 w2 hn2 hx2 hb => ?_)
  have hz := hB.size
  have hx1 := hx1.later hb
  have hB := hB.step hB.size hb
  have hI := hI.later hB
  repeat (first | refine T_nil0 ?_ | refine E_seq ?_ | refine E_region ?_)
  refine T_alloc zL rfl (fun b3 w3 hn3 hx3 hC => ?_)
  repeat (first | refine T_nil0 ?_ | refine E_seq ?_ | refine E_region ?_ | refine T_fieldBoxF (fun _ _ => by kernel_rfl) rfl rfl ?_ | refine T_loadBoxB Try.isAgg3 rfl rfl (by assumption) (by assumption) (by rfl) ?_)
  refine T_storeBox Try.sizeOf3 rfl rfl rfl hx3 (Nat.le_of_ble_eq_true rfl) (fun _ hx3 hg3 _ => ?_); have hC := hC.grown hg3 hC.size (fun c hc => by simp at hc; omega)
  repeat (first | refine T_nil0 ?_ | refine E_seq ?_ | refine E_region ?_ | refine T_fieldBoxF (fun _ _ => by kernel_rfl) rfl rfl ?_ | refine T_loadBoxB Try.isAgg3 rfl rfl (by assumption) (by assumption) (by rfl) ?_)
  refine T_storeBox Try.sizeOf3 rfl rfl rfl hx3 (Nat.le_of_ble_eq_true rfl) (fun _ hx3 hg3 _ => ?_); have hC := hC.grown hg3 hC.size (fun c hc => by simp at hc; omega)
  repeat (first | refine T_nil0 ?_ | refine E_seq ?_ | refine E_region ?_ | refine T_fieldBoxF (fun _ _ => by kernel_rfl) rfl rfl ?_ | refine T_loadBoxB Try.isAgg3 rfl rfl (by assumption) (by assumption) (by rfl) ?_)
  have hl3 := hx3.lt
  have hl2 := hx2.lt
  have hzc := hC.size
  have hzb := hB.size
  refine T_call rfl rfl (toDefectS_spec v x.ds _ (hI.later hC) hl) (fun u w4 hr => ?_)
  obtain ⟨hu, hb4⟩ := hr
  have hx3 := hx3.later hb4
  have hbu := hu.blk
  have hC := hC.step hC.size hb4
  repeat (first | refine T_fieldBoxF (fun _ _ => by kernel_rfl) rfl rfl ?_)
  refine T_storeBox s1Ds rfl rfl (slice_one hu.recs.rlen) hx3 (Nat.le_of_ble_eq_true rfl) (fun w5 hx5 hg5 _ => ?_)
  have hu := hu.kept hg5 (hbu.ne_some (.inr (by omega)))
  have hC := hC.grown hg5 hC.size (fun c hc => by simp at hc; omega)
  repeat (first | refine T_nil0 ?_ | refine E_seq ?_ | refine E_region ?_)
  refine T_loadBoxA (cs := relC x u) aL sL rfl rfl hx5 rfl ?_
  refine T_storeBoxA (us := relC x u) sL rfl rfl rfl (relC_one hu.recs.rlen) (hx2.later hC) rfl (fun w9 hx9 hg9 _ => ?_)
  have hu := hu.kept hg9 (hbu.ne_some (.inr (by omega)))
  repeat (first | refine T_nil0 ?_)
  exact E_retC rfl rfl aL sL hx9 rfl ⟨u, rfl, hu.base (by omega), (hB.step hB.size hC).grown hg9 (by have := hC.size; have := hB.size; omega) (fun c hc => by simp at hc; omega)⟩

theorem toPart_spec (p : Prt) (w : World) :
    Ret Try.prog 14 #[.agg (recT.enc p).toArray] w (fun r w' => r = .agg (recT.enc p).toArray ∧ Below w.heap.size w w') := by
  refine Ret_of (args := [_]) Try.call14 Try.func14 rfl _ Try.ntmps14 rfl ?_
  repeat (first | refine E_seq ?_ | refine E_region ?_)
  refine T_box rfl rfl (fun b1 w1 hn1 hx1 hB => ?_)
  refine T_alloc zT rfl (fun b2 w2 hn2 hx2 hb => ?_)
  have hz := hB.size
  have hx1 := hx1.later hb
  have hB := hB.step hB.size hb
  repeat (first | refine T_nil0 ?_ | refine E_seq ?_ | refine E_region ?_)
  refine T_alloc zT rfl (fun b3 w3 hn3 hx3 hC => ?_)
  repeat (first | refine T_nil0 ?_ | refine E_seq ?_ | refine E_region ?_ | refine T_fieldBoxF (fun _ _ => by kernel_rfl) rfl rfl ?_ | refine T_loadBoxB Try.isAgg3 rfl rfl (by assumption) (by assumption) (by rfl) ?_)
  refine T_storeBox Try.sizeOf3 rfl rfl rfl hx3 (Nat.le_of_ble_eq_true rfl) (fun _ hx3 hg3 _ => ?_); have hC := hC.grown hg3 hC.size (fun c hc => by simp at hc; omega)
  repeat (first | refine T_nil0 ?_ | refine E_seq ?_ | refine E_region ?_ | refine T_fieldBoxF (fun _ _ => by kernel_rfl) rfl rfl ?_ | refine T_loadBoxB Try.isAgg3 rfl rfl (by assumption) (by assumption) (by rfl) ?_)
  refine T_storeBox Try.sizeOf3 rfl rfl rfl hx3 (Nat.le_of_ble_eq_true rfl) (fun _ hx3 hg3 _ => ?_); have hC := hC.grown hg3 hC.size (fun c hc => by simp at hc; omega)
  repeat (first | refine T_nil0 ?_ | refine E_seq ?_ | refine E_region ?_ | refine T_fieldBoxF (fun _ _ => by kernel_rfl) rfl rfl ?_ | refine T_loadBoxB Try.isAgg3 rfl rfl (by assumption) (by assumption) (by rfl) ?_)
  refine T_storeBox Try.sizeOf3 rfl rfl rfl hx3 (Nat.le_of_ble_eq_true rfl) (fun _ hx3 hg3 _ => ?_); have hC := hC.grown hg3 hC.size (fun c hc => by simp at hc; omega)
  repeat (first | refine T_nil0 ?_ | refine E_seq ?_ | refine E_region ?_ | refine T_fieldBoxF (fun _ _ => by kernel_rfl) rfl rfl ?_ | refine T_loadBoxB Try.isAgg3 rfl rfl (by assumption) (by assumption) (by rfl) ?_)
  refine T_storeBox Try.sizeOf3 rfl rfl rfl hx3 (Nat.le_of_ble_eq_true rfl) (fun _ hx3 hg3 _ => ?_); have hC := hC.grown hg3 hC.size (fun c hc => by simp at hc; omega)
  repeat (first | refine T_nil0 ?_ | refine E_seq ?_ | refine E_region ?_)
  refine T_loadBoxA (cs := recT.enc p) aT sT rfl rfl hx3 rfl ?_
  refine T_storeBoxA (us := recT.enc p) sT rfl rfl rfl (recT.one _) (hx2.later hC) rfl (fun w9 hx9 hg9 _ => ?_)
  repeat (first | refine T_nil0 ?_)
  exact E_retC rfl rfl aT sT hx9 rfl ⟨rfl, (hB.step hB.size hC).grown hg9 (by have := hC.size; have := hB.size; omega) (fun c hc => by simp at hc; omega)⟩

theorem eqDefect_yes (d : Dfc) (w : World) :
    Ret Try.prog 56 #[.agg (recD.enc d).toArray, .agg (recD.enc d).toArray] w (fun r w' => r = .bool true ∧ Below w.heap.size w w') := by
  refine Ret_of (args := [_, _]) Try.call56 Try.func56 rfl _ Try.ntmps56 rfl ?_
  repeat (first | refine E_seq ?_ | refine E_region ?_)
  refine T_box rfl rfl (fun b1 w1 hn1 hx1 hB => ?_)
  refine T_box rfl rfl (fun b2 w2 hn2 hx2 hb => ?_)
  have hx1 := hx1.later hb
  have hB := hB.step hB.size hb
  have hC := Below.refl w2.heap.size w2
  repeat (first | refine T_assign rfl rfl ?_ | refine T_nil0 ?_ | refine E_seq ?_ | refine E_region ?_ | refine T_cmp rfl rfl rfl rfl ?_ | refine T_fieldBoxF (fun _ _ => by kernel_rfl) rfl rfl ?_ | refine T_loadBoxB Try.isAgg3 rfl rfl (by assumption) (by assumption) (by rfl) ?_)
  refine E_cond_if rfl (fun h => absurd rfl h) (fun _ => ?_)
  repeat (first | refine T_nil0 ?_ | refine E_seq ?_ | refine E_region ?_ | refine T_cmp rfl rfl rfl rfl ?_ | refine E_skip ?_ | refine T_fieldBoxF (fun _ _ => by kernel_rfl) rfl rfl ?_ | refine T_loadBoxB Try.isAgg3 rfl rfl (by assumption) (by assumption) (by rfl) ?_)
  refine E_cond_if rfl (fun h => absurd rfl h) (fun _ => ?_)
  repeat (first | refine T_nil0 ?_ | refine E_seq ?_ | refine E_region ?_ | refine T_cmp rfl rfl rfl rfl ?_ | refine E_skip ?_ | refine T_fieldBoxF (fun _ _ => by kernel_rfl) rfl rfl ?_ | refine T_loadBoxB Try.isAgg3 rfl rfl (by assumption) (by assumption) (by rfl) ?_)
  refine E_cond_if rfl (fun h => absurd rfl h) (fun _ => ?_)
  repeat (first | refine T_nil0 ?_ | refine E_seq ?_ | refine E_region ?_ | refine T_cmp rfl rfl rfl rfl ?_ | refine E_skip ?_ | refine T_fieldBoxF (fun _ _ => by kernel_rfl) rfl rfl ?_ | refine T_loadBoxB Try.isAgg3 rfl rfl (by assumption) (by assumption) (by rfl) ?_)
  refine E_cond_if rfl (fun h => absurd rfl h) (fun _ => ?_)
  repeat (first | refine T_nil0 ?_ | refine E_seq ?_ | refine E_region ?_ | refine T_cmp rfl rfl rfl rfl ?_ | refine E_skip ?_ | refine T_fieldBoxF (fun _ _ => by kernel_rfl) rfl rfl ?_ | refine T_loadBoxB Try.isAgg3 rfl rfl (by assumption) (by assumption) (by rfl) ?_)
  refine E_cond_if rfl (fun h => absurd rfl h) (fun _ => ?_)
  repeat' (first | refine T_assign rfl rfl ?_ | refine T_nil0 ?_ | refine E_seq ?_ | refine E_region ?_ | refine E_skip ?_ | refine E_ret1 rfl rfl ?_)
  exact ⟨rfl, hB⟩
theorem eqDefectS_yes (v u : Value) (xs : List Dfc) (w : World) (hI : Recs recD w.heap v xs) (hJ : Recs recD w.heap u xs) (hl : xs.length ≤ 1048576) :
    Ret Try.prog 40 #[v, u] w (fun r w' => r = .bool true ∧ Below w.heap.size w w') := by
  refine Ret_of (args := [_, _]) Try.call40 Try.func40 rfl _ Try.ntmps40 rfl ?_
  repeat (first | refine T_move rfl rfl ?_ | refine T_assign rfl rfl ?_ | refine T_nil0 ?_ | refine E_seq ?_ | refine E_region ?_ | refine T_cmp rfl rfl rfl rfl ?_ | refine T_len tyD rfl rfl (Recs.rlen (r := recD) (by assumption)) ?_)
  refine E_cond_if rfl (fun h => absurd rfl h) (fun _ => ?_)
  have hC := Below.refl w.heap.size w
  repeat (first | refine T_assign rfl rfl ?_ | refine T_nil0 ?_ | refine E_seq ?_ | refine E_region ?_ | refine E_skip ?_)
  refine E_loop (σ := Nat) (fun k => [(0, v), (1, u), (5, .int .i64 k)]) (fun k w' => k ≤ xs.length ∧ Below w.heap.size w w') (fun k => xs.length - k) 0 ⟨by omega, hC⟩ ⟨rfl, rfl, rfl, trivial⟩ ?_
  clear hC
  rintro k w2 ⟨hk, hC⟩ IH
  repeat (first | refine T_move rfl rfl ?_ | refine T_nil0 ?_ | refine E_seq ?_ | refine E_region ?_ | refine T_cmp rfl rfl rfl rfl ?_ | refine T_len tyD rfl rfl (Recs.rlen (r := recD) (by assumption)) ?_)
  refine E_cond_if rfl (fun hp => ?_) (fun hp => ?_)
  case refine_2 =>
    repeat' (first | refine T_assign rfl rfl ?_ | refine T_nil0 ?_ | refine E_seq ?_ | refine E_region ?_ | refine E_exit rfl ?_ | refine E_ret1 rfl rfl ?_)
    exact ⟨rfl, hC⟩
  have hkl : k < xs.length := by omega
  repeat (first | refine E_seq ?_ | refine E_skip ?_ | refine E_blockS ?_)
  refine E_region_quiet follows (by kernel_rfl) ?_
  repeat (first | refine T_move rfl rfl ?_ | refine T_indexD tyD rfl rfl rfl (by assumption) (by omega) ?_ | refine T_loadDA aD sD rfl rfl (by assumption) (by assumption) (by omega) ?_)
  refine T_callQ rfl rfl (fun w9 hb9 => eqDefect_yes (xs.getD k dz) w9) ?_
  repeat (first | refine T_notB rfl rfl ?_)
  refine T_nil2 (fun w9 hb9 => ?_)
  have hC := hC.step hC.size hb9
  repeat (first | refine T_move rfl rfl ?_ | refine T_assign rfl rfl ?_ | refine T_nil0 ?_ | refine E_region ?_ | refine T_add rfl rfl rfl (by omega) ?_ | refine E_cond_false rfl ?_ | refine E_skip ?_ | refine E_inBlock ?_)
  exact IH (k + 1) w9 _ ⟨by omega, hC⟩ (by omega) ⟨rfl, rfl, rfl, trivial⟩
theorem eqReel_yes (x : Rel) (v u : Value) (w : World) (hI : Recs recD w.heap v x.ds) (hJ : Recs recD w.heap u x.ds) (hl : x.ds.length ≤ 1048576) :
    Ret Try.prog 16 #[relV x v, relV x u] w (fun r w' => r = .bool true ∧ Below w.heap.size w w') := by
  refine Ret_of (args := [_, _]) Try.call16 Try.func16 rfl _ Try.ntmps16 rfl ?_
  repeat (first | refine E_seq ?_ | refine E_region ?_)
  refine T_box (cs := relC x v) rfl rfl (fun b1 w1 hn1 hx1 hB => ?_)
  refine T_box (cs := relC x u) rfl rfl (fun b2 w2 hn2 hx2 hb => ?_)
  have hx1 := hx1.later hb
  have hB := hB.step hB.size hb
  have hC := Below.refl w2.heap.size w2
  repeat (first | refine T_assign rfl rfl ?_ | refine T_nil0 ?_ | refine E_seq ?_ | refine E_region ?_ | refine T_cmp rfl rfl rfl rfl ?_ | refine T_fieldBoxF (fun _ _ => by kernel_rfl) rfl rfl ?_ | refine T_loadBoxB Try.isAgg3 rfl rfl (by assumption) (by assumption) (by rfl) ?_)
  refine E_cond_if rfl (fun h => absurd rfl h) (fun _ => ?_)
  repeat (first | refine T_nil0 ?_ | refine E_seq ?_ | refine E_region ?_ | refine T_cmp rfl rfl rfl rfl ?_ | refine E_skip ?_ | refine T_fieldBoxF (fun _ _ => by kernel_rfl) rfl rfl ?_ | refine T_loadBoxB Try.isAgg3 rfl rfl (by assumption) (by assumption) (by rfl) ?_)
  refine E_cond_if rfl (fun h => absurd rfl h) (fun _ => ?_)
  repeat (first | refine E_seq ?_ | refine E_region ?_ | refine E_skip ?_ | refine T_fieldBoxF (fun _ _ => by kernel_rfl) rfl rfl ?_ | refine T_loadBoxB Try.isAgg3 rfl rfl (by assumption) (by assumption) (by rfl) ?_)
  refine T_call rfl rfl (eqDefectS_yes v u x.ds w2 (hI.later hB) (hJ.later hB) hl) (fun r w3 hr => ?_)
  obtain ⟨rfl, hb⟩ := hr
  repeat (first | refine T_assign rfl rfl ?_ | refine T_nil0 ?_ | refine E_seq ?_ | refine E_region ?_ | refine E_cond_false rfl ?_ | refine E_skip ?_ | refine T_notB rfl rfl ?_)
  first
  | refine E_cond_if rfl (fun h => absurd rfl h) (fun _ => ?_)
    repeat' (first | (first | refine T_move rfl rfl ?_ | refine T_assign rfl rfl ?_ | refine T_nil0 ?_ | refine T_nil1 ?_ | refine T_nil3 ?_ | refine T_nil4 ?_ | refine E_seq ?_ | refine E_region ?_ | refine T_cmp rfl rfl rfl rfl ?_ | refine T_on rfl rfl ?_ | refine T_off rfl rfl rfl ?_ | refine T_offU rfl rfl rfl ?_ | refine T_add rfl rfl rfl (by omega) ?_ | refine T_sub rfl rfl rfl (by omega) ?_ | refine T_pick_true rfl rfl rfl ?_ | refine T_pick_false rfl rfl rfl ?_ | refine E_cond_true rfl ?_ | refine E_cond_false rfl ?_ | refine E_skip ?_ | refine E_blockS ?_ | refine E_blockR ?_ | refine E_blockC ?_ | refine E_blockB ?_ | refine E_inBlock ?_ | refine E_exit rfl ?_ | refine T_not rfl rfl ?_ | refine T_notB rfl rfl ?_ | refine T_max rfl rfl rfl ?_ | refine T_min rfl rfl rfl ?_ | refine T_extract rfl rfl rfl ?_) | (first | refine T_fieldBoxF (fun _ _ => by kernel_rfl) rfl rfl ?_ | refine T_loadBoxB Try.isAgg3 rfl rfl (by assumption) (by assumption) (by rfl) ?_ | refine T_loadBoxB nDs rfl rfl (by assumption) (by assumption) (by rfl) ?_ | refine T_loadBoxAB aL sL rfl rfl (by assumption) (by assumption) (by rfl) ?_ | refine T_loadBoxAB aD sD rfl rfl (by assumption) (by assumption) (by rfl) ?_ | refine T_loadBoxAB aT sT rfl rfl (by assumption) (by assumption) (by rfl) ?_ | refine T_len tyD rfl rfl (Recs.rlen (r := recD) (by assumption)) ?_ | refine T_indexD tyD rfl rfl rfl (by assumption) (by omega) ?_ | refine T_indexDI tyD rfl rfl rfl (by assumption) (by omega) ?_ | refine T_loadDA aD sD rfl rfl (by assumption) (by assumption) (by omega) ?_ | refine T_fieldD (fun _ _ => by kernel_rfl) rfl rfl (by assumption) (by omega) ?_ | refine T_loadD Try.isAgg3 rfl rfl (by assumption) (by assumption) (by omega) (by rfl) ?_) | (first | refine T_guard rfl rfl (fun hp => ?_) (fun hp => ?_) | refine T_guardB rfl rfl (fun hp => ?_) (fun hp => ?_) | refine E_cond_if rfl (fun hp => ?_) (fun hp => ?_) | refine E_cond_bool rfl (fun hp => ?_) (fun hp => ?_)) | (first | refine E_ret1 rfl rfl ?_ | refine E_ret2 rfl rfl rfl ?_ | refine E_ret3 rfl rfl rfl rfl ?_))
    exact ⟨rfl, hB.step hB.size hb⟩
  | repeat' (first | refine E_ret1 rfl rfl ?_)
    exact ⟨rfl, hB.step hB.size hb⟩

theorem eqD : EqTy Try.prog 57 recD := by
  refine ⟨by kernel_rfl, ?_⟩
  rintro ⟨a1, a2, a3, a4, a5⟩ ⟨b1, b2, b3, b4, b5⟩ w
  have hS : Try.prog.underlying 57 = some (.struct (Try.prog.fieldsOf 57)) := by kernel_rfl
  rw [show (10000 : Nat) = 9999 + 1 from rfl, run_equalIn_struct w 9999 57 _ _ hS (by kernel_rfl)]
  have hI : ∀ x y : Int, (Op.equalIn 9999 3 (.int .i64 x) (.int .i64 y)).run Try.prog w = .ok (x == y) w := fun x y => run_equalIn_int w 9998 3 .i64 .i64 x y Try.underlying3
  simp only [Program.fieldsOf, Try.underlying57, recD]
  simp [Op.eqFields, part, Try.isAgg3, hI]
  by_cases h1 : a1 = b1 <;> by_cases h2 : a2 = b2 <;> by_cases h3 : a3 = b3 <;> by_cases h4 : a4 = b4 <;> by_cases h5 : a5 = b5 <;> simp [h1, h2, h3, h4, h5]
theorem equalReel_yes (x : Rel) (v u : Value) (w : World) (hI : Recs recD w.heap v x.ds) (hJ : Recs recD w.heap u x.ds) (hl : x.ds.length ≤ 1048576) :
    Ret Try.prog 19 #[relV x v, relV x u] w (fun r w' => r = .bool true ∧ Below w.heap.size w w') := by
  refine Ret_of (args := [_, _]) Try.call19 Try.func19 rfl _ Try.ntmps19 rfl ?_
  repeat (first | refine E_seq ?_ | refine E_region ?_)
  refine T_box (cs := relC x v) rfl rfl (fun b1 w1 hn1 hx1 hB => ?_)
  refine T_box (cs := relC x u) rfl rfl (fun b2 w2 hn2 hx2 hb => ?_)
  have hx1 := hx1.later hb
  have hB := hB.step hB.size hb
  have hI := hI.later hB
  have hJ := hJ.later hB
  have hC := Below.refl w2.heap.size w2
  repeat (first | refine T_move rfl rfl ?_ | refine T_assign rfl rfl ?_ | refine T_nil0 ?_ | refine E_seq ?_ | refine E_region ?_ | refine T_cmp rfl rfl rfl rfl ?_ | refine T_fieldBoxF (fun _ _ => by kernel_rfl) rfl rfl ?_ | refine T_loadBoxB Try.isAgg3 rfl rfl (by assumption) (by assumption) (by rfl) ?_)
  refine T_guard rfl rfl (fun h => absurd rfl h) (fun _ => ?_)
  repeat (first | refine T_move rfl rfl ?_ | refine T_cmp rfl rfl rfl rfl ?_ | refine T_on rfl rfl ?_ | refine T_pick_false rfl rfl rfl ?_ | refine T_fieldBoxF (fun _ _ => by kernel_rfl) rfl rfl ?_ | refine T_loadBoxB Try.isAgg3 rfl rfl (by assumption) (by assumption) (by rfl) ?_)
  refine T_guard rfl rfl (fun h => absurd rfl h) (fun _ => ?_)
  repeat (first | refine T_nil0 ?_ | refine T_cmp rfl rfl rfl rfl ?_ | refine T_on rfl rfl ?_ | refine T_pick_false rfl rfl rfl ?_ | refine T_fieldBoxF (fun _ _ => by kernel_rfl) rfl rfl ?_ | refine T_loadBoxB Try.isAgg3 rfl rfl (by assumption) (by assumption) (by rfl) ?_ | refine T_len tyD rfl rfl (Recs.rlen (r := recD) (by assumption)) ?_)
  refine E_cond_if rfl (fun h => absurd rfl h) (fun _ => ?_)
  repeat (first | refine T_assign rfl rfl ?_ | refine T_nil0 ?_ | refine E_seq ?_ | refine E_region ?_ | refine E_skip ?_)
  refine E_loop (σ := Nat) (fun k => [(2, bPtr b1 0), (3, bPtr b2 0), (5, .int .i64 k)]) (fun k w' => k ≤ x.ds.length ∧ Below w2.heap.size w2 w') (fun k => x.ds.length - k) 0 ⟨by omega, hC⟩ ⟨rfl, rfl, rfl, trivial⟩ ?_
  clear hC
  rintro k w3 ⟨hk, hC⟩ IH
  repeat (first | refine T_move rfl rfl ?_ | refine T_nil0 ?_ | refine E_seq ?_ | refine E_region ?_ | refine T_cmp rfl rfl rfl rfl ?_ | refine T_fieldBoxF (fun _ _ => by kernel_rfl) rfl rfl ?_ | refine T_loadBoxB Try.isAgg3 rfl rfl (by assumption) (by assumption) (by rfl) ?_ | refine T_len tyD rfl rfl (Recs.rlen (r := recD) (by assumption)) ?_)
  refine E_cond_if rfl (fun hp => ?_) (fun hp => ?_)
  case refine_2 =>
    repeat' (first | refine T_assign rfl rfl ?_ | refine T_nil0 ?_ | refine E_seq ?_ | refine E_region ?_ | refine E_exit rfl ?_ | refine E_ret1 rfl rfl ?_)
    exact ⟨rfl, hB.step hB.size hC⟩
  have hkl : k < x.ds.length := by omega
  repeat (first | refine E_seq ?_ | refine E_skip ?_ | refine E_blockS ?_)
  refine E_region_still follows (by kernel_rfl) ?_
  repeat (first | refine T_move rfl rfl ?_ | refine T_fieldBoxF (fun _ _ => by kernel_rfl) rfl rfl ?_ | refine T_loadBoxB Try.isAgg3 rfl rfl (by assumption) (by assumption) (by rfl) ?_ | refine T_indexD tyD rfl rfl rfl (by assumption) (by omega) ?_ | refine T_loadDA aD sD rfl rfl (by assumption) (by assumption) (by omega) ?_)
  refine T_neqR (r := recD) eqD rfl rfl rfl ?_
  have hC := hC.drew
  repeat (first | refine T_nil1 ?_)
  refine E_cond_if rfl (fun h => absurd rfl h) (fun _ => ?_)
  repeat (first | refine T_move rfl rfl ?_ | refine T_assign rfl rfl ?_ | refine T_nil0 ?_ | refine E_region ?_ | refine T_add rfl rfl rfl (by omega) ?_ | refine E_skip ?_ | refine E_inBlock ?_)
  exact IH (k + 1) _ _ ⟨by omega, hC⟩ (by omega) ⟨rfl, rfl, rfl, trivial⟩

theorem bTw (a b : Int) : StructAt Try.prog 33 [(1, .int .i64 a), (3, .int .i64 b)] (.agg (recT.enc ⟨0, a, 0, b⟩).toArray) := fun w => by kernel_rfl
theorem whole_spec (x : Rel) (v : Value) (w : World) :
    Ret Try.prog 22 #[relV x v] w (fun r w' => r = .agg (recT.enc (wholeF x)).toArray ∧ Below w.heap.size w w') := by
  refine Ret_of (args := [_]) Try.call22 Try.func22 rfl _ Try.ntmps22 rfl ?_
  repeat (first | refine E_seq ?_ | refine E_region ?_)
  refine T_box (cs := relC x v) rfl rfl (fun b1 w1 hn1 hx1 hB => ?_)
  refine T_alloc zT rfl (fun b2 w2 hn2 hx2 hb => ?_)
  have hz := hB.size
  have hx1 := hx1.later hb
  have hB := hB.step hB.size hb
  have hC := Below.refl w2.heap.size w2
  repeat (first | refine T_nil0 ?_ | refine E_seq ?_ | refine E_region ?_ | refine T_fieldBoxF (fun _ _ => by kernel_rfl) rfl rfl ?_ | refine T_loadBoxB Try.isAgg3 rfl rfl (by assumption) (by assumption) (by rfl) ?_)
  refine T_build rfl rfl (bTw _ _) ?_
  refine T_storeBoxA sT rfl rfl rfl (recT.one _) hx2 rfl (fun w3 hx3 hg3 _ => ?_)
  repeat (first | refine T_nil0 ?_)
  exact E_retC rfl rfl aT sT hx3 rfl ⟨rfl, hB.grown hg3 hB.size (fun c hc => by simp at hc; omega)⟩

theorem markDefectS_spec (v : Value) (xs : List Dfc) (i : Int) (w : World) (B : Nat) (hO : OwnR recD w B 57 v xs) (hl : xs.length ≤ 1000000000) (hi : 0 ≤ i ∧ i ≤ 1000000000) :
    Ret Try.prog 51 #[v, .int .i64 i] w (fun u w' => u = .int .i64 (i + 5 * xs.length) ∧ OwnR recD w' B 57 v (marksD i xs.length) ∧ w.grownBy w' v.ownBlock ∧ w'.heap.size = w.heap.size) := by
  refine Ret_of (args := [_, _]) Try.call51 Try.func51 rfl _ Try.ntmps51 rfl ?_
  repeat (first | refine T_assign rfl rfl ?_ | refine T_nil0 ?_ | refine E_seq ?_ | refine E_region ?_)
  refine E_loop (σ := Nat) (fun k => [(0, v), (1, .int .i64 (i + 5 * k)), (5, .int .i64 k)]) (fun k w' => k ≤ xs.length ∧ OwnR recD w' B 57 v (marksD i k ++ xs.drop k) ∧ w.grownBy w' v.ownBlock ∧ w'.heap.size = w.heap.size) (fun k => xs.length - k) 0
    ⟨by omega, by simpa [marksD] using hO, grown_refl _ _, rfl⟩ ⟨rfl, slotI rfl (by omega), rfl, trivial⟩ ?_
  have hlen := hO.recs.rlen
  clear hO
  rintro k w' ⟨hk, hO, hg, hs⟩ IH
  repeat (first | refine T_move rfl rfl ?_ | refine E_seq ?_ | refine E_region ?_)
  refine T_len tyD rfl rfl hlen ?_
  repeat (first | refine T_nil0 ?_ | refine T_cmp rfl rfl rfl rfl ?_)
  refine E_cond_if rfl (fun hp => ?_) (fun hp => ?_)
  · have hkl : k < (marksD i k ++ xs.drop k).length := by simp [marksD_length]; omega
    have hR := hO.recs
    have hstep := markD_step i (xs := xs) (k := k) (by omega)
    generalize hL : marksD i k ++ xs.drop k = L at *
    have hne : 0 < L.length := by omega
    generalize hq : L.getD k dz = q
    repeat (first | refine T_move rfl rfl ?_ | refine E_seq ?_ | refine E_region ?_ | refine E_skip ?_ | refine E_blockS ?_)
    refine T_indexD tyD rfl rfl rfl hR hkl ?_
    refine T_fieldD (fun _ _ => by kernel_rfl) rfl rfl hR hne ?_
    refine T_storeR (r := recD) (a' := ⟨i + 5 * k, q.r, q.f, q.t, q.g⟩) Try.sizeOf3 rfl rfl rfl hO hkl (by decide) (by rw [show L.getD k recD.zero = q from hq]; rfl) (fun w1 hO1 hg1 hs1 => ?_)
    have hR1 := hO1.recs
    have hkl1 : k < (L.set k ⟨i + 5 * k, q.r, q.f, q.t, q.g⟩).length := by simpa using hkl
    repeat (first | refine T_move rfl rfl ?_ | refine T_assign rfl rfl ?_ | refine T_nil0 ?_ | refine E_seq ?_ | refine E_region ?_ | refine T_add rfl rfl rfl (by omega) ?_)
    refine T_indexD tyD rfl rfl rfl hR1 hkl1 ?_
    refine T_fieldD (fun _ _ => by kernel_rfl) rfl rfl hR1 (by omega) ?_
    refine T_storeR (r := recD) (a' := ⟨i + 5 * k, i + 5 * k + 1, q.f, q.t, q.g⟩) Try.sizeOf3 rfl rfl rfl hO1 hkl1 (by decide) (by rw [getD_setS hkl]; rfl) (fun w2 hO2 hg2 hs2 => ?_)
    rw [List.set_set] at hO2
    have hR2 := hO2.recs
    have hkl2 : k < (L.set k ⟨i + 5 * k, i + 5 * k + 1, q.f, q.t, q.g⟩).length := by simpa using hkl
    repeat (first | refine T_move rfl rfl ?_ | refine T_assign rfl rfl ?_ | refine T_nil0 ?_ | refine E_seq ?_ | refine E_region ?_ | refine T_add rfl rfl rfl (by omega) ?_)
    refine T_indexD tyD rfl rfl rfl hR2 hkl2 ?_
    refine T_fieldD (fun _ _ => by kernel_rfl) rfl rfl hR2 (by omega) ?_
    refine T_storeR (r := recD) (a' := ⟨i + 5 * k, i + 5 * k + 1, i + 5 * k + 1 + 1, q.t, q.g⟩) Try.sizeOf3 rfl rfl rfl hO2 hkl2 (by decide) (by rw [getD_setS hkl]; rfl) (fun w3 hO3 hg3 hs3 => ?_)
    rw [List.set_set] at hO3
    have hR3 := hO3.recs
    have hkl3 : k < (L.set k ⟨i + 5 * k, i + 5 * k + 1, i + 5 * k + 1 + 1, q.t, q.g⟩).length := by simpa using hkl
    repeat (first | refine T_move rfl rfl ?_ | refine T_assign rfl rfl ?_ | refine T_nil0 ?_ | refine E_seq ?_ | refine E_region ?_ | refine T_add rfl rfl rfl (by omega) ?_)
    refine T_indexD tyD rfl rfl rfl hR3 hkl3 ?_
    refine T_fieldD (fun _ _ => by kernel_rfl) rfl rfl hR3 (by omega) ?_
    refine T_storeR (r := recD) (a' := ⟨i + 5 * k, i + 5 * k + 1, i + 5 * k + 1 + 1, i + 5 * k + 1 + 1 + 1, q.g⟩) Try.sizeOf3 rfl rfl rfl hO3 hkl3 (by decide) (by rw [getD_setS hkl]; rfl) (fun w4 hO4 hg4 hs4 => ?_)
    rw [List.set_set] at hO4
    have hR4 := hO4.recs
    have hkl4 : k < (L.set k ⟨i + 5 * k, i + 5 * k + 1, i + 5 * k + 1 + 1, i + 5 * k + 1 + 1 + 1, q.g⟩).length := by simpa using hkl
    repeat (first | refine T_move rfl rfl ?_ | refine T_assign rfl rfl ?_ | refine T_nil0 ?_ | refine E_seq ?_ | refine E_region ?_ | refine T_add rfl rfl rfl (by omega) ?_)
    refine T_indexD tyD rfl rfl rfl hR4 hkl4 ?_
    refine T_fieldD (fun _ _ => by kernel_rfl) rfl rfl hR4 (by omega) ?_
    refine T_storeR (r := recD) (a' := ⟨i + 5 * k, i + 5 * k + 1, i + 5 * k + 1 + 1, i + 5 * k + 1 + 1 + 1, i + 5 * k + 1 + 1 + 1 + 1⟩) Try.sizeOf3 rfl rfl rfl hO4 hkl4 (by decide) (by rw [getD_setS hkl]; rfl) (fun w5 hO5 hg5 hs5 => ?_)
    rw [List.set_set, show i + 5 * (k : Int) + 1 + 1 = i + 5 * k + 2 by omega, show i + 5 * (k : Int) + 2 + 1 = i + 5 * k + 3 by omega, show i + 5 * (k : Int) + 3 + 1 = i + 5 * k + 4 by omega, hstep] at hO5
    repeat (first | refine T_move rfl rfl ?_ | refine T_assign rfl rfl ?_ | refine T_nil0 ?_ | refine E_region ?_ | refine T_add rfl rfl rfl (by omega) ?_ | refine E_inBlock ?_)
    exact IH (k + 1) w5 _ ⟨by omega, hO5, grown_trans (grown_trans (grown_trans (grown_trans (grown_trans hg hg1) hg2) hg3) hg4) hg5, by omega⟩ (by omega) ⟨rfl, slotI rfl (by omega), rfl, trivial⟩
  · repeat' (first | refine T_move rfl rfl ?_ | refine T_assign rfl rfl ?_ | refine T_nil0 ?_ | refine E_seq ?_ | refine E_region ?_ | refine E_exit rfl ?_ | refine E_ret1 rfl rfl ?_)
    have : k = xs.length := by omega
    subst this
    exact ⟨rfl, by simpa using hO, hg, hs⟩
theorem markReel_spec (x : Rel) (v : Value) (xs : List Dfc) (i : Int) (w : World) (B : Nat) (hO : OwnR recD w B 57 v xs) (hl : xs.length ≤ 1000000000) (hi : 0 ≤ i ∧ i ≤ 1000000000) :
    Ret Try.prog 30 #[relV x v, .int .i64 i] w (fun u w' => u = .int .i64 (i + 5 * xs.length) ∧ OwnR recD w' B 57 v (marksD i xs.length) ∧ w.grownBy w' v.ownBlock) := by
  refine Ret_of (args := [_, _]) Try.call30 Try.func30 rfl _ Try.ntmps30 rfl ?_
  repeat (first | refine E_seq ?_ | refine E_region ?_)
  refine T_box (cs := relC x v) rfl rfl (fun b1 w1 hn1 hx1 hB => ?_)
  have hC := Below.refl w1.heap.size w1
  repeat (first | refine T_move rfl rfl ?_ | refine T_assign rfl rfl ?_ | refine T_nil0 ?_ | refine E_seq ?_ | refine E_region ?_ | refine T_fieldBoxF (fun _ _ => by kernel_rfl) rfl rfl ?_ | refine T_loadBoxB Try.isAgg3 rfl rfl (by assumption) (by assumption) (by rfl) ?_)
  refine T_call rfl rfl (markDefectS_spec v xs i w1 B (hO.later hB) hl hi) (fun r w2 hr => ?_)
  obtain ⟨rfl, hO2, hg, _⟩ := hr
  repeat' (first | refine T_move rfl rfl ?_ | refine T_assign rfl rfl ?_ | refine T_nil0 ?_ | refine E_seq ?_ | refine E_region ?_ | refine E_ret1 rfl rfl ?_)
  exact ⟨rfl, hO2, grown_new (grown_below hB) hg (fun b hb => .inr hb)⟩
theorem heldDefectS_spec (v : Value) (n : Nat) (i : Int) (w : World) (hR : Recs recD w.heap v (marksD i n)) (hl : n ≤ 1000000000) (hi : 0 ≤ i ∧ i ≤ 1000000000) :
    Ret Try.prog 52 #[v, .int .i64 i] w (fun u w' => u = .int .i64 (i + 5 * n) ∧ w = w') := by
  have hlen := marksD_length n i
  have hrl := hR.rlen
  rw [hlen] at hrl
  refine Ret_of (args := [_, _]) Try.call52 Try.func52 rfl _ Try.ntmps52 rfl ?_
  repeat (first | refine T_assign rfl rfl ?_ | refine T_nil0 ?_ | refine E_seq ?_ | refine E_region ?_)
  refine E_loop (σ := Nat) (fun k => [(0, v), (1, .int .i64 (i + 5 * k)), (5, .int .i64 k)]) (fun k w' => k ≤ n ∧ w = w') (fun k => n - k) 0
    ⟨by omega, rfl⟩ ⟨rfl, slotI rfl (by omega), rfl, trivial⟩ ?_
  rintro k w' ⟨hk, rfl⟩ IH
  repeat (first | refine T_move rfl rfl ?_ | refine E_seq ?_ | refine E_region ?_)
  refine T_len tyD rfl rfl hrl ?_
  repeat (first | refine T_nil0 ?_ | refine T_cmp rfl rfl rfl rfl ?_)
  refine E_cond_if rfl (fun hp => ?_) (fun hp => ?_)
  · have hm := marksD_getD n i k (by omega)
    have hkl : k < (marksD i n).length := by omega
    have hC := Below.refl w.heap.size w
    have e1 : recD.enc ((marksD i n).getD k dz) = [.int .i64 (i + 5 * k), .int .i64 (i + 5 * k + 1), .int .i64 (i + 5 * k + 2), .int .i64 (i + 5 * k + 3), .int .i64 (i + 5 * k + 4)] := by
      rw [hm]; rfl
    repeat (first | refine T_move rfl rfl ?_ | refine E_seq ?_ | refine E_region ?_ | refine E_skip ?_ | refine E_blockS ?_)
    refine T_indexD tyD rfl rfl rfl hR hkl ?_
    refine T_fieldD (fun _ _ => by kernel_rfl) rfl rfl hR (by omega) ?_
    refine T_loadD Try.isAgg3 rfl rfl hR hC hkl (by rw [e1]; rfl) ?_
    repeat (first | refine T_move rfl rfl ?_ | refine T_nil0 ?_ | refine T_cmp rfl rfl rfl rfl ?_)
    refine E_cond_if rfl (fun hq => by omega) (fun hq => ?_)
    repeat (first | refine T_move rfl rfl ?_ | refine T_assign rfl rfl ?_ | refine T_nil0 ?_ | refine E_seq ?_ | refine E_region ?_ | refine T_add rfl rfl rfl (by omega) ?_ | refine E_skip ?_)
    refine T_indexD tyD rfl rfl rfl hR hkl ?_
    refine T_fieldD (fun _ _ => by kernel_rfl) rfl rfl hR (by omega) ?_
    refine T_loadD Try.isAgg3 rfl rfl hR hC hkl (by rw [e1]; rfl) ?_
    repeat (first | refine T_move rfl rfl ?_ | refine T_nil0 ?_ | refine T_cmp rfl rfl rfl rfl ?_)
    refine E_cond_if rfl (fun hq => by omega) (fun hq => ?_)
    repeat (first | refine T_move rfl rfl ?_ | refine T_assign rfl rfl ?_ | refine T_nil0 ?_ | refine E_seq ?_ | refine E_region ?_ | refine T_add rfl rfl rfl (by omega) ?_ | refine E_skip ?_)
    refine T_indexD tyD rfl rfl rfl hR hkl ?_
    refine T_fieldD (fun _ _ => by kernel_rfl) rfl rfl hR (by omega) ?_
    refine T_loadD Try.isAgg3 rfl rfl hR hC hkl (by rw [e1]; rfl) ?_
    repeat (first | refine T_move rfl rfl ?_ | refine T_nil0 ?_ | refine T_cmp rfl rfl rfl rfl ?_)
    refine E_cond_if rfl (fun hq => by omega) (fun hq => ?_)
    repeat (first | refine T_move rfl rfl ?_ | refine T_assign rfl rfl ?_ | refine T_nil0 ?_ | refine E_seq ?_ | refine E_region ?_ | refine T_add rfl rfl rfl (by omega) ?_ | refine E_skip ?_)
    refine T_indexD tyD rfl rfl rfl hR hkl ?_
    refine T_fieldD (fun _ _ => by kernel_rfl) rfl rfl hR (by omega) ?_
    refine T_loadD Try.isAgg3 rfl rfl hR hC hkl (by rw [e1]; rfl) ?_
    repeat (first | refine T_move rfl rfl ?_ | refine T_nil0 ?_ | refine T_cmp rfl rfl rfl rfl ?_)
    refine E_cond_if rfl (fun hq => by omega) (fun hq => ?_)
    repeat (first | refine T_move rfl rfl ?_ | refine T_assign rfl rfl ?_ | refine T_nil0 ?_ | refine E_seq ?_ | refine E_region ?_ | refine T_add rfl rfl rfl (by omega) ?_ | refine E_skip ?_)
    refine T_indexD tyD rfl rfl rfl hR hkl ?_
    refine T_fieldD (fun _ _ => by kernel_rfl) rfl rfl hR (by omega) ?_
    refine T_loadD Try.isAgg3 rfl rfl hR hC hkl (by rw [e1]; rfl) ?_
    repeat (first | refine T_move rfl rfl ?_ | refine T_nil0 ?_ | refine T_cmp rfl rfl rfl rfl ?_)
    refine E_cond_if rfl (fun hq => by omega) (fun hq => ?_)
    repeat (first | refine T_move rfl rfl ?_ | refine T_assign rfl rfl ?_ | refine T_nil0 ?_ | refine E_region ?_ | refine T_add rfl rfl rfl (by omega) ?_ | refine E_skip ?_ | refine E_inBlock ?_)
    exact IH (k + 1) w _ ⟨by omega, rfl⟩ (by omega) ⟨rfl, slotI rfl (by omega), rfl, trivial⟩
  · repeat' (first | refine T_move rfl rfl ?_ | refine T_assign rfl rfl ?_ | refine T_nil0 ?_ | refine E_seq ?_ | refine E_region ?_ | refine E_exit rfl ?_ | refine E_ret1 rfl rfl ?_)
    have : k = n := by omega
    subst this
    exact ⟨rfl, rfl⟩
theorem heldReel_spec (x : Rel) (v : Value) (n : Nat) (i : Int) (w : World) (hR : Recs recD w.heap v (marksD i n)) (hl : n ≤ 1000000000) (hi : 0 ≤ i ∧ i ≤ 1000000000) :
    Ret Try.prog 31 #[relV x v, .int .i64 i] w (fun u w' => u = .int .i64 (i + 5 * n) ∧ Below w.heap.size w w') := by
  refine Ret_of (args := [_, _]) Try.call31 Try.func31 rfl _ Try.ntmps31 rfl ?_
  repeat (first | refine E_seq ?_ | refine E_region ?_)
  refine T_box (cs := relC x v) rfl rfl (fun b1 w1 hn1 hx1 hB => ?_)
  have hC := Below.refl w1.heap.size w1
  repeat (first | refine T_move rfl rfl ?_ | refine T_assign rfl rfl ?_ | refine T_nil0 ?_ | refine E_seq ?_ | refine E_region ?_ | refine T_fieldBoxF (fun _ _ => by kernel_rfl) rfl rfl ?_ | refine T_loadBoxB Try.isAgg3 rfl rfl (by assumption) (by assumption) (by rfl) ?_)
  refine T_call rfl rfl (heldDefectS_spec v n i w1 (hR.later hB) hl hi) (fun r w2 hr => ?_)
  obtain ⟨rfl, rfl⟩ := hr
  repeat (first | refine T_move rfl rfl ?_ | refine T_assign rfl rfl ?_ | refine T_nil0 ?_ | refine E_seq ?_ | refine E_region ?_ | refine T_cmp rfl rfl rfl rfl ?_)
  refine E_cond_if rfl (fun hq => by omega) (fun hq => ?_)
  repeat' (first | refine T_move rfl rfl ?_ | refine T_assign rfl rfl ?_ | refine T_nil0 ?_ | refine E_seq ?_ | refine E_region ?_ | refine E_skip ?_ | refine E_ret1 rfl rfl ?_)
  exact ⟨rfl, hB⟩
end Go.Proofs.Ytehmphhdmpnlfaa
