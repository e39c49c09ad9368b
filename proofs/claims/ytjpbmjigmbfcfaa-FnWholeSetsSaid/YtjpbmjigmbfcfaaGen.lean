/-
  Contracts of the reader that draws numbers out of a code. Conditions: the arguments lie in memory as the contract says.
-/
import Derived.Test.YtjpbmjigmbfcfaaLib
namespace Go.PR
open Go Go.RowKit

def Bytes (h : Array Obj) (v : Value) (cs : List Int) : Prop := Sl h 1 v cs.length (cs.map (Value.int .u8))
theorem Bytes.later {w w' : World} {v : Value} {cs : List Int} (h : Bytes w.heap v cs) (hb : Below w.heap.size w w') : Bytes w'.heap v cs := Sl.later h hb
theorem Bytes.len {h : Array Obj} {v : Value} {cs : List Int} (hs : Bytes h v cs) : SlLen v cs.length := Sl.len hs
theorem Bytes.sub {h : Array Obj} {v : Value} {cs : List Int} (hs : Bytes h v cs) {hi : Nat} (h2 : hi ≤ cs.length) : Bytes h (subV v 0 hi 1) (cs.take hi) := by
  have := Sl.sub hs (Nat.zero_le hi) h2
  unfold Bytes
  have e : (cs.take hi).length = hi := by simp; omega
  rw [e]
  simpa using this

section
variable {P : Program} {n : Nat} {m : Env} {w : World} {ops : Array Oper} {md : Nat} {K : Env → World → Prop} {l : List Oper}
theorem T_indexY {d : Nat} {x ix : Operand} {t e : TypeId} {byt : Nat} {z : Value} {ty : TypeId} {pos : String} {af : Array Edge} {v : Value} {xs : List Int} {hp : Array Obj} {i : Int} (hT : STy P t e 1 byt z)
    (hx : ev m x = some v) (hi : ev m ix = some (.int .i64 i)) (hd : Nat.blt d n = true) (hS : Bytes hp v xs) (hr : 0 ≤ i ∧ i < (xs.length : Int))
    (h : T P n ops md K l ((d, ePtr v i.toNat) :: m) w) : T P n ops md K (⟨some d, .indexAddr t x ix, ty, pos, af, none⟩ :: l) m w :=
  T_index hT hx hi hd hS hr (by simpa using h)
theorem T_loadY {d : Nat} {x : Operand} {t ty : TypeId} {pos : String} {af : Array Edge} {v : Value} {j : Nat} {xs : List Int} (ht : ∀ w, (isAgg t).run P w = .ok false w) (hx : ev m x = some (ePtr v j)) (hd : Nat.blt d n = true)
    (hS : Bytes w.heap v xs) (hj : j < xs.length) (h : T P n ops md K l ((d, .int .u8 (xs.getD j 0)) :: m) w) (hmd : Nat.blt md 4 = true := by rfl) : T P n ops md K (⟨some d, .load t x, ty, pos, af, none⟩ :: l) m w :=
  T_loadS ht hx hd hS (by simp [hj]) h hmd

theorem xor_range {x y : Int} (hx : 0 ≤ x ∧ x < 4611686018427387904) (hy : 0 ≤ y ∧ y < 4611686018427387904) :
    0 ≤ IntKind.i64.wrap ((BitVec.ofInt 64 x ^^^ BitVec.ofInt 64 y).toNat : Nat) ∧ IntKind.i64.wrap ((BitVec.ofInt 64 x ^^^ BitVec.ofInt 64 y).toNat : Nat) < 4611686018427387904 := by
  obtain ⟨a, rfl⟩ := Int.eq_ofNat_of_zero_le hx.1
  obtain ⟨b, rfl⟩ := Int.eq_ofNat_of_zero_le hy.1
  have ea : (BitVec.ofInt 64 (a : Int)).toNat = a := by simp; omega
  have eb : (BitVec.ofInt 64 (b : Int)).toNat = b := by simp; omega
  rw [BitVec.toNat_xor, ea, eb]
  have h := Nat.xor_lt_two_pow (x := a) (y := b) (n := 62) (by omega) (by omega)
  have h2 : (2 : Nat) ^ 62 = 4611686018427387904 := by decide
  rw [h2] at h
  rw [wrap_in (by omega)]
  omega
theorem T_xor {d : Nat} {x y : Operand} {t t' ty : TypeId} {pos : String} {af : Array Edge} {i j : Int} (hx : ev m x = some (.int .i64 i)) (hy : ev m y = some (.int .i64 j)) (hd : Nat.blt d n = true)
    (hi : 0 ≤ i ∧ i < 4611686018427387904) (hj : 0 ≤ j ∧ j < 4611686018427387904)
    (h : ∀ r : Int, 0 ≤ r → r < 4611686018427387904 → T P n ops md K l ((d, .int .i64 r) :: m) w) : T P n ops md K (⟨some d, .binOp .xor t x y t', ty, pos, af, none⟩ :: l) m w :=
  T_val hd (fun a ha w' _ => by simp [execOp, ha.eval hx, ha.eval hy, eqGuard, binOp, Op.intBits]; rfl) (h _ (xor_range hi hj).1 (xor_range hi hj).2)
end

/-- The reader at block b: the code cv, and how many numbers were drawn. w0: the world in which the code lay first. -/
structure Rd (w0 w : World) (b : Nat) (cv : Value) (cs : List Int) (p : Int) : Prop where
  box : Box w.heap b [cv, .int .i64 p]
  code : Bytes w0.heap cv cs
  below : Below w0.heap.size w0 w
  new : w0.heap.size ≤ b
  len : cs.length ≤ 2000
  byte : ∀ c ∈ cs, 0 ≤ c ∧ c ≤ 255
  pos : 0 ≤ p

theorem Rd.later {w0 w w' : World} {b : Nat} {cv : Value} {cs : List Int} {p : Int} (h : Rd w0 w b cv cs p) (hb : Below w.heap.size w w') : Rd w0 w' b cv cs p :=
  ⟨h.box.later hb, h.code, h.below.step h.below.size hb, h.new, h.len, h.byte, h.pos⟩
/-- another row than the reader was written -/
theorem Rd.kept {w0 w w' : World} {b : Nat} {cv : Value} {cs : List Int} {p : Int} {row : Option Nat} (h : Rd w0 w b cv cs p) (hg : w.grownBy w' row) (hne : some b ≠ row) (hrow : ∀ c, row = some c → w0.heap.size ≤ c) : Rd w0 w' b cv cs p :=
  ⟨h.box.kept hg hne, h.code, h.below.grown hg h.below.size hrow, h.new, h.len, h.byte, h.pos⟩
theorem Rd.lt {w0 w : World} {b : Nat} {cv : Value} {cs : List Int} {p : Int} (h : Rd w0 w b cv cs p) : b < w.heap.size := h.box.lt

/-- What a function that draws leaves: the reader further on, and only it written. -/
structure Drew (w0 w w' : World) (b : Nat) (cv : Value) (cs : List Int) (p q : Int) (K : Int) : Prop where
  rd : Rd w0 w' b cv cs q
  most : q ≤ p + K
  grown : w.grownBy w' (some b)
/-- The state of a function that draws: w its entry, w' now. -/
structure GS (w0 w w' : World) (b : Nat) (cv : Value) (cs : List Int) (q : Int) : Prop where
  rd : Rd w0 w' b cv cs q
  grown : w.grownBy w' (some b)
  lt : b < w.heap.size

theorem GS.start {w0 w : World} {b : Nat} {cv : Value} {cs : List Int} {p : Int} (h : Rd w0 w b cv cs p) : GS w0 w w b cv cs p := ⟨h, grown_refl _ _, h.lt⟩
theorem GS.later {w0 w w' w'' : World} {b : Nat} {cv : Value} {cs : List Int} {q : Int} (h : GS w0 w w' b cv cs q) (hb : Below w'.heap.size w' w'') : GS w0 w w'' b cv cs q :=
  ⟨h.rd.later hb, grown_trans h.grown (grown_below hb), h.lt⟩
theorem GS.drew {w0 w w' w'' : World} {b : Nat} {cv : Value} {cs : List Int} {q q' K : Int} (h : GS w0 w w' b cv cs q) (hD : Drew w0 w' w'' b cv cs q q' K) : GS w0 w w'' b cv cs q' :=
  ⟨hD.rd, grown_trans h.grown hD.grown, h.lt⟩
theorem GS.own {w0 w w' w'' : World} {b : Nat} {cv : Value} {cs : List Int} {q : Int} {v : Value} {lo hi : Nat} (h : GS w0 w w' b cv cs q) (hg : w'.grownBy w'' v.ownBlock) (hb : Blk v lo hi) (hlo : w.heap.size ≤ lo) : GS w0 w w'' b cv cs q := by
  have h1 := h.lt
  have h2 := h.rd.new
  refine ⟨h.rd.kept hg (fun e => ?_) (fun c hc => ?_), grown_new h.grown hg (fun c hc => ?_), h.lt⟩
  · have := hb b e.symm; omega
  · have := hb c hc; omega
  · have := hb c hc; left; omega
theorem GS.box {w0 w w' w'' : World} {b : Nat} {cv : Value} {cs : List Int} {q : Int} {c : Nat} (h : GS w0 w w' b cv cs q) (hg : w'.grownBy w'' (some c)) (hc : w.heap.size ≤ c) : GS w0 w w'' b cv cs q := by
  have h1 := h.lt
  have h2 := h.rd.new
  refine ⟨h.rd.kept hg (fun e => ?_) (fun d hd => ?_), grown_new h.grown hg (fun d hd => ?_), h.lt⟩
  · simp at e; omega
  · simp at hd; omega
  · simp at hd; left; omega
theorem GS.out {w0 w w' : World} {b : Nat} {cv : Value} {cs : List Int} {p q K : Int} (h : GS w0 w w' b cv cs q) (hq : q ≤ p + K) : Drew w0 w w' b cv cs p q K := ⟨h.rd, hq, h.grown⟩
theorem OwnI.drew {w0 w w' : World} {b : Nat} {cv : Value} {cs : List Int} {p q K : Int} {B : Nat} {e : TypeId} {v : Value} {xs : List Int} (h : OwnI w B e v xs) (hD : Drew w0 w w' b cv cs p q K) (hb : b < B) : OwnI w' B e v xs := h.kept hD.grown (h.blk.ne_some (.inr hb))
theorem OwnR.drew {α : Type} {r : Rec α} {w0 w w' : World} {b : Nat} {cv : Value} {cs : List Int} {p q K : Int} {B : Nat} {e : TypeId} {v : Value} {xs : List α} (h : OwnR r w B e v xs) (hD : Drew w0 w w' b cv cs p q K) (hb : b < B) : OwnR r w' B e v xs := h.kept hD.grown (h.blk.ne_some (.inr hb))
end Go.PR

namespace Go.Proofs.Ytjpbmjigmbfcfaa
open Go Go.PR Go.RowKit attribute [local irreducible] T E Ints Sl Bools OwnI OwnB OwnR Recs Box Ret
attribute [local irreducible] Bytes

theorem tyY : STy Try.prog 28 5 1 1 (.int .u8 0) := ⟨Try.underlying28, ⟨Try.t5, by kernel_rfl, rfl, rfl, rfl⟩, rfl, by decide⟩
theorem fR0 : FieldAt Try.prog 61 0 0 := fun a w => by kernel_rfl
theorem fR1 : FieldAt Try.prog 61 1 1 := fun a w => by kernel_rfl
theorem bR (cv : Value) (a : Option Addr) (x y : Nat) (h : cv = .slice a x y) : StructAt Try.prog 61 [(0, cv)] (.agg #[cv, .int .i64 0]) := by subst h; intro w; kernel_rfl

theorem newReader_spec (cv : Value) (cs : List Int) (w : World) (hI : Bytes w.heap cv cs) (hb : ∀ c ∈ cs, 0 ≤ c ∧ c ≤ 255) :
    Ret Try.prog 62 #[cv] w (fun r w' => ∃ b cv' cs', r = bPtr b 0 ∧ Rd w w' b cv' cs' 0 ∧ Below w.heap.size w w' ∧ w.heap.size ≤ b) := by
  refine Ret_of (args := [_]) Try.call62 Try.func62 rfl _ Try.ntmps62 rfl ?_
  repeat (first | refine T_move rfl rfl ?_ | refine T_assign rfl rfl ?_ | refine T_nil0 ?_ | refine E_seq ?_ | refine E_region ?_)
  refine T_len tyY rfl rfl hI.len ?_
  repeat (first | refine T_nil0 ?_ | refine T_cmp rfl rfl rfl rfl ?_)
  refine E_cond_if rfl (fun hp => ?_) (fun hp => ?_)
  · repeat (first | refine T_move rfl rfl ?_ | refine E_region ?_)
    refine T_sliceHi tyY rfl rfl rfl (by unfold Bytes at hI; exact hI) (by omega) ?_
    have hI2 := hI.sub (hi := 2000) (by omega)
    obtain ⟨a, c, hv⟩ := hI2.len
    repeat (first | refine T_move rfl rfl ?_ | refine T_assign rfl rfl ?_ | refine T_nil0 ?_ | refine E_seq ?_ | refine E_region ?_)
    refine T_build rfl rfl (bR _ _ _ _ hv) ?_
    refine T_box (cs := [_, _]) rfl rfl (fun b w1 hb1 hx1 hB1 => ?_)
    repeat' (first | refine T_assign rfl rfl ?_ | refine T_nil0 ?_ | refine E_ret1 rfl rfl ?_)
    exact ⟨b, _, _, rfl, ⟨hx1, hI2, hB1, hb1, by simp; omega, fun c hc => hb c (List.mem_of_mem_take hc), Int.le_refl _⟩, hB1, hb1⟩
  · obtain ⟨a, c, hv⟩ := hI.len
    repeat (first | refine T_move rfl rfl ?_ | refine E_seq ?_ | refine E_region ?_ | refine E_skip ?_)
    refine T_build rfl rfl (bR _ _ _ _ hv) ?_
    refine T_box (cs := [_, _]) rfl rfl (fun b w1 hb1 hx1 hB1 => ?_)
    repeat' (first | refine T_assign rfl rfl ?_ | refine T_nil0 ?_ | refine E_ret1 rfl rfl ?_)
    exact ⟨b, _, _, rfl, ⟨hx1, hI, hB1, hb1, by omega, hb, Int.le_refl _⟩, hB1, hb1⟩

theorem pick_spec (w0 w : World) (b : Nat) (cv : Value) (cs : List Int) (p n : Int) (hR : Rd w0 w b cv cs p) (hp : p ≤ 1000000) :
    Ret Try.prog 64 #[bPtr b 0, .int .i64 n] w (fun r w' => ∃ x, r = .int .i64 x ∧ 0 ≤ x ∧ (1 ≤ n → x < n) ∧ (n < 1 → x = 0) ∧ Drew w0 w w' b cv cs p (p + 1) 1) := by
  have hp0 := hR.pos
  have hx := hR.box
  have hlen := hR.len
  have hcl := hR.code.len
  refine Ret_of (args := [_, _]) Try.call64 Try.func64 rfl _ Try.ntmps64 rfl ?_
  repeat (first | refine T_move rfl rfl ?_ | refine T_assign rfl rfl ?_ | refine T_nil0 ?_ | refine E_seq ?_ | refine E_region ?_)
  refine T_nilBox rfl rfl ?_
  refine T_fieldBox fR1 rfl rfl ?_
  refine T_loadBox Try.isAgg3 rfl rfl hx rfl ?_
  repeat (first | refine T_add rfl rfl rfl (by omega) ?_)
  refine T_nilBox rfl rfl ?_
  refine T_fieldBox fR1 rfl rfl ?_
  refine T_storeBox Try.sizeOf3 rfl rfl rfl hx (by simp) (fun w1 hx1 hg1 hs1 => ?_)
  have hx1 : Box w1.heap b [cv, .int .i64 (p + 1)] := hx1
  have hB1 := hR.below.grown hg1 hR.below.size (fun c hc => by simp at hc; have := hR.new; omega)
  have hR1 : Rd w0 w1 b cv cs (p + 1) := ⟨hx1, hR.code, hB1, hR.new, hR.len, hR.byte, by omega⟩
  have hD : Drew w0 w w1 b cv cs p (p + 1) 1 := ⟨hR1, by omega, hg1⟩
  have hC := hR.code.later hB1
  repeat (first | refine T_move rfl rfl ?_ | refine T_nil0 ?_ | refine E_seq ?_ | refine E_region ?_ | refine T_cmp rfl rfl rfl rfl ?_)
  refine T_guard rfl rfl (fun hn => ?_) (fun hn => ?_)
  · repeat' (first | refine T_assign rfl rfl ?_ | refine T_nil0 ?_ | refine E_seq ?_ | refine E_region ?_ | refine T_off rfl rfl rfl ?_ | refine T_pick_true rfl rfl rfl ?_ | refine E_cond_true rfl ?_ | refine E_ret1 rfl rfl ?_)
    exact ⟨0, rfl, by omega, by omega, by omega, hD⟩
  repeat (first | refine T_move rfl rfl ?_ | refine T_on rfl rfl ?_)
  refine T_nilBox rfl rfl ?_
  refine T_on rfl rfl ?_
  refine T_fieldBox fR0 rfl rfl ?_
  refine T_on rfl rfl ?_
  refine T_loadBox Try.isAgg28 rfl rfl hx1 rfl ?_
  refine T_on rfl rfl ?_
  refine T_len tyY rfl rfl hcl ?_
  repeat (first | refine T_nil0 ?_ | refine T_cmp rfl rfl rfl rfl ?_ | refine T_on rfl rfl ?_ | refine T_pick_false rfl rfl rfl ?_)
  refine E_cond_if rfl (fun hl => ?_) (fun hl => ?_)
  · repeat' (first | refine T_assign rfl rfl ?_ | refine T_nil0 ?_ | refine E_seq ?_ | refine E_region ?_ | refine E_ret1 rfl rfl ?_)
    exact ⟨0, rfl, by omega, by omega, by omega, hD⟩
  repeat (first | refine T_move rfl rfl ?_ | refine E_seq ?_ | refine E_region ?_ | refine E_skip ?_)
  refine T_nilBox rfl rfl ?_
  refine T_fieldBox fR1 rfl rfl ?_
  refine T_loadBox Try.isAgg3 rfl rfl hx1 rfl ?_
  repeat (first | refine T_move rfl rfl ?_ | refine T_assign rfl rfl ?_ | refine T_nil0 ?_ | refine E_seq ?_ | refine E_region ?_ | refine T_sub rfl rfl rfl (by omega) ?_)
  refine T_nilBox rfl rfl ?_
  refine T_fieldBox fR0 rfl rfl ?_
  refine T_loadBox Try.isAgg28 rfl rfl hx1 rfl ?_
  refine T_len tyY rfl rfl hcl ?_
  repeat (first | refine T_nil0 ?_ | refine T_cmp rfl rfl rfl rfl ?_)
  refine E_cond_if rfl (fun hk => ?_) (fun hk => ?_)
  · have hby := hR.byte _ (getD_mem (xs := cs) (k := (p + 1 - 1).toNat) (by omega))
    have hm1 := Int.emod_nonneg (cs.getD (p + 1 - 1).toNat 0) (show n ≠ 0 by omega)
    have hm2 := Int.emod_lt_of_pos (cs.getD (p + 1 - 1).toNat 0) (show 0 < n by omega)
    repeat (first | refine T_move rfl rfl ?_ | refine E_seq ?_ | refine E_region ?_)
    refine T_nilBox rfl rfl ?_
    refine T_fieldBox fR0 rfl rfl ?_
    refine T_loadBox Try.isAgg28 rfl rfl hx1 rfl ?_
    repeat (first | refine T_move rfl rfl ?_)
    refine T_indexY tyY rfl rfl rfl hC (by omega) ?_
    refine T_loadY Try.isAgg5 rfl rfl hC (by omega) ?_
    refine T_conv_byte Try.underlying5 Try.underlying3 rfl rfl hby ?_
    repeat (first | refine T_move rfl rfl ?_)
    refine T_rem rfl rfl rfl (by omega) ?_
    repeat' (first | refine T_assign rfl rfl ?_ | refine T_nil0 ?_ | refine E_ret1 rfl rfl ?_)
    exact ⟨_, rfl, hm1, fun _ => hm2, by omega, hD⟩
  generalize hkk : p + 1 - 1 = k at *
  have hk0 : 0 ≤ k ∧ k ≤ 1000000 := by omega
  have hL : (0 : Int) < cs.length := by omega
  have a1 := Int.emod_nonneg k (show (cs.length : Int) ≠ 0 by omega)
  have a2 := Int.emod_lt_of_pos k hL
  have b1 := Int.emod_nonneg (k * 7 + 3) (show (cs.length : Int) ≠ 0 by omega)
  have b2 := Int.emod_lt_of_pos (k * 7 + 3) hL
  have c1 : 0 ≤ k / cs.length := Int.ediv_nonneg hk0.1 (by omega)
  have c2 : k / cs.length ≤ k := Int.ediv_le_self _ hk0.1
  have hy1 := hR.byte _ (getD_mem (xs := cs) (k := (k % cs.length).toNat) (by omega))
  have hy2 := hR.byte _ (getD_mem (xs := cs) (k := ((k * 7 + 3) % cs.length).toNat) (by omega))
  repeat (first | refine E_seq ?_ | refine E_skip ?_)
  refine E_region_still follows (by kernel_rfl) ?_
  repeat (first | refine T_move rfl rfl ?_)
  refine T_nilBox rfl rfl ?_
  refine T_fieldBox fR0 rfl rfl ?_
  refine T_loadBox Try.isAgg28 rfl rfl hx1 rfl ?_
  repeat (first | refine T_move rfl rfl ?_)
  refine T_nilBox rfl rfl ?_
  refine T_fieldBox fR0 rfl rfl ?_
  refine T_loadBox Try.isAgg28 rfl rfl hx1 rfl ?_
  refine T_len tyY rfl rfl hcl ?_
  refine T_rem rfl rfl rfl (by omega) ?_
  refine T_indexY tyY rfl rfl rfl hC (by omega) ?_
  refine T_loadY Try.isAgg5 rfl rfl hC (by omega) ?_
  refine T_conv_byte Try.underlying5 Try.underlying3 rfl rfl hy1 ?_
  refine T_mul rfl rfl rfl (by omega) ?_
  repeat (first | refine T_move rfl rfl ?_)
  refine T_nilBox rfl rfl ?_
  refine T_fieldBox fR0 rfl rfl ?_
  refine T_loadBox Try.isAgg28 rfl rfl hx1 rfl ?_
  repeat (first | refine T_move rfl rfl ?_)
  refine T_mul rfl rfl rfl (by omega) ?_
  repeat (first | refine T_move rfl rfl ?_ | refine T_add rfl rfl rfl (by omega) ?_)
  refine T_nilBox rfl rfl ?_
  refine T_fieldBox fR0 rfl rfl ?_
  refine T_loadBox Try.isAgg28 rfl rfl hx1 rfl ?_
  refine T_len tyY rfl rfl hcl ?_
  refine T_rem rfl rfl rfl (by omega) ?_
  refine T_indexY tyY rfl rfl rfl hC (by omega) ?_
  refine T_loadY Try.isAgg5 rfl rfl hC (by omega) ?_
  refine T_conv_byte Try.underlying5 Try.underlying3 rfl rfl hy2 ?_
  refine T_mul rfl rfl rfl (by omega) ?_
  repeat (first | refine T_move rfl rfl ?_ | refine T_add rfl rfl rfl (by omega) ?_)
  refine T_mul rfl rfl rfl (by omega) ?_
  repeat (first | refine T_move rfl rfl ?_ | refine T_add rfl rfl rfl (by omega) ?_)
  refine T_nilBox rfl rfl ?_
  refine T_fieldBox fR0 rfl rfl ?_
  refine T_loadBox Try.isAgg28 rfl rfl hx1 rfl ?_
  refine T_len tyY rfl rfl hcl ?_
  refine T_quo rfl rfl rfl (by omega) ?_
  refine T_mul rfl rfl rfl (by omega) ?_
  refine T_add rfl rfl rfl (by omega) ?_
  generalize hX : cs.getD (k % cs.length).toNat 0 * 131 + cs.getD ((k * 7 + 3) % cs.length).toNat 0 * 1117 + k * 29 + k / cs.length * 53 = X
  have hX0 : 0 ≤ X ∧ X ≤ 1000000000000 := by omega
  clear hX
  repeat (first | refine T_move rfl rfl ?_ | refine T_assign rfl rfl ?_ | refine T_nil1 ?_ | refine E_seq ?_ | refine E_region ?_)
  refine T_quo rfl rfl rfl (by omega) ?_
  refine T_xor rfl rfl rfl (by omega) (by omega) (fun r hr0 hr1 => ?_)
  have hm1 := Int.emod_nonneg r (show n ≠ 0 by omega)
  have hm2 := Int.emod_lt_of_pos r (show 0 < n by omega)
  repeat (first | refine T_move rfl rfl ?_ | refine T_assign rfl rfl ?_ | refine T_nil0 ?_ | refine E_seq ?_ | refine E_region ?_)
  refine T_rem rfl rfl rfl (by omega) ?_
  repeat' (first | refine T_assign rfl rfl ?_ | refine T_nil0 ?_ | refine E_ret1 rfl rfl ?_)
  have hdr := (Below.refl w1.heap.size w1).drew
  exact ⟨_, rfl, hm1, fun _ => hm2, by omega, ⟨hR1.later hdr, by omega, grown_new hg1 (grown_of_below hdr) (fun c hc => by cases hc)⟩⟩

theorem one_spec (w0 w : World) (b : Nat) (cv : Value) (cs : List Int) (p : Int) (lv : Value) (xs : List Int) (Bl : Nat) (hR : Rd w0 w b cv cs p) (hp : p ≤ 1000000) (hO : OwnI w Bl 3 lv xs) (hb : b < Bl) (hx : 0 < xs.length) (hx2 : xs.length ≤ 1000000) :
    Ret Try.prog 65 #[bPtr b 0, lv] w (fun r w' => ∃ x, r = .int .i64 x ∧ x ∈ xs ∧ Drew w0 w w' b cv cs p (p + 1) 1) := by
  have hI := hO.ints
  refine Ret_of (args := [_, _]) Try.call65 Try.func65 rfl _ Try.ntmps65 rfl ?_
  repeat (first | refine T_move rfl rfl ?_ | refine T_assign rfl rfl ?_ | refine T_nil0 ?_ | refine E_seq ?_ | refine E_region ?_ | refine T_len tyI rfl rfl (Ints.len (by assumption)) ?_)
  refine T_call rfl rfl (pick_spec w0 w b cv cs p _ hR hp) (fun r w1 hr => ?_)
  obtain ⟨x, rfl, h0, h1, _, hD⟩ := hr
  have h1 := h1 (by omega)
  have hI1 := (hO.kept hD.grown (hO.blk.ne_some (.inr hb))).ints
  repeat' (first | refine T_assign rfl rfl ?_ | refine T_nil0 ?_ | refine T_indexI tyI rfl rfl rfl (by assumption) (by omega) ?_ | refine T_loadI Try.isAgg3 rfl rfl (by assumption) (by omega) ?_ | refine E_ret1 rfl rfl ?_)
  exact ⟨_, rfl, getD_mem (by omega), hD⟩
end Go.Proofs.Ytjpbmjigmbfcfaa
