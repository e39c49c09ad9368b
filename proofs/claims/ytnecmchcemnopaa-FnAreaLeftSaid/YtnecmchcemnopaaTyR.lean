/-
  Facts on the types of reels, parts, defects and stretches of this program. No condition.
-/
import Derived.Test.YtnecmchcemnopaaTy
import Derived.Test.YtnecmchcemnopaaMem6
import Derived.Test.YtnecmchcemnopaaC2Q
namespace Go.PR
open Go Go.RowKit
def recD : Rec Dfc where
  enc d := [.int .i64 d.l, .int .i64 d.r, .int .i64 d.f, .int .i64 d.t, .int .i64 d.g]
  k := 5
  zero := dz
  len _ := rfl
  pos := by decide
  one _ u hu := by simp at hu; rcases hu with rfl | rfl | rfl | rfl | rfl <;> rfl
def recT : Rec Prt where
  enc p := [.int .i64 p.l, .int .i64 p.r, .int .i64 p.f, .int .i64 p.t]
  k := 4
  zero := pz
  len _ := rfl
  pos := by decide
  one _ u hu := by simp at hu; rcases hu with rfl | rfl | rfl | rfl <;> rfl
def recS : Rec Str where
  enc s := [.int .i64 s.f, .int .i64 s.t]
  k := 2
  zero := sz0
  len _ := rfl
  pos := by decide
  one _ u hu := by simp at hu; rcases hu with rfl | rfl <;> rfl
/-- a reel's cells; v: its defects -/
def relC (x : Rel) (v : Value) : List Value := [.int .i64 x.w, .int .i64 x.n, v]
theorem recD_dec (ns : List Int) (h : ns.length = recD.k) : recD.enc ((fun ns : List Int => (⟨ns.getD 0 0, ns.getD 1 0, ns.getD 2 0, ns.getD 3 0, ns.getD 4 0⟩ : Dfc)) ns) = ns.map (Value.int .i64) := by
  match ns, h with
  | [_, _, _, _, _], _ => rfl
theorem recT_dec (ns : List Int) (h : ns.length = recT.k) : recT.enc ((fun ns : List Int => (⟨ns.getD 0 0, ns.getD 1 0, ns.getD 2 0, ns.getD 3 0⟩ : Prt)) ns) = ns.map (Value.int .i64) := by
  match ns, h with
  | [_, _, _, _], _ => rfl
theorem slice_one {v : Value} {k : Nat} (h : SlLen v k) : v.oneCell' = true := by obtain ⟨a, c, rfl⟩ := h; rfl
theorem relC_one {x : Rel} {v : Value} {k : Nat} (h : SlLen v k) : ∀ u ∈ relC x v, u.oneCell' = true := by
  intro u hu
  simp [relC] at hu
  rcases hu with rfl | rfl | rfl
  · rfl
  · rfl
  · exact slice_one h

section
variable {P : Program} {n : Nat} {m : Env} {w : World} {ops : Array Oper} {md : Nat} {K : Env → World → Prop} {l : List Oper}
theorem T_indexD {d : Nat} {x ix : Operand} {t e : TypeId} {byt : Nat} {z : Value} {ty : TypeId} {pos : String} {af : Array Edge} {v : Value} {xs : List Dfc} {hp : Array Obj} {i : Nat} (hT : STy P t e 5 byt z)
    (hx : ev m x = some v) (hi : ev m ix = some (.int .i64 (i : Int))) (hd : Nat.blt d n = true) (hS : Recs recD hp v xs) (hr : i < xs.length)
    (h : T P n ops md K l ((d, ePtr v (i * recD.k)) :: m) w) : T P n ops md K (⟨some d, .indexAddr t x ix, ty, pos, af, none⟩ :: l) m w := T_indexR (r := recD) hT hx hi hd hS hr h
theorem T_indexDI {d : Nat} {x ix : Operand} {t e : TypeId} {byt : Nat} {z : Value} {ty : TypeId} {pos : String} {af : Array Edge} {v : Value} {xs : List Dfc} {hp : Array Obj} {i : Int} (hT : STy P t e 5 byt z)
    (hx : ev m x = some v) (hi : ev m ix = some (.int .i64 i)) (hd : Nat.blt d n = true) (hS : Recs recD hp v xs) (hr : 0 ≤ i ∧ i < (xs.length : Int))
    (h : T P n ops md K l ((d, ePtr v (i.toNat * recD.k)) :: m) w) : T P n ops md K (⟨some d, .indexAddr t x ix, ty, pos, af, none⟩ :: l) m w := T_indexRI (r := recD) hT hx hi hd hS hr h
theorem T_indexT {d : Nat} {x ix : Operand} {t e : TypeId} {byt : Nat} {z : Value} {ty : TypeId} {pos : String} {af : Array Edge} {v : Value} {xs : List Prt} {hp : Array Obj} {i : Nat} (hT : STy P t e 4 byt z)
    (hx : ev m x = some v) (hi : ev m ix = some (.int .i64 (i : Int))) (hd : Nat.blt d n = true) (hS : Recs recT hp v xs) (hr : i < xs.length)
    (h : T P n ops md K l ((d, ePtr v (i * recT.k)) :: m) w) : T P n ops md K (⟨some d, .indexAddr t x ix, ty, pos, af, none⟩ :: l) m w := T_indexR (r := recT) hT hx hi hd hS hr h
theorem T_indexTI {d : Nat} {x ix : Operand} {t e : TypeId} {byt : Nat} {z : Value} {ty : TypeId} {pos : String} {af : Array Edge} {v : Value} {xs : List Prt} {hp : Array Obj} {i : Int} (hT : STy P t e 4 byt z)
    (hx : ev m x = some v) (hi : ev m ix = some (.int .i64 i)) (hd : Nat.blt d n = true) (hS : Recs recT hp v xs) (hr : 0 ≤ i ∧ i < (xs.length : Int))
    (h : T P n ops md K l ((d, ePtr v (i.toNat * recT.k)) :: m) w) : T P n ops md K (⟨some d, .indexAddr t x ix, ty, pos, af, none⟩ :: l) m w := T_indexRI (r := recT) hT hx hi hd hS hr h
theorem T_indexSt {d : Nat} {x ix : Operand} {t e : TypeId} {byt : Nat} {z : Value} {ty : TypeId} {pos : String} {af : Array Edge} {v : Value} {xs : List Str} {hp : Array Obj} {i : Nat} (hT : STy P t e 2 byt z)
    (hx : ev m x = some v) (hi : ev m ix = some (.int .i64 (i : Int))) (hd : Nat.blt d n = true) (hS : Recs recS hp v xs) (hr : i < xs.length)
    (h : T P n ops md K l ((d, ePtr v (i * recS.k)) :: m) w) : T P n ops md K (⟨some d, .indexAddr t x ix, ty, pos, af, none⟩ :: l) m w := T_indexR (r := recS) hT hx hi hd hS hr h
theorem T_indexStI {d : Nat} {x ix : Operand} {t e : TypeId} {byt : Nat} {z : Value} {ty : TypeId} {pos : String} {af : Array Edge} {v : Value} {xs : List Str} {hp : Array Obj} {i : Int} (hT : STy P t e 2 byt z)
    (hx : ev m x = some v) (hi : ev m ix = some (.int .i64 i)) (hd : Nat.blt d n = true) (hS : Recs recS hp v xs) (hr : 0 ≤ i ∧ i < (xs.length : Int))
    (h : T P n ops md K l ((d, ePtr v (i.toNat * recS.k)) :: m) w) : T P n ops md K (⟨some d, .indexAddr t x ix, ty, pos, af, none⟩ :: l) m w := T_indexRI (r := recS) hT hx hi hd hS hr h
/-- whole records, of an earlier world -/
theorem T_loadDA {d : Nat} {x : Operand} {t ty : TypeId} {pos : String} {af : Array Edge} {v : Value} {i : Nat} {xs : List Dfc} {w0 : World} (ht : ∀ w, (isAgg t).run P w = .ok true w) (hs : ∀ w, (sizeOf t).run P w = .ok 5 w) (hx : ev m x = some (ePtr v (i * recD.k))) (hd : Nat.blt d n = true)
    (hS : Recs recD w0.heap v xs) (hb : Below w0.heap.size w0 w) (hi : i < xs.length) (h : T P n ops md K l ((d, .agg (recD.enc (xs.getD i dz)).toArray) :: m) w) (hmd : Nat.blt md 4 = true := by rfl) : T P n ops md K (⟨some d, .load t x, ty, pos, af, none⟩ :: l) m w :=
  T_loadRA (r := recD) ht hs hx hd (hS.later hb) hi h hmd
theorem T_loadTA {d : Nat} {x : Operand} {t ty : TypeId} {pos : String} {af : Array Edge} {v : Value} {i : Nat} {xs : List Prt} {w0 : World} (ht : ∀ w, (isAgg t).run P w = .ok true w) (hs : ∀ w, (sizeOf t).run P w = .ok 4 w) (hx : ev m x = some (ePtr v (i * recT.k))) (hd : Nat.blt d n = true)
    (hS : Recs recT w0.heap v xs) (hb : Below w0.heap.size w0 w) (hi : i < xs.length) (h : T P n ops md K l ((d, .agg (recT.enc (xs.getD i pz)).toArray) :: m) w) (hmd : Nat.blt md 4 = true := by rfl) : T P n ops md K (⟨some d, .load t x, ty, pos, af, none⟩ :: l) m w :=
  T_loadRA (r := recT) ht hs hx hd (hS.later hb) hi h hmd
theorem T_loadSA' {d : Nat} {x : Operand} {t ty : TypeId} {pos : String} {af : Array Edge} {v : Value} {i : Nat} {xs : List Str} {w0 : World} (ht : ∀ w, (isAgg t).run P w = .ok true w) (hs : ∀ w, (sizeOf t).run P w = .ok 2 w) (hx : ev m x = some (ePtr v (i * recS.k))) (hd : Nat.blt d n = true)
    (hS : Recs recS w0.heap v xs) (hb : Below w0.heap.size w0 w) (hi : i < xs.length) (h : T P n ops md K l ((d, .agg (recS.enc (xs.getD i sz0)).toArray) :: m) w) (hmd : Nat.blt md 4 = true := by rfl) : T P n ops md K (⟨some d, .load t x, ty, pos, af, none⟩ :: l) m w :=
  T_loadRA (r := recS) ht hs hx hd (hS.later hb) hi h hmd
/-- one field of a record, of an earlier world -/
theorem T_loadD {d : Nat} {x : Operand} {t ty : TypeId} {pos : String} {af : Array Edge} {v u : Value} {i j : Nat} {xs : List Dfc} {w0 : World} (ht : ∀ w, (isAgg t).run P w = .ok false w) (hx : ev m x = some (ePtr v (i * recD.k + j))) (hd : Nat.blt d n = true)
    (hS : Recs recD w0.heap v xs) (hb : Below w0.heap.size w0 w) (hi : i < xs.length) (hj : (recD.enc (xs.getD i dz))[j]? = some u) (h : T P n ops md K l ((d, u) :: m) w) (hmd : Nat.blt md 4 = true := by rfl) : T P n ops md K (⟨some d, .load t x, ty, pos, af, none⟩ :: l) m w :=
  T_loadR (r := recD) ht hx hd (hS.later hb) hi hj h hmd
theorem T_loadT {d : Nat} {x : Operand} {t ty : TypeId} {pos : String} {af : Array Edge} {v u : Value} {i j : Nat} {xs : List Prt} {w0 : World} (ht : ∀ w, (isAgg t).run P w = .ok false w) (hx : ev m x = some (ePtr v (i * recT.k + j))) (hd : Nat.blt d n = true)
    (hS : Recs recT w0.heap v xs) (hb : Below w0.heap.size w0 w) (hi : i < xs.length) (hj : (recT.enc (xs.getD i pz))[j]? = some u) (h : T P n ops md K l ((d, u) :: m) w) (hmd : Nat.blt md 4 = true := by rfl) : T P n ops md K (⟨some d, .load t x, ty, pos, af, none⟩ :: l) m w :=
  T_loadR (r := recT) ht hx hd (hS.later hb) hi hj h hmd
theorem T_loadSt {d : Nat} {x : Operand} {t ty : TypeId} {pos : String} {af : Array Edge} {v u : Value} {i j : Nat} {xs : List Str} {w0 : World} (ht : ∀ w, (isAgg t).run P w = .ok false w) (hx : ev m x = some (ePtr v (i * recS.k + j))) (hd : Nat.blt d n = true)
    (hS : Recs recS w0.heap v xs) (hb : Below w0.heap.size w0 w) (hi : i < xs.length) (hj : (recS.enc (xs.getD i sz0))[j]? = some u) (h : T P n ops md K l ((d, u) :: m) w) (hmd : Nat.blt md 4 = true := by rfl) : T P n ops md K (⟨some d, .load t x, ty, pos, af, none⟩ :: l) m w :=
  T_loadR (r := recS) ht hx hd (hS.later hb) hi hj h hmd
/-- the address of a field -/
theorem T_fieldBoxF {d : Nat} {x : Operand} {s ty : TypeId} {f : Nat} {pos : String} {af : Array Edge} {b : Nat} (hf : FieldAt P s f f) (hx : ev m x = some (bPtr b 0)) (hd : Nat.blt d n = true)
    (h : T P n ops md K l ((d, bPtr b f) :: m) w) : T P n ops md K (⟨some d, .fieldAddr s x f, ty, pos, af, none⟩ :: l) m w :=
  T_fieldBox hf hx hd (by rw [Nat.zero_add]; exact h)
theorem T_fieldD {d : Nat} {x : Operand} {s ty : TypeId} {f : Nat} {pos : String} {af : Array Edge} {v : Value} {j : Nat} {xs : List Dfc} {hp : Array Obj} (hf : FieldAt P s f f) (hx : ev m x = some (ePtr v j)) (hd : Nat.blt d n = true)
    (hS : Recs recD hp v xs) (hk : 0 < xs.length) (h : T P n ops md K l ((d, ePtr v (j + f)) :: m) w) : T P n ops md K (⟨some d, .fieldAddr s x f, ty, pos, af, none⟩ :: l) m w := T_fieldR hf hx hd hS hk h
theorem T_fieldT {d : Nat} {x : Operand} {s ty : TypeId} {f : Nat} {pos : String} {af : Array Edge} {v : Value} {j : Nat} {xs : List Prt} {hp : Array Obj} (hf : FieldAt P s f f) (hx : ev m x = some (ePtr v j)) (hd : Nat.blt d n = true)
    (hS : Recs recT hp v xs) (hk : 0 < xs.length) (h : T P n ops md K l ((d, ePtr v (j + f)) :: m) w) : T P n ops md K (⟨some d, .fieldAddr s x f, ty, pos, af, none⟩ :: l) m w := T_fieldR hf hx hd hS hk h
theorem T_fieldSt {d : Nat} {x : Operand} {s ty : TypeId} {f : Nat} {pos : String} {af : Array Edge} {v : Value} {j : Nat} {xs : List Str} {hp : Array Obj} (hf : FieldAt P s f f) (hx : ev m x = some (ePtr v j)) (hd : Nat.blt d n = true)
    (hS : Recs recS hp v xs) (hk : 0 < xs.length) (h : T P n ops md K l ((d, ePtr v (j + f)) :: m) w) : T P n ops md K (⟨some d, .fieldAddr s x f, ty, pos, af, none⟩ :: l) m w := T_fieldR hf hx hd hS hk h
end
end Go.PR
namespace Go.Proofs.Ytnecmchcemnopaa
open Go Go.PR Go.RowKit
theorem tyD : STy Try.prog 23 37 5 40 (.agg #[.int .i64 0, .int .i64 0, .int .i64 0, .int .i64 0, .int .i64 0]) := ⟨Try.underlying23, ⟨Try.t37, by kernel_rfl, rfl, rfl, rfl⟩, rfl, by decide⟩
theorem aD : ∀ w, (isAgg 37).run Try.prog w = .ok true w := fun _ => by kernel_rfl
theorem sD : ∀ w, (sizeOf 37).run Try.prog w = .ok 5 w := fun _ => by kernel_rfl
theorem aL : ∀ w, (isAgg 25).run Try.prog w = .ok true w := fun _ => by kernel_rfl
theorem sL : ∀ w, (sizeOf 25).run Try.prog w = .ok 3 w := fun _ => by kernel_rfl
theorem aT : ∀ w, (isAgg 40).run Try.prog w = .ok true w := fun _ => by kernel_rfl
theorem sT : ∀ w, (sizeOf 40).run Try.prog w = .ok 4 w := fun _ => by kernel_rfl
theorem nDs : ∀ w, (isAgg 23).run Try.prog w = .ok false w := fun _ => by kernel_rfl
theorem s1Ds : ∀ w, (sizeOf 23).run Try.prog w = .ok 1 w := fun _ => by kernel_rfl
theorem zD : ∀ w, (zeroValue 37).run Try.prog w = .ok (.agg (recD.enc dz).toArray) w := fun _ => by kernel_rfl
theorem zL : ∀ w, (zeroValue 25).run Try.prog w = .ok (.agg (relC rz (.slice none 0 0)).toArray) w := fun _ => by kernel_rfl
theorem zT : ∀ w, (zeroValue 40).run Try.prog w = .ok (.agg (recT.enc pz).toArray) w := fun _ => by kernel_rfl
theorem bD (a b c d e : Int) : StructAt Try.prog 37 [(0, .int .i64 a), (1, .int .i64 b), (2, .int .i64 c), (3, .int .i64 d), (4, .int .i64 e)] (.agg (recD.enc ⟨a, b, c, d, e⟩).toArray) := fun w => by kernel_rfl
theorem bT (a b c d : Int) : StructAt Try.prog 40 [(0, .int .i64 a), (1, .int .i64 b), (2, .int .i64 c), (3, .int .i64 d)] (.agg (recT.enc ⟨a, b, c, d⟩).toArray) := fun w => by kernel_rfl
theorem bL0 : StructAt Try.prog 25 [] (.agg (relC rz (.slice none 0 0)).toArray) := fun w => by kernel_rfl
theorem bL2 (a b : Int) : StructAt Try.prog 25 [(0, .int .i64 a), (1, .int .i64 b)] (.agg (relC ⟨a, b, []⟩ (.slice none 0 0)).toArray) := fun w => by kernel_rfl
theorem bL3 (a b : Int) (v : Value) {k : Nat} (h : SlLen v k) : StructAt Try.prog 25 [(0, .int .i64 a), (1, .int .i64 b), (2, v)] (.agg (relC ⟨a, b, []⟩ v).toArray) := by
  obtain ⟨x, y, rfl⟩ := h
  intro w; kernel_rfl
theorem tyE : STy Try.prog 52 91 5 40 (.agg #[.int .i64 0, .int .i64 0, .int .i64 0, .int .i64 0, .int .i64 0]) := ⟨Try.underlying52, ⟨Try.t91, by kernel_rfl, rfl, rfl, rfl⟩, rfl, by decide⟩
theorem aE : ∀ w, (isAgg 91).run Try.prog w = .ok true w := fun _ => by kernel_rfl
theorem sE : ∀ w, (sizeOf 91).run Try.prog w = .ok 5 w := fun _ => by kernel_rfl
theorem aM : ∀ w, (isAgg 54).run Try.prog w = .ok true w := fun _ => by kernel_rfl
theorem sM : ∀ w, (sizeOf 54).run Try.prog w = .ok 3 w := fun _ => by kernel_rfl
theorem nEs : ∀ w, (isAgg 52).run Try.prog w = .ok false w := fun _ => by kernel_rfl
theorem aU : ∀ w, (isAgg 83).run Try.prog w = .ok true w := fun _ => by kernel_rfl
theorem sU : ∀ w, (sizeOf 83).run Try.prog w = .ok 4 w := fun _ => by kernel_rfl
theorem tyU : STy Try.prog 55 83 4 32 (.agg #[.int .i64 0, .int .i64 0, .int .i64 0, .int .i64 0]) := ⟨Try.underlying55, ⟨Try.t83, by kernel_rfl, rfl, rfl, rfl⟩, rfl, by decide⟩
theorem tyT : STy Try.prog 26 40 4 32 (.agg #[.int .i64 0, .int .i64 0, .int .i64 0, .int .i64 0]) := ⟨Try.underlying26, ⟨Try.t40, by kernel_rfl, rfl, rfl, rfl⟩, rfl, by decide⟩
end Go.Proofs.Ytnecmchcemnopaa
