/-
  Equality of reels that are the same. Conditions: the arguments lie in memory as the contract says.
-/
import Derived.Test.YtnecmchcemnopaaLibR3
namespace Go.PR
open Go Go.RowKit
section
variable {P : Program} {n : Nat} {m : Env} {w : World} {ops : Array Oper} {md : Nat} {K : Env → World → Prop} {l : List Oper}
/-- two new struct variables -/
theorem T_new2 {d e q q' : Nat} {y y' : Operand} {t ty ty' t' s sy sy' s' : TypeId} {pos pos' pos2 pos2' : String} {af af' af2 af2' : Array Edge} {z z' : Value} {us vs : List Value} (hz : ∀ w, (zeroValue t).run P w = .ok z w) (hs : ∀ w, (sizeOf t').run P w = .ok q w) (hzl : z.cells.toList.length = us.length)
    (hz2 : ∀ w, (zeroValue s).run P w = .ok z' w) (hs2 : ∀ w, (sizeOf s').run P w = .ok q' w) (hzl2 : z'.cells.toList.length = vs.length)
    (hy : ∀ u u', ev ((e, u') :: (d, u) :: m) y = some (.agg us.toArray)) (hy2 : ∀ u u', ev ((e, u') :: (d, u) :: m) y' = some (.agg vs.toArray)) (hd : Nat.blt d n = true) (he : Nat.blt e n = true) (hne : e ≠ d)
    (hq : us.length = q) (h1 : ∀ u ∈ us, u.oneCell' = true) (hq2 : vs.length = q') (h2 : ∀ u ∈ vs, u.oneCell' = true)
    (h : ∀ b c w', w.heap.size ≤ b → w.heap.size ≤ c → b ≠ c → Box w'.heap b us → Box w'.heap c vs → Below w.heap.size w w' → T P n ops 0 K l ((e, bPtr c 0) :: (d, bPtr b 0) :: m) w') :
    T P n ops 0 K (⟨some d, .alloc t, ty, pos, af, none⟩ :: ⟨some e, .alloc s, sy, pos2, af2, none⟩ :: ⟨none, .store t' (.tmp d) y, ty', pos', af', none⟩ :: ⟨none, .store s' (.tmp e) y', sy', pos2', af2', none⟩ :: l) m w :=
  T_alloc hz hd (fun b w1 hb hx hB => T_alloc hz2 he (fun c w2 hc hxc hB2 => by
    have hlt := hx.lt
    have hltc := hxc.lt
    have hs1 := hB.size
    have hs2' := hB2.size
    have hx := hx.later hB2
    have hbc : b ≠ c := by omega
    refine T_storeBoxA hs ?_ (hy _ _) hq h1 hx hzl (fun w3 hx3 hg hz3 => ?_)
    · show get _ d = _
      rw [get_cons_other _ _ hne, get_cons_same]
    have hxc := hxc.kept hg (fun e => hbc (by simpa using e.symm))
    have hB3 := (hB.step hB.size hB2).grown hg (by omega) (fun c hc => by simp at hc; omega)
    refine T_storeBoxA hs2 (get_cons_same e _ _) (hy2 _ _) hq2 h2 hxc hzl2 (fun w4 hx4 hg4 _ => ?_)
    have hx3 := hx3.kept hg4 (fun e => hbc (by simpa using e))
    exact h b c w4 hb (by omega) hbc hx3 hx4 (hB3.grown hg4 (by omega) (fun c hc => by simp at hc; omega))))
end
end Go.PR
namespace Go.Proofs.Ytnecmchcemnopaa
open Go Go.PR Go.RowKit attribute [local irreducible] T E Ints Sl Bools OwnI OwnB OwnR Recs Box Ret
theorem bT123 (a b c : Int) : StructAt Try.prog 40 [(1, .int .i64 a), (2, .int .i64 b), (3, .int .i64 c)] (.agg (recT.enc ⟨0, a, b, c⟩).toArray) := fun w => by kernel_rfl
end Go.Proofs.Ytnecmchcemnopaa
