/-
  From the readings of the arguments to the words of the walks: structs of numbers, slices of them, a struct that holds such a slice. No condition.
-/
import Derived.Test.YtnecmchcemnopaaRow
import Derived.Test.YtnecmchcemnopaaLibR
import Derived.Deep.Fields
import Derived.Deep.Slices
namespace Go.PR
open Go Go.RowKit Go.Deep Go.ChangeShapes Go.WideShapes

def toI : Value → Int
  | .int _ n => n
  | _ => 0

section
variable {H : Type} {enc : TypeId × Value → H} {P : Program} {w : World} {base : Nat} {sp : Nat → Bool} {held : Bool}

theorem int_of_trod {t : TypeId} {fuel : Nat} {c : Value} {x : DataW H × List MemPlace} (ht : P.underlying t = some (.int .i64)) (h : DataW.trod enc P w base sp held fuel t [c] = some x) : c = .int .i64 (toI c) := by
  obtain ⟨n, hc, _, _⟩ := DataW.trod_int ht h
  simp only [List.cons.injEq, and_true] at hc
  subst hc
  rfl

/-- a struct of numbers -/
theorem ints_of_struct {e : TypeId} {fs : Array Field} {fuel : Nat} {cs : List Value} {x : DataW H × List MemPlace} (he : P.underlying e = some (.struct fs))
    (hone : ∀ (i : Nat) (f : Field), fs[i]? = some f → f.offset = i ∧ P.cellsOf f.type = 1) (hint : ∀ (i : Nat) (f : Field), fs[i]? = some f → P.underlying f.type = some (.int .i64)) (hC : P.cellsOf e = fs.size)
    (h : DataW.trod enc P w base sp held fuel e cs = some x) : cs.length = fs.size ∧ cs = (cs.map toI).map (Value.int .i64) := by
  obtain ⟨xs, n, _, _, hl, hxl, hf⟩ := DataW.trod_struct he h
  rw [hC] at hl
  refine ⟨hl, ?_⟩
  apply List.ext_getElem (by simp)
  intro i h1 h2
  have hi : i < fs.size := by omega
  obtain ⟨ho, hc⟩ := hone i fs[i] (Array.getElem?_eq_getElem hi)
  have g := hf i fs[i] (Array.getElem?_eq_getElem hi)
  rw [ho, hc, take1_drop cs i undef (by omega), List.getElem?_eq_getElem (by omega)] at g
  have := int_of_trod (hint i fs[i] (Array.getElem?_eq_getElem hi)) g
  rw [List.getD_eq_getElem?_getD, List.getElem?_eq_getElem h1] at this
  simpa using this

/-- a slice of structs of numbers -/
theorem recs_of_trod {α : Type} {r : Rec α} {t e : TypeId} {fs : Array Field} {fuel : Nat} {v : Value} {x : DataW H × List MemPlace} (dec : List Int → α) (hdec : ∀ ns : List Int, ns.length = r.k → r.enc (dec ns) = ns.map (Value.int .i64))
    (ht : P.underlying t = some (.slice e)) (he : P.underlying e = some (.struct fs))
    (hone : ∀ (i : Nat) (f : Field), fs[i]? = some f → f.offset = i ∧ P.cellsOf f.type = 1) (hint : ∀ (i : Nat) (f : Field), fs[i]? = some f → P.underlying f.type = some (.int .i64)) (hC : P.cellsOf e = fs.size) (hk : fs.size = r.k)
    (h : DataW.trod enc P w base sp held fuel t [v] = some x) : ∃ xs : List α, Recs r w.heap v xs ∧ xs.length ≤ 9223372036854775807 := by
  rcases open_slice ht h with ⟨hcs, _⟩ | ⟨a, len, cap, m, n, D, Pl, hcs, hb, hl, hm, hmm, _, hx⟩
  · simp only [List.cons.injEq, and_true] at hcs
    subst hcs
    exact ⟨[], Recs.nil _ _, by simp⟩
  · simp only [List.cons.injEq, and_true] at hcs
    subst hcs
    have hlm : len ≤ m := by rw [hmm]; split <;> omega
    have each : ∀ i, i < len → ∃ cs' : List Value, cs'.length = r.k ∧ cs' = (cs'.map toI).map (Value.int .i64) ∧ ∀ q, q < r.k → w.cell? (a.add (i * r.k + q)) = cs'[q]? := fun i hi => by
      obtain ⟨cs', h1, h2⟩ := hx i (by omega)
      obtain ⟨e1, e2⟩ := ints_of_struct he hone hint hC h2
      obtain ⟨_, _, hcell⟩ := World.cells?_some h1
      rw [hC, hk] at hcell
      refine ⟨cs', by omega, e2, fun q hq => ?_⟩
      have := hcell q hq
      rwa [PR.add_add] at this
    obtain ⟨f, hf⟩ := choose_lt each
    have gx : ∀ i, i < len → ((List.range len).map fun i => dec ((f i).map toI)).getD i r.zero = dec ((f i).map toI) := fun i hi => by
      rw [List.getD_eq_getElem?_getD]; simp [hi]
    have hkp := r.pos
    refine ⟨(List.range len).map fun i => dec ((f i).map toI), ⟨by rw [flat_length r.enc r.k r.len], some a, cap, by simp, by simpa using hl, fun j u hj => ⟨a, rfl, ?_⟩⟩, by simp only [maxLen] at hm; simp; omega⟩
    have hjl : j < len * r.k := by
      have := (List.getElem?_eq_some_iff.1 hj).1
      rw [flat_length r.enc r.k r.len] at this
      simpa using this
    have h1 : j / r.k < len := Nat.div_lt_of_lt_mul (by rw [Nat.mul_comm]; exact hjl)
    have h2 : j % r.k < r.k := Nat.mod_lt _ hkp
    have h3 : j / r.k * r.k + j % r.k = j := by rw [Nat.mul_comm]; exact Nat.div_add_mod _ _
    have hg := flat_get r.enc r.k r.len r.zero ((List.range len).map fun i => dec ((f i).map toI)) (j / r.k) (j % r.k) (by simpa using h1) h2
    rw [h3, hj, gx _ h1, hdec _ (by rw [List.length_map]; exact (hf _ h1).1), ← (hf _ h1).2.1, ← (hf _ h1).2.2 _ h2, h3, cell_eq] at hg
    exact hg.symm

theorem hint_of {fs : Array Field} {ti : TypeId} (hti : P.underlying ti = some (.int .i64)) (h : fs.toList.all (fun f => f.type == ti) = true) : ∀ (i : Nat) (f : Field), fs[i]? = some f → P.underlying f.type = some (.int .i64) := by
  intro i f hf
  have hm : f ∈ fs.toList := by
    obtain ⟨hlt, e⟩ := Array.getElem?_eq_some_iff.1 hf
    rw [← e]
    simp
  have := List.all_eq_true.1 h f hm
  simp only [beq_iff_eq] at this
  rw [this]
  exact hti

/-- a part -/
theorem part_of_trod {t ti : TypeId} {fs : Array Field} {cs : Array Value} {d : DataW H} {ps : List MemPlace} (ht : P.underlying t = some (.struct fs)) (hti : P.underlying ti = some (.int .i64)) (hone : oneCellFields P fs = true) (hint : fs.toList.all (fun f => f.type == ti) = true) (hC : P.cellsOf t = fs.size) (hk : fs.size = 4)
    (h : DataW.Trod enc P w base sp held t (.agg cs) d ps) : ∃ x : Prt, cs = (recT.enc x).toArray := by
  obtain ⟨fuel, hf⟩ := h
  obtain ⟨h1, h2⟩ := ints_of_struct ht (hone_of hone) (hint_of hti hint) hC hf
  have e : (Value.agg cs).cells.toList = cs.toList := by simp [Value.cells]
  rw [e] at h1 h2
  refine ⟨(fun ns : List Int => (⟨ns.getD 0 0, ns.getD 1 0, ns.getD 2 0, ns.getD 3 0⟩ : Prt)) (cs.toList.map toI), ?_⟩
  rw [recT_dec _ (by rw [List.length_map, h1, hk]; rfl), ← h2]

/-- a slice of parts -/
theorem parts_of_trod {t e ti : TypeId} {fs : Array Field} {v : Value} {d : DataW H} {ps : List MemPlace} (ht : P.underlying t = some (.slice e)) (he : P.underlying e = some (.struct fs)) (hti : P.underlying ti = some (.int .i64)) (hone : oneCellFields P fs = true) (hint : fs.toList.all (fun f => f.type == ti) = true) (hC : P.cellsOf e = fs.size) (hk : fs.size = 4)
    (hv : v.cells.toList = [v]) (h : DataW.Trod enc P w base sp held t v d ps) : ∃ xs : List Prt, Recs recT w.heap v xs ∧ xs.length ≤ 9223372036854775807 := by
  obtain ⟨fuel, hf⟩ := h
  rw [hv] at hf
  exact recs_of_trod (r := recT) _ recT_dec ht he (hone_of hone) (hint_of hti hint) hC hk hf

/-- a reel -/
theorem reel_of_trod {t td te ti : TypeId} {fs fd : Array Field} {cs : Array Value} {d : DataW H} {ps : List MemPlace} (ht : P.underlying t = some (.struct fs)) (htd : P.underlying td = some (.slice te)) (hte : P.underlying te = some (.struct fd)) (hti : P.underlying ti = some (.int .i64))
    (hone : oneCellFields P fs = true) (hC : P.cellsOf t = fs.size) (hk : fs.toList.map (·.type) = [ti, ti, td])
    (honeD : oneCellFields P fd = true) (hintD : fd.toList.all (fun f => f.type == ti) = true) (hCD : P.cellsOf te = fd.size) (hkD : fd.size = 5)
    (h : DataW.Trod enc P w base sp held t (.agg cs) d ps) : ∃ (x : Rel) (v : Value), cs = (relC x v).toArray ∧ Recs recD w.heap v x.ds ∧ x.ds.length ≤ 9223372036854775807 := by
  obtain ⟨fuel, hf⟩ := h
  have e : (Value.agg cs).cells.toList = cs.toList := by simp [Value.cells]
  rw [e] at hf
  obtain ⟨xs, n, _, _, hl, hxl, hfs⟩ := DataW.trod_struct ht hf
  have hs3 : fs.size = 3 := by have := congrArg List.length hk; simpa using this
  have get : ∀ (i : Nat) (q : TypeId), [ti, ti, td][i]? = some q → ∃ y, DataW.trod enc P w base sp held n q [cs.toList.getD i undef] = some y := fun i q hq => by
    rw [← hk, List.getElem?_map] at hq
    cases hfi : fs.toList[i]? with
    | none => rw [hfi] at hq; cases hq
    | some f =>
      rw [hfi] at hq
      simp only [Option.map_some, Option.some.injEq] at hq
      have hfi' : fs[i]? = some f := by rw [← Array.getElem?_toList]; exact hfi
      obtain ⟨ho, hc⟩ := hone_of hone i f hfi'
      have g := hfs i f hfi'
      have hi : i < fs.size := (Array.getElem?_eq_some_iff.1 hfi').1
      rw [ho, hc, take1_drop cs.toList i undef (by omega), hq, List.getElem?_eq_getElem (by omega)] at g
      exact ⟨_, g⟩
  obtain ⟨y0, g0⟩ := get 0 ti rfl
  obtain ⟨y1, g1⟩ := get 1 ti rfl
  obtain ⟨y2, g2⟩ := get 2 td rfl
  have e0 := int_of_trod hti g0
  have e1 := int_of_trod hti g1
  obtain ⟨ds, hD, hlD⟩ := recs_of_trod (r := recD) _ recD_dec htd hte (hone_of honeD) (hint_of hti hintD) hCD hkD g2
  refine ⟨⟨toI (cs.toList.getD 0 undef), toI (cs.toList.getD 1 undef), ds⟩, cs.toList.getD 2 undef, ?_, hD, hlD⟩
  have hl3 : cs.toList.length = 3 := by rw [hl, hC, hs3]
  apply Array.ext'
  show cs.toList = relC _ _
  unfold relC
  simp only
  rw [← e0, ← e1]
  match hcs : cs.toList, hl3 with
  | [a, b, c], _ => rfl
end
end Go.PR

