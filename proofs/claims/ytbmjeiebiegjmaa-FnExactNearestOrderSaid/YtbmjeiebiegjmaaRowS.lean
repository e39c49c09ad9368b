/-
  From the readings of the arguments to the words of the walks: slices of slices. No condition.
-/
import Derived.Test.YtbmjeiebiegjmaaRow
import Derived.Test.YtbmjeiebiegjmaaMem5
import Derived.Deep.Matrix
namespace Go.PR
open Go Go.RowKit Go.Deep Go.ChangeShapes Go.WideShapes

theorem rws_of_trod {H : Type} {enc : TypeId × Value → H} {P : Program} {w : World} {base : Nat} {held : Bool} {t e q : TypeId} {a : Option Addr} {len cap : Nat} {d : DataW H} {ps : List MemPlace}
    (ht : P.underlying t = some (.slice e)) (he : P.underlying e = some (.slice q)) (hq : P.underlying q = some (.int .i64)) (ce : P.cellsOf e = 1) (cq : P.cellsOf q = 1)
    (h : DataW.Trod enc P w base (fun _ => true) held t (.slice a len cap) d ps) :
    ∃ vs xss, Rws w.heap (.slice a len cap) vs xss ∧ xss.length ≤ 9223372036854775807 ∧ ∀ j, j < xss.length → (xss.getD j []).length ≤ 9223372036854775807 := by
  obtain ⟨fuel, hf⟩ := h
  rcases open_int_rows ht he hq ce cq hf with ⟨hcs, _⟩ | ⟨x, l, c, A, L, C, Z, hcs, _, hl, hm, _, hrows⟩
  · simp [Value.cells] at hcs
    obtain ⟨rfl, rfl, rfl⟩ := hcs
    exact ⟨[], [], ⟨Sl.nil _ _, rfl, fun i hi => by simp at hi⟩, by simp, fun j hj => by simp at hj⟩
  · simp [Value.cells] at hcs
    obtain ⟨rfl, rfl, rfl⟩ := hcs
    have gv : ∀ r, r < len → ((List.range len).map fun r => Value.slice (A r) (L r) (C r)).getD r nilV = .slice (A r) (L r) (C r) := fun r hr => by
      rw [List.getD_eq_getElem?_getD]; simp [hr]
    have gx : ∀ r, r < len → ((List.range len).map fun r => (Z r).take (L r)).getD r [] = (Z r).take (L r) := fun r hr => by
      rw [List.getD_eq_getElem?_getD]; simp [hr]
    have hl2 : ∀ r, r < len → ((Z r).take (L r)).length = L r ∧ L r ≤ 9223372036854775807 := fun r hr => by
      obtain ⟨_, h1, h2, h3, _⟩ := hrows r (by omega)
      simp only [maxLen] at h2
      rw [List.length_take]
      omega
    refine ⟨(List.range len).map fun r => Value.slice (A r) (L r) (C r), (List.range len).map fun r => (Z r).take (L r), ⟨?_, by simp, fun r hr => ?_⟩, by simp only [maxLen] at hm; simp; omega, fun r hr => ?_⟩
    · refine ⟨by simp, some x, cap, by simp, by simpa using hl, fun j u hj => ⟨x, rfl, ?_⟩⟩
      have hj' : j < len := by have := (List.getElem?_eq_some_iff.1 hj).1; simpa using this
      have h1 := (hrows j (by omega)).1
      rw [cell_eq] at h1
      rw [h1]
      simpa [hj'] using hj
    · have hr' : r < len := by simpa using hr
      rw [gv r hr', gx r hr']
      obtain ⟨_, h1, h2, h3, h4, h5, h6⟩ := hrows r (by omega)
      refine ints_of_row ?_
      cases hA : A r with
      | none =>
        have := h5 hA
        left
        exact ⟨rfl, by omega, this, List.eq_nil_of_length_eq_zero (by omega)⟩
      | some y =>
        right
        exact ⟨y, rfl, h1, h2, h3, fun i hi => (h6 y hA).2 i (by omega), h4⟩
    · have hr' : r < len := by simpa using hr
      rw [gx r hr']
      have := hl2 r hr'
      omega
end Go.PR
