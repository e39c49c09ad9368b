/-
  Piles, in plain words, the second part: labels are found, and no two are equal. No program here. No condition.
-/
import Derived.Test.YtcopagbegomohaaC6e
namespace Go.PR
theorem mem_labs {a : Int} {p : List (List Int)} : a ∈ labs p ↔ ∃ r, r < p.length ∧ a ∈ p.getD r [] ∧ a ≠ 0 := by
  unfold labs
  rw [List.mem_flatMap]
  constructor
  · rintro ⟨row, hrow, h⟩
    obtain ⟨r, hr, rfl⟩ := List.getElem_of_mem hrow
    unfold nz at h
    rw [List.mem_filter] at h
    exact ⟨r, hr, by rw [List.getD_eq_getElem?_getD, List.getElem?_eq_getElem hr]; exact h.1, by simpa using h.2⟩
  · rintro ⟨r, hr, h, h0⟩
    refine ⟨p.getD r [], ?_, ?_⟩
    · rw [List.getD_eq_getElem?_getD, List.getElem?_eq_getElem hr]; exact List.getElem_mem hr
    · unfold nz; rw [List.mem_filter]; exact ⟨h, by simpa using h0⟩
theorem labs_found {a : Int} {p : List (List Int)} (h : okPile p) (ha : a ∈ labs p) : (1 ≤ a ∧ a ≤ 9999) ∧ 0 ≤ (findF p a).1 ∧ findF p a = findP a p := by
  obtain ⟨r, hr, h1, h2⟩ := mem_labs.1 ha
  obtain ⟨i, hi, he⟩ := List.getElem_of_mem h1
  have hc := (h.2.2 r hr i hi).1
  have : cellP p r i = a := by unfold cellP; rw [getD_eq hi]; exact he
  rw [this] at hc
  have hb : 1 ≤ a ∧ a ≤ 9999 := by omega
  have hF : findF p a = findP a p := by unfold findF; rw [if_pos ⟨h, hb⟩]
  exact ⟨hb, by rw [hF]; exact findP_found hr h1, hF⟩
theorem before_nodup {p : List (List Int)} (h : okPile p) : ∀ r, r ≤ p.length → (labs (p.take r)).Nodup := by
  intro r
  induction r with
  | zero => intro _; simp [labs]
  | succ r ih =>
    intro hr
    have hrl : r < p.length := by omega
    have key : ∀ i, i ≤ (p.getD r []).length → (before p r i).Nodup := by
      intro i
      induction i with
      | zero => intro _; rw [before_zero]; exact ih (by omega)
      | succ i ihi =>
        intro hi
        rw [before_succ (by omega)]
        by_cases e : cellP p r i = 0
        · rw [if_pos e, List.append_nil]; exact ihi (by omega)
        · rw [if_neg e, List.nodup_append]
          have hn := ((h.2.2 r hrl i (by omega)).2 e).1
          refine ⟨ihi (by omega), by simp, fun x hx y hy exy => ?_⟩
          simp at hy
          subst hy
          subst exy
          exact hn hx
    rw [← before_all hrl]
    exact key _ (Nat.le_refl _)
theorem labs_nodup {p : List (List Int)} (h : okPile p) : (labs p).Nodup := by
  have := before_nodup h p.length (Nat.le_refl _)
  rwa [List.take_length] at this
theorem nodup_take {xs : List Int} (h : xs.Nodup) {k : Nat} (hk : k < xs.length) : xs.getD k 0 ∉ xs.take k := by
  intro hm
  obtain ⟨j, hj, he⟩ := List.getElem_of_mem hm
  have hj' : j < k := by simp at hj; omega
  rw [List.getElem_take, getD_eq hk] at he
  have := (List.getElem_inj h).1 he
  omega
end Go.PR
