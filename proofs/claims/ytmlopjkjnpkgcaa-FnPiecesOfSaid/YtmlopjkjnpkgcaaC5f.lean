/-
  What the laws on splices have in common. No condition of their own.
-/
import Derived.Test.YtmlopjkjnpkgcaaC5e
import Derived.Test.YtmlopjkjnpkgcaaLibP
import Derived.Test.YtmlopjkjnpkgcaaG5b
namespace Go.Proofs.Ytmlopjkjnpkgcaa
open Go Go.PR Go.RowKit attribute [local irreducible] T E Ints Sl Bools OwnI OwnB OwnR Recs Box Ret

theorem equalInts_yes (v u : Value) (xs : List Int) (w : World) (hI : Ints w.heap v xs) (hJ : Ints w.heap u xs) (hl : xs.length ≤ 9000000000000000000) :
    Ret Try.prog 18 #[v, u] w (fun r w' => r = .bool true ∧ Below w.heap.size w w') :=
  (equalInts_spec v u xs xs w hI hJ hl).mono (fun r w' h => ⟨by rw [h.1]; simp, h.2⟩)
theorem equalPieces_yes (v u : Value) (xs : List Pc) (w : World) (hI : Recs recP w.heap v xs) (hJ : Recs recP w.heap u xs) (hl : xs.length ≤ 9000000000000000000) :
    Ret Try.prog 23 #[v, u] w (fun r w' => r = .bool true ∧ Below w.heap.size w w') :=
  (equalPieces_spec v u xs xs w hI hJ hl).mono (fun r w' h => ⟨by rw [h.1]; simp, h.2⟩)

theorem Chain.at {ps : List Int} : ∀ {pcs : List Pc} {x : Int}, Chain ps x pcs → ∀ k, k < pcs.length →
    (pcs.getD k (0, 0, 0, 0)).1 = ((place ps (x + plen (pcs.take k))).1 : Nat) ∧ (pcs.getD k (0, 0, 0, 0)).2.2.1 = (place ps (x + plen (pcs.take k))).2 ∧ 1 ≤ (pcs.getD k (0, 0, 0, 0)).2.2.2 ∧
      (pcs.getD k (0, 0, 0, 0)).2.2.1 + (pcs.getD k (0, 0, 0, 0)).2.2.2 ≤ ps.getD (place ps (x + plen (pcs.take k))).1 0 ∧ (place ps (x + plen (pcs.take k))).1 < ps.length
  | [], _, _, k, hk => by simp at hk
  | q :: r, x, h, 0, _ => by simpa [plen] using h.1
  | q :: r, x, h, k + 1, hk => by
    have := Chain.at h.2 k (by simpa using hk)
    simp only [List.getD_cons_succ, List.take_succ_cons, plen_cons]
    rwa [← Int.add_assoc]
theorem Chain.nonneg {ps : List Int} : ∀ {pcs : List Pc} {x : Int}, Chain ps x pcs → ∀ k, 0 ≤ plen (pcs.take k) ∧ plen (pcs.take k) ≤ plen pcs
  | [], _, _, k => by simp [plen]
  | q :: r, x, h, 0 => by
    have h1 := h.1.2.2.1
    have h2 := Chain.nonneg h.2 0
    rw [plen_cons]
    simp [plen] at h2 ⊢
    omega
  | q :: r, x, h, k + 1 => by
    have h1 := h.1.2.2.1
    have h2 := Chain.nonneg h.2 k
    rw [List.take_succ_cons, plen_cons, plen_cons]
    omega
theorem plen_take {pcs : List Pc} {k : Nat} (h : k < pcs.length) : plen (pcs.take (k + 1)) = plen (pcs.take k) + (pcs.getD k (0, 0, 0, 0)).2.2.2 := by
  rw [take_snocP h, plen_append]; simp [plen]
theorem Adj.at : ∀ {pcs : List Pc}, Adj pcs → ∀ k, k + 1 < pcs.length → NextTo (pcs.getD k (0, 0, 0, 0)) (pcs.getD (k + 1) (0, 0, 0, 0))
  | [], _, k, hk => by simp at hk
  | [_], _, k, hk => by simp at hk
  | p :: q :: r, h, 0, _ => h.1
  | p :: q :: r, h, k + 1, hk => by
    have := Adj.at (pcs := q :: r) h.2 k (by simpa using hk)
    simpa using this

theorem leftF_some {ps ws : List Int} {skip : Int} (h : (leftF ps ws skip).length ≠ 0) : enough ps ws skip ∧ leftF ps ws skip = leftL ps (skip + ws.sum) := by
  unfold leftF at *
  by_cases e : enough ps ws skip
  · rw [if_pos e]; exact ⟨e, rfl⟩
  · rw [if_neg e] at h; simp at h
theorem piecesF_some {ps ws : List Int} {skip : Int} (h : (piecesF ps ws skip).length ≠ 0) : enough ps ws skip ∧ piecesF ps ws skip = pieces ps ws skip := by
  unfold piecesF at *
  by_cases e : enough ps ws skip
  · rw [if_pos e]; exact ⟨e, rfl⟩
  · rw [if_neg e] at h; simp at h
theorem splF_some {ps ws : List Int} {skip : Int} (h : (splF ps ws skip).length ≠ 0) : enough ps ws skip := by
  unfold splF at *
  by_cases e : enough ps ws skip
  · exact e
  · rw [if_neg e] at h; simp at h
theorem leftF_len (ps ws : List Int) (skip : Int) : (leftF ps ws skip).length ≤ ps.length := by
  unfold leftF
  split
  · exact leftL_len _ _
  · simp
end Go.Proofs.Ytmlopjkjnpkgcaa
