/-
  Knives, in plain words: valid knives, the knives of a pattern. No program here. No condition.
-/
import Derived.Test.YtbmjeiebiegjmaaC3R
namespace Go.PR

/-- each number is more than the one before it -/
def asc (xs : List Int) : Prop := ∀ j, j < xs.length - 1 → xs.getD j 0 < xs.getD (j + 1) 0
instance (xs : List Int) : Decidable (asc xs) := by unfold asc; infer_instance
def okK (xs : List Int) : Prop := xs.length ≤ 24 ∧ (∀ x ∈ xs, 0 ≤ x ∧ x ≤ 60) ∧ asc xs
instance (xs : List Int) : Decidable (okK xs) := by unfold okK; infer_instance

/-- n ends of rolls of the width s behind the place a -/
def endsI (a s : Int) : Nat → List Int
  | 0 => []
  | n + 1 => endsI a s n ++ [a + (n + 1 : Nat) * s]
def cutsN (ws cs : List Int) : Nat → List Int
  | 0 => []
  | k + 1 => cutsN ws cs k ++ endsI (dotN cs ws k) (ws.getD k 0) (cs.getD k 0).toNat
theorem endsI_length (a s : Int) : ∀ n, (endsI a s n).length = n
  | 0 => rfl
  | n + 1 => by rw [endsI, List.length_append, endsI_length a s n]; rfl
theorem cutsN_length {ws cs : List Int} (h : ∀ x ∈ cs, 0 ≤ x) : ∀ k, k ≤ cs.length → ((cutsN ws cs k).length : Int) = psum cs k
  | 0, _ => by simp [cutsN, psum]
  | k + 1, hk => by
    have ih := cutsN_length (ws := ws) h k (by omega)
    have := h _ (getD_mem (xs := cs) (k := k) (by omega))
    rw [psum_succ (by omega), cutsN, List.length_append, endsI_length]
    omega
/-- the list begins with 0, ascends, and ends with e -/
def Kn (L : List Int) (e : Int) : Prop := asc L ∧ (∀ x ∈ L, 0 ≤ x ∧ x ≤ e) ∧ 0 < L.length ∧ L.getD 0 0 = 0 ∧ L.getD (L.length - 1) 0 = e
theorem Kn.snoc {L : List Int} {e f : Int} (h : Kn L e) (hf : e < f) : Kn (L ++ [f]) f := by
  obtain ⟨h1, h2, h3, h4, h5⟩ := h
  have hl : ∀ j, j < L.length → (L ++ [f]).getD j 0 = L.getD j 0 := fun j hj => by
    rw [List.getD_eq_getElem?_getD, List.getElem?_append_left hj, ← List.getD_eq_getElem?_getD]
  have hr : (L ++ [f]).getD L.length 0 = f := by simp [List.getD_eq_getElem?_getD]
  have he : 0 ≤ e := by have := h2 _ (getD_mem (xs := L) (k := L.length - 1) (by omega)); omega
  refine ⟨fun j hj => ?_, fun x hx => ?_, by simp, by rw [hl 0 h3, h4], by simp [List.getD_eq_getElem?_getD]⟩
  · simp only [List.length_append, List.length_cons, List.length_nil] at hj
    by_cases ej : j + 1 = L.length
    · rw [ej, hr, hl j (by omega), show j = L.length - 1 by omega, h5]
      exact hf
    · rw [hl j (by omega), hl (j + 1) (by omega)]
      exact h1 j (by omega)
  · rcases List.mem_append.1 hx with h | h
    · have := h2 x h; omega
    · simp at h; omega
theorem Kn.ends {L : List Int} {e s : Int} (h : Kn L e) (hs : 0 < s) : ∀ n : Nat, Kn (L ++ endsI e s n) (e + n * s)
  | 0 => by simpa [endsI] using h
  | n + 1 => by
    have ih := Kn.ends h hs n
    rw [endsI, ← List.append_assoc]
    refine ih.snoc ?_
    push_cast
    rw [Int.add_mul]
    omega
theorem Kn.cuts {ws cs : List Int} (hw : ∀ x ∈ ws, 0 < x) (hc : ∀ x ∈ cs, 0 ≤ x) (hl : cs.length = ws.length) : ∀ k, k ≤ cs.length → Kn (0 :: cutsN ws cs k) (dotN cs ws k)
  | 0, _ => by
    refine ⟨fun j hj => by simp [cutsN] at hj, fun x hx => ?_, by simp, rfl, by simp [cutsN, dotN]⟩
    simp [cutsN] at hx
    subst hx
    simp [dotN]
  | k + 1, hk => by
    have ih := Kn.cuts hw hc hl k (by omega)
    have h1 := hw _ (getD_mem (xs := ws) (k := k) (by omega))
    have h2 := hc _ (getD_mem (xs := cs) (k := k) (by omega))
    have := ih.ends h1 (cs.getD k 0).toNat
    rw [Int.toNat_of_nonneg h2] at this
    exact this

def knivesF (width : Int) (ws cs : List Int) : List Int := if okP width ws cs ∧ 1 ≤ cs.sum ∧ cs.sum + 1 ≤ 24 then 0 :: cutsN ws cs cs.length else []
theorem knivesF_len (width : Int) (ws cs : List Int) : (knivesF width ws cs).length ≤ 24 := by
  unfold knivesF
  split
  · next h =>
    have := cutsN_length (ws := ws) (cs := cs) (fun x hx => (h.1.count x hx).1) cs.length (Nat.le_refl _)
    rw [psum_all] at this
    simp only [List.length_cons]
    omega
  · simp
/-- the list with a 0 ahead, if it is not empty -/
def preZ (L : List Int) : List Int := if L = [] then [] else 0 :: L
theorem preZ_snoc (L : List Int) (x : Int) : preZ (L ++ [x]) = (if L = [] then [0] else preZ L) ++ [x] := by
  unfold preZ
  rw [if_neg (by simp)]
  split <;> simp_all
end Go.PR
