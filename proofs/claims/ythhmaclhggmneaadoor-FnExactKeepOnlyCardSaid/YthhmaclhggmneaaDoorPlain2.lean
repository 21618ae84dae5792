/-
  Plain functions: deltas. No program is in sight here.
-/
import Derived.Test.YthhmaclhggmneaaDoorVA
namespace Go.Vc

def pieceB (d : Delta) : Bool :=
  if 0 < d.lines.length then decide (d.fr = 0) && decide (d.many = 0) && textB d.lines else withinB d.fr 0 10 && withinB d.many 1 (10 - d.fr)
def deltaB (xs : List Delta) : Bool := decide (xs.length ≤ 10) && xs.all pieceB
theorem piece1 {d : Delta} (h : 0 < d.lines.length) (h1 : d.fr = 0) (h2 : d.many = 0) : pieceB d = textB d.lines := by
  rw [pieceB, if_pos h]; simp [h1, h2]
theorem piece1a {d : Delta} (h : 0 < d.lines.length) (h1 : ¬ d.fr = 0) : pieceB d = false := by rw [pieceB, if_pos h]; simp [h1]
theorem piece1b {d : Delta} (h : 0 < d.lines.length) (h1 : ¬ d.many = 0) : pieceB d = false := by rw [pieceB, if_pos h]; simp [h1]
theorem piece2 {d : Delta} (h : ¬ 0 < d.lines.length) : pieceB d = (withinB d.fr 0 10 && withinB d.many 1 (10 - d.fr)) := by rw [pieceB, if_neg h]
theorem withinB_iff (n lo hi : Int) : withinB n lo hi = true ↔ lo ≤ n ∧ n ≤ hi := by simp [withinB]
theorem withinB_not (n lo hi : Int) : withinB n lo hi = false ↔ ¬ (lo ≤ n ∧ n ≤ hi) := by
  rw [← withinB_iff]; simp
theorem text_nil : textB [] = true := rfl
/-- what the reference asks of a piece -/
theorem piece_iff (d : Delta) : pieceB d = true ↔ (0 ≤ d.fr ∧ d.fr ≤ 10) ∧ (0 ≤ d.many ∧ d.many ≤ 10 - d.fr) ∧ textB d.lines = true ∧ (0 < d.many ↔ ¬ 0 < d.lines.length) ∧ (d.many = 0 → d.fr = 0) := by
  by_cases h : 0 < d.lines.length
  · rw [pieceB, if_pos h]
    simp only [Bool.and_eq_true, decide_eq_true_eq]
    constructor
    · rintro ⟨⟨h1, h2⟩, h3⟩
      exact ⟨by omega, by omega, h3, by constructor <;> omega, fun _ => h1⟩
    · rintro ⟨h1, h2, h3, h4, h5⟩
      have : ¬ 0 < d.many := fun hm => (h4.1 hm) h
      exact ⟨⟨h5 (by omega), by omega⟩, h3⟩
  · rw [piece2 h]
    simp only [Bool.and_eq_true, withinB_iff]
    have hl : d.lines = [] := List.eq_nil_of_length_eq_zero (by omega)
    constructor
    · rintro ⟨h1, h2⟩
      exact ⟨h1, by omega, by rw [hl]; rfl, by constructor <;> omega, fun hm => by omega⟩
    · rintro ⟨h1, h2, h3, h4, h5⟩
      have := h4.2 h
      exact ⟨h1, by omega, h2.2⟩
end Go.Vc
