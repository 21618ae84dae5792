/-
  Rows of rows: a row read, a place of a row set. No program is in sight here.
-/
import Derived.Test.YthhmaclhggmneaaDoorVB
set_option linter.unusedVariables false
namespace Go.Vc
open Go.RowKit
open Rep (rd)
open Own (own)

section
variable {α : Type} {w : World}
theorem IsSlice.row [Rep α] {S : Nat → Prop} {a : Option Addr} {cap : Nat} {xs : List (List α)} (h : IsSlice S w a cap xs) {i : Nat} (hi : i < xs.length) :
    ∃ g off b n, a = some ⟨g, off, none⟩ ∧ w.cell? ⟨g, off + i, none⟩ = some (.slice b xs[i].length n) ∧ IsSlice S w b n xs[i] := by
  obtain ⟨g, off, us, h1, _, h3, b, n, rfl, h5⟩ := h.elem hi
  exact ⟨g, off, b, n, h1, by have := h3 0 _ rfl; simpa [Rep.sz] using this, h5⟩
/-- out[i][j] = v -/
theorem Fresh.set2 [Own α] [Tid α] [Leaf α] [Tid (List α)] (hz : Rep.sz α = 1) {B m g n cap : Nat} {xs : List (List α)} (h : Fresh B m w [.slice (some ⟨g, 0, none⟩) n cap] xs) (hB : B ≤ w.heap.size) {i : Nat} (hi : i < xs.length) {j : Nat} (hj : j < xs[i].length)
    {b : Option Addr} {ni ci : Nat} (hc : w.cell? ⟨g, i, none⟩ = some (.slice b ni ci)) {u : Value} {y : α} (hy : ∀ w', own [] w' [u] y) :
    ∃ gi, b = some ⟨gi, 0, none⟩ ∧ (∃ u', w.cell? ⟨gi, j, none⟩ = some u') ∧ w.frozen? ⟨gi, j, none⟩ = false ∧ B ≤ gi ∧
      Fresh B (w.setCell ⟨gi, j, none⟩ u).heap.size (w.setCell ⟨gi, j, none⟩ u) [.slice (some ⟨g, 0, none⟩) n cap] (xs.set i (xs[i].set j y)) := by
  obtain ⟨F, ho, hn, hb⟩ := h
  obtain ⟨Fl, lv, hcell, hol, hnl, hsub, hback⟩ := own_callf (lens_self (β := List α) rfl) ho hn hi
  have hcc : w.cell? ⟨g, i, none⟩ = some lv := by rw [← hcell]; congr 2; show i = i * 1 + 0; omega
  have hlv : lv = .slice b ni ci := by rw [hc] at hcc; simpa using hcc.symm
  subst hlv
  obtain ⟨gi, rfl, hgF⟩ := own_addr hol (Nat.lt_of_le_of_lt (Nat.zero_le j) hj)
  obtain ⟨⟨u', hu'⟩, hfz, _, F', ho', hn', hof⟩ := own_setf (lens_self hz) hol hnl hj hy
  rw [show j * Rep.sz α + 0 = j by rw [hz]; omega] at hu' hfz ho'
  have hS : Still Fl w (w.setCell ⟨gi, j, none⟩ u) [.slice (some ⟨gi, 0, none⟩) ni ci] (xs[i].set j y) := ⟨F', ho', hn', hof, (TouchF.refl _ _).setCell (.inl hgF) u⟩
  obtain ⟨FF, hoF, hnF, hofF, _⟩ := hback _ _ hS
  refine ⟨gi, rfl, ⟨u', hu'⟩, hfz, (hb gi (hsub gi hgF)).1, FF, hoF, hnF, fun k hk => ⟨?_, Own.lt hoF k hk⟩⟩
  rcases hofF k hk with h | h
  · exact (hb k h).1
  · omega
end
end Go.Vc
