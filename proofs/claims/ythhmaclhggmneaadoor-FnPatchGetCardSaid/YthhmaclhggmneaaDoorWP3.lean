/-
  Walks: patches put in, as the reference does.
-/
import Derived.Test.YthhmaclhggmneaaDoorWP2
set_option linter.unusedVariables false
namespace Go.Proofs.YthhmaclhggmneaaDoor
open Go.RowKit Go.Vc
open Go.Vc.Rep (rd)
open Go.Vc.Own (own)

theorem keepB {B : Nat} {w w' : World} {p : Addr} {v : Value} (h : w.cell? p = some v) (hb : Below B w w') (hp : p.block < B) : w'.cell? p = some v := by
  rw [hb.cell (p := p) hp]; exact h
theorem block_of {α : Type} [Rep α] {B : Nat} {w : World} {a : Option Addr} {cap : Nat} {xs : List α} (h : IsSlice (fun b => b < B) w a cap xs) {i : Nat} (hi : i < xs.length) {g off : Nat} (e : a = some ⟨g, off, none⟩) : g < B := by
  obtain ⟨g', off', us, h1, h2, _⟩ := h.elem hi
  rw [e] at h1
  simp only [Option.some.injEq, Addr.mk.injEq, and_true] at h1
  rw [h1.1]; exact h2

end Go.Proofs.YthhmaclhggmneaaDoor
