/-
  Walks: the laws' own helpers on [][]string.
-/
import Derived.Test.YthhmaclhggmneaaDoorVD
import Derived.Test.YthhmaclhggmneaaDoorVF
set_option linter.unusedVariables false
namespace Go.Proofs.YthhmaclhggmneaaDoor
open Go.RowKit Go.Vc
open Go.Vc.Rep (rd)
open Go.Vc.Own (own)

theorem elem_SS {S : Nat → Prop} {w : World} {a : Option Addr} {cap : Nat} {xs : List (List ByteArray)} (h : IsSlice S w a cap xs) {i : Nat} (hi : i < xs.length) :
    ∃ g off b n, a = some ⟨g, off, none⟩ ∧ w.cell? ⟨g, off + i, none⟩ = some (.slice b xs[i].length n) ∧ IsSlice S w b n xs[i] := by
  obtain ⟨g, off, us, h1, _, h3, b, n, rfl, h5⟩ := h.elem hi
  exact ⟨g, off, b, n, h1, by have := h3 0 _ rfl; simpa [Rep.sz] using this, h5⟩

abbrev bulk_SS (xs : List (List ByteArray)) : Nat := bulkL bulk_S xs
abbrev cnt_SS (xs : List (List ByteArray)) : Nat := bsum cnt_S xs
abbrev marks_SS (k : Int) (xs : List (List ByteArray)) : List (List ByteArray) := marksL marks_S cnt_S k xs
theorem cnt_SS_le (xs : List (List ByteArray)) : cnt_SS xs ≤ 4 * bulk_SS xs := bsum_le (fun d => by have := cnt_S_le d; omega) xs
theorem marks_SS_len (k : Int) (xs : List (List ByteArray)) : (marks_SS k xs).length = xs.length := marksL_len _ _ _ _
end Go.Proofs.YthhmaclhggmneaaDoor
