/-
  Walks: what is sent, as the reference has it.
-/
import Derived.Test.YthhmaclhggmneaaDoorWSendO
import Derived.Test.YthhmaclhggmneaaDoorWCCom
import Derived.Test.YthhmaclhggmneaaDoorFS
set_option linter.unusedVariables false
namespace Go.Vc
theorem set_take1 {ys : List Int} {m : Nat} (h : m < ys.length) (x : Int) : (ys.set m x).take (m + 1) = ys.take m ++ [x] := by
  rw [List.take_succ_eq_append_getElem (by simpa using h), List.getElem_set_self]
  congr 1
  rw [List.take_set]
  exact List.set_eq_of_length_le (by rw [List.length_take]; exact Nat.min_le_left _ _)
theorem set_drop1 {ys : List Int} {m : Nat} {x : Int} : (ys.set m x).drop (m + 1) = ys.drop (m + 1) := by
  rw [List.drop_set]; simp
theorem drop_at {ys ps : List Int} {m : Nat} (h : ys.drop m = ps.drop m) (h1 : m < ys.length) (h2 : m < ps.length) : ys[m] = ps[m] := by
  rw [drop_cons ys m h1, drop_cons ps m h2] at h
  injection h
theorem drop_more {ys ps : List Int} {m : Nat} (h : ys.drop m = ps.drop m) : ys.drop (m + 1) = ps.drop (m + 1) := by
  rw [← List.drop_drop (i := 1) (j := m), ← List.drop_drop (i := 1) (j := m), h]
end Go.Vc
namespace Go.Proofs.YthhmaclhggmneaaDoor
open Go.RowKit Go.Vc
open Go.Vc.Rep (rd)
open Go.Vc.Own (own)

theorem own_i64s (n : Int) (h : I64 n) (w : World) : Own.own [] w [.int .i64 n] n := ⟨rfl, rfl, h⟩
end Go.Proofs.YthhmaclhggmneaaDoor
