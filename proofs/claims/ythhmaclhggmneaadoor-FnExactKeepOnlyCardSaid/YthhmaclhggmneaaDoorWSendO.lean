/-
  Walks: what is sent, as the program has it.
-/
import Derived.Test.YthhmaclhggmneaaDoorWCTree
import Derived.Test.YthhmaclhggmneaaDoorWPlace
import Derived.Test.YthhmaclhggmneaaDoorWTouch
import Derived.Test.YthhmaclhggmneaaDoorWSend
import Derived.Test.YthhmaclhggmneaaDoorPlCnt
set_option linter.unusedVariables false
namespace Go.Vc
open Go.RowKit
theorem drew_size (w : World) : w.drew.heap.size = w.heap.size := rfl
theorem alloc_size2 (w : World) (o : Obj) : (w.alloc o).heap.size = w.heap.size + 1 := by simp
/-- a row of three cells, all written -/
theorem stored3 {w : World} {E : Nat} {e : TypeId} {u0 u1 u2 : Value} (h : w.heap[E]? = some (.cells #[u0, u1, u2] e (0, 0))) (A B C : Value) :
    (((w.setCell ⟨E, 0, none⟩ A).setCell ⟨E, 1, none⟩ B).setCell ⟨E, 2, none⟩ C).heap[E]? = some (.cells #[A, B, C] e (0, 0)) := by
  have h1 := heap_setCell_same w E 0 _ _ A h
  have h2 := heap_setCell_same _ E 1 _ _ B h1
  have h3 := heap_setCell_same _ E 2 _ _ C h2
  rw [h3]
  rfl
end Go.Vc
namespace Go.Proofs.YthhmaclhggmneaaDoor
open Go.RowKit Go.Vc
open Go.Vc.Rep (rd)
open Go.Vc.Own (own)
theorem repo_texts2 {r : Repo} (h : repoB r = true) : ∀ i : Int, 0 ≤ i → i < (r.commits.length : Int) → (treeAtC r.commits i).length ≤ 1000 ∧ ∀ f, f ∈ treeAtC r.commits i → f.text.length ≤ 10 := fun i h0 h1 => by
  have ht : treeB (treeAtC r.commits i) = true := by
    have hl : i.toNat < r.commits.length := by omega
    unfold treeAtC
    rw [getD_com hl]
    exact repo_tree h hl
  refine ⟨by have := tree_len ht; omega, fun f hf => ?_⟩
  obtain ⟨k, hk, rfl⟩ := List.getElem_of_mem hf
  exact textB_len (tree_file ht hk).2

end Go.Proofs.YthhmaclhggmneaaDoor
