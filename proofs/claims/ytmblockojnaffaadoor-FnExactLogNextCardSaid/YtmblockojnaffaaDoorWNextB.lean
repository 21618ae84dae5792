/-
  Walks: the commit that is looked at next.
-/
import Derived.Test.YtmblockojnaffaaDoorWSend
import Derived.Test.YtmblockojnaffaaDoorPlNext
import Derived.Deep.RegionHeld3
set_option linter.unusedVariables false
namespace Go.Proofs.YtmblockojnaffaaDoor
open Go.RowKit Go.Vc
open Go.Vc.Rep (rd)
open Go.Vc.Own (own)
theorem alloc_size (w : World) (o : Obj) : (w.alloc o).heap.size = w.heap.size + 1 := by simp
theorem fresh_empty1 (w : World) : Fresh w.heap.size (w.heap.size + 1) (w.drew.alloc (.cells #[] (Tid.tid Int))) [.slice (some ⟨w.heap.size, 0, none⟩) 0 0] ([] : List Int) := Fresh.empty (β := Int) Nat.one_pos w.drew.heap.size w.drew (Nat.le_refl _)
theorem fresh_empty2 (w : World) (o : Obj) : Fresh (w.heap.size + 1) (w.heap.size + 2) ((w.drew.alloc o).alloc (.cells #[] (Tid.tid Int))) [.slice (some ⟨w.heap.size + 1, 0, none⟩) 0 0] ([] : List Int) := by
  have h := Fresh.empty (β := Int) Nat.one_pos (w.drew.alloc o).heap.size (w.drew.alloc o) (Nat.le_refl _)
  rw [alloc_size] at h
  exact h
theorem lit_at1 (w : World) (o1 o2 : Obj) : ((w.drew.alloc o1).alloc o2).heap[w.heap.size + 1]? = some o2 := by
  have h := heap_alloc_new (w.drew.alloc o1) o2
  rw [alloc_size] at h
  exact h
theorem lit_at0 (w : World) (o1 o2 : Obj) : ((w.drew.alloc o1).alloc o2).heap[w.heap.size]? = some o1 := by
  have h := heap_alloc_new w.drew o1
  have h2 := Below.heap_alloc (w.drew.alloc o1) o2 w.drew.heap.size (by rw [alloc_size]; omega)
  exact h2.trans h
def logNext (r : Repo) (good : List Int) (bad : Int) : Int := (nextF r.commits good bad (-1, 0) (logLeft r good bad)).1
theorem logLeft_mem {r : Repo} {xs : List Int} {at_ x : Int} (h : x ∈ logLeft r xs at_) : suspB r xs at_ = true ∧ 0 ≤ x ∧ x < (r.commits.length : Int) := by
  unfold logLeft at h
  split at h
  · rename_i hs
    have := allOf_mem (List.mem_filter.1 h).1
    exact ⟨hs, this⟩
  · cases h
end Go.Proofs.YtmblockojnaffaaDoor
