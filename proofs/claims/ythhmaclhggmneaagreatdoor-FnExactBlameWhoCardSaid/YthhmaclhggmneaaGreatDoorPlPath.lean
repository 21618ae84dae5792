/-
  Plain functions: what is at a path, and whether a commit changes it. No program is in sight here.
-/
import Derived.Test.YthhmaclhggmneaaGreatDoorPlLog
set_option linter.unusedVariables false
namespace Go.Vc
def whoB (cs : List Commit) (who : ByteArray) (i : Int) : Bool := decide ((cs.getD i.toNat noCommit).who = who)
theorem rev_yes {α : Type} {P : α → Bool} {M ol ls : List α} {j : Nat} (H : M = ol ++ ((ls.take (j + 1)).filter P).reverse) (h : j < ls.length) (hp : P ls[j] = true) : M = (ol ++ [ls[j]]) ++ ((ls.take j).filter P).reverse := by
  rw [H, List.take_succ_eq_append_getElem h, List.filter_append, List.filter_cons_of_pos hp, List.filter_nil, List.reverse_append, List.append_assoc]; rfl
theorem rev_no {α : Type} {P : α → Bool} {M ol ls : List α} {j : Nat} (H : M = ol ++ ((ls.take (j + 1)).filter P).reverse) (h : j < ls.length) (hp : P ls[j] = false) : M = ol ++ ((ls.take j).filter P).reverse := by
  rw [H, List.take_succ_eq_append_getElem h, List.filter_append, List.filter_cons_of_neg (by rw [hp]; simp), List.filter_nil, List.append_nil]
theorem rev_end {α : Type} {P : α → Bool} {M ol ls : List α} (H : M = ol ++ ((ls.take 0).filter P).reverse) : M = ol := by
  rw [H]; simp
def isAtB (path p : ByteArray) : Bool := decide (p = path) || inB path p
def underT (t : List File) (path : ByteArray) : List File := t.filter fun f => isAtB path f.path
def treeAtC (cs : List Commit) (i : Int) : List File := (cs.getD i.toNat noCommit).tree
/-- none of these has the same at the path -/
def apartC (cs : List Commit) (path : ByteArray) (own : List File) (ps : List Int) : Bool := ps.all fun p => !decide (own = underT (treeAtC cs p) path)
def touchB (cs : List Commit) (path : ByteArray) (i : Int) : Bool :=
  if (cs.getD i.toNat noCommit).parents.length = 0 then decide (0 < (underT (treeAtC cs i) path).length) else apartC cs path (underT (treeAtC cs i) path) (cs.getD i.toNat noCommit).parents
theorem apart_hit {cs : List Commit} {path : ByteArray} {own : List File} {ps : List Int} {k : Nat} (H : apartC cs path own ps = apartC cs path own (ps.drop k)) (h : k < ps.length) (he : own = underT (treeAtC cs ps[k]) path) : apartC cs path own ps = false := by
  rw [H, drop_cons ps k h, apartC, List.all_cons, decide_eq_true he]; rfl
theorem apart_next {cs : List Commit} {path : ByteArray} {own : List File} {ps : List Int} {k : Nat} (H : apartC cs path own ps = apartC cs path own (ps.drop k)) (h : k < ps.length) (he : ¬ own = underT (treeAtC cs ps[k]) path) : apartC cs path own ps = apartC cs path own (ps.drop (k + 1)) := by
  rw [H, drop_cons ps k h, apartC, List.all_cons, decide_eq_false he]; rfl
theorem apart_end {cs : List Commit} {path : ByteArray} {own : List File} {ps : List Int} {k : Nat} (H : apartC cs path own ps = apartC cs path own (ps.drop k)) (h : ¬ k < ps.length) : apartC cs path own ps = true := by
  rw [H, drop_nil ps k h]; rfl
end Go.Vc
