/-
  Plain functions: who owns a path. No program is in sight here.
-/
import Derived.Test.YtfpneepnnoldeaaDoorPlOw
import Derived.Test.YtfpneepnnoldeaaDoorVH
set_option linter.unusedVariables false
namespace Go.Vc
def ownsB (path : ByteArray) (o : Owner) : Bool := decide (o.path = path) || inB o.path path
def bestG (path : ByteArray) : ByteArray → Nat → List Owner → ByteArray
  | who, _, [] => who
  | who, long, o :: r => if (ownsB path o && decide (long < o.path.size)) = true then bestG path o.who o.path.size r else bestG path who long r
def ownerOf (xs : List Owner) (path : ByteArray) : ByteArray := if (ownersB xs && pathB path) = true then bestG path ⟨#[]⟩ 0 xs else ⟨#[]⟩
section
variable {path who M : ByteArray} {long k : Nat} {xs : List Owner}
theorem best_more (H : M = bestG path who long (xs.drop k)) (h : k < xs.length) (h1 : ownsB path xs[k] = true) (h2 : long < xs[k].path.size) : M = bestG path xs[k].who xs[k].path.size (xs.drop (k + 1)) := by
  rw [H, drop_cons xs k h, bestG, if_pos (by rw [h1, decide_eq_true h2]; rfl)]
theorem best_not (H : M = bestG path who long (xs.drop k)) (h : k < xs.length) (h1 : ownsB path xs[k] = false) : M = bestG path who long (xs.drop (k + 1)) := by
  rw [H, drop_cons xs k h, bestG, if_neg (by rw [h1]; simp)]
theorem best_less (H : M = bestG path who long (xs.drop k)) (h : k < xs.length) (h2 : ¬ long < xs[k].path.size) : M = bestG path who long (xs.drop (k + 1)) := by
  rw [H, drop_cons xs k h, bestG, if_neg (by rw [decide_eq_false h2]; simp)]
theorem best_end (H : M = bestG path who long (xs.drop k)) (h : ¬ k < xs.length) : M = who := by
  rw [H, drop_nil xs k h, bestG]
end
theorem owners_paths {xs : List Owner} (h : ownersB xs = true) {k : Nat} (hk : k < xs.length) : pathB xs[k].path = true := by
  unfold ownersB ownAll5 at h
  rw [Bool.and_eq_true] at h
  have := of_decide_eq_true h.2 k hk
  unfold ownAt at this
  rw [getD_own hk] at this
  simp only [Bool.and_eq_true] at this
  exact this.1.1
theorem owner_yes {xs : List Owner} {path : ByteArray} (h : ownersB xs = true) (h2 : pathB path = true) : ownerOf xs path = bestG path ⟨#[]⟩ 0 xs := if_pos (by rw [h, h2]; rfl)
theorem owner_no1 {xs : List Owner} {path : ByteArray} (h : ownersB xs = false) : ownerOf xs path = ⟨#[]⟩ := if_neg (by rw [h]; simp)
theorem owner_no2 {xs : List Owner} {path : ByteArray} (h : pathB path = false) : ownerOf xs path = ⟨#[]⟩ := if_neg (by rw [h]; simp)
end Go.Vc
