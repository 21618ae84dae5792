/-
  Plain functions: what is sent. No program is in sight here.
-/
import Derived.Test.YthhmaclhggmneaaGreatDoorPlLog
set_option linter.unusedVariables false
namespace Go.Vc
/-- where a number is among others -/
def placeF : List Int → Nat → Int → Int
  | [], _, _ => -1
  | x :: r, k, p => if x = p then (k : Int) else placeF r (k + 1) p
def place (xs : List Int) (p : Int) : Int := placeF xs 0 p
theorem place_hit {xs : List Int} {p M : Int} {k : Nat} (H : M = placeF (xs.drop k) k p) (h : k < xs.length) (he : xs[k] = p) : M = (k : Int) := by
  rw [H, drop_cons xs k h, placeF, if_pos he]
theorem place_next {xs : List Int} {p M : Int} {k : Nat} (H : M = placeF (xs.drop k) k p) (h : k < xs.length) (he : ¬ xs[k] = p) : M = placeF (xs.drop (k + 1)) (k + 1) p := by
  rw [H, drop_cons xs k h, placeF, if_neg he]
theorem place_end {xs : List Int} {p M : Int} {k : Nat} (H : M = placeF (xs.drop k) k p) (h : ¬ k < xs.length) : M = -1 := by
  rw [H, drop_nil xs k h]; rfl
theorem placeF_le : ∀ (xs : List Int) (k : Nat) (p : Int), -1 ≤ placeF xs k p ∧ placeF xs k p < (k + xs.length : Nat)
  | [], k, p => by unfold placeF; omega
  | x :: r, k, p => by
    have ih := placeF_le r (k + 1) p
    unfold placeF
    split
    · simp only [List.length_cons]; omega
    · simp only [List.length_cons]; omega
theorem place_le (xs : List Int) (p : Int) : -1 ≤ place xs p ∧ place xs p < xs.length := by
  have := placeF_le xs 0 p
  unfold place
  omega
theorem placeF_at : ∀ (xs : List Int) (k i : Nat) (p : Int), (∀ (a b : Nat), a < b → b < xs.length → xs[a]? ≠ xs[b]?) → xs[i]? = some p → placeF xs k p = ((k + i : Nat) : Int)
  | [], k, i, p, _, h => by simp at h
  | x :: r, k, 0, p, _, h => by
    simp at h
    rw [placeF, if_pos h]; simp
  | x :: r, k, i + 1, p, hn, h => by
    have hi : i + 1 < (x :: r).length := (List.getElem?_eq_some_iff.1 h).1
    have hne : ¬ x = p := fun e => hn 0 (i + 1) (by omega) hi (by rw [h, ← e]; rfl)
    rw [placeF, if_neg hne, placeF_at r (k + 1) i p (fun a b hab hb => by
      have := hn (a + 1) (b + 1) (by omega) (by simpa using hb)
      simpa using this) (by simpa using h)]
    congr 1; omega
/-- one parent, as it is sent; none: it is neither -/
def sendP (list has : List Int) (p : Int) : Option Int := if 0 ≤ place list p then some (place list p) else if 0 ≤ place has p then some (-1 - place has p) else none
def sendPs (list has : List Int) : List Int → List Int → Option (List Int)
  | acc, [] => some acc
  | acc, p :: ps => match sendP list has p with
    | some q => sendPs list has (acc ++ [q]) ps
    | none => none
def sendG (cs : List Commit) (list has : List Int) : List Commit → List Int → Option (List Commit)
  | out, [] => some out
  | out, i :: is => match sendPs list has [] (cs.getD i.toNat noCommit).parents with
    | some ps => sendG cs list has (out ++ [⟨ps, (cs.getD i.toNat noCommit).who, (cs.getD i.toNat noCommit).tree⟩]) is
    | none => none
def sendO (r : Repo) (has : List Int) (at_ : Int) : Option (List Commit) := if suspB r has at_ = true then sendG r.commits (leftT r.commits at_ has) has [] (leftT r.commits at_ has) else none
def sendL (r : Repo) (has : List Int) (at_ : Int) : List Commit := (sendO r has at_).getD []
def sendB (r : Repo) (has : List Int) (at_ : Int) : Bool := (sendO r has at_).isSome
section
variable {list has acc ps : List Int} {M : Option (List Int)} {k : Nat}
theorem sendPs_end (H : M = sendPs list has acc (ps.drop k)) (h : ¬ k < ps.length) : M = some acc := by rw [H, drop_nil ps k h, sendPs]
theorem sendPs_in (H : M = sendPs list has acc (ps.drop k)) (h : k < ps.length) (h1 : 0 ≤ place list ps[k]) : M = sendPs list has (acc ++ [place list ps[k]]) (ps.drop (k + 1)) := by
  rw [H, drop_cons ps k h, sendPs, sendP, if_pos h1]
theorem sendPs_own (H : M = sendPs list has acc (ps.drop k)) (h : k < ps.length) (h1 : ¬ 0 ≤ place list ps[k]) (h2 : 0 ≤ place has ps[k]) : M = sendPs list has (acc ++ [-1 - place has ps[k]]) (ps.drop (k + 1)) := by
  rw [H, drop_cons ps k h, sendPs, sendP, if_neg h1, if_pos h2]
theorem sendPs_none (H : M = sendPs list has acc (ps.drop k)) (h : k < ps.length) (h1 : ¬ 0 ≤ place list ps[k]) (h2 : ¬ 0 ≤ place has ps[k]) : M = none := by
  rw [H, drop_cons ps k h, sendPs, sendP, if_neg h1, if_neg h2]
end
section
variable {cs out : List Commit} {list has is : List Int} {M : Option (List Commit)} {k : Nat}
theorem sendG_end (H : M = sendG cs list has out (is.drop k)) (h : ¬ k < is.length) : M = some out := by rw [H, drop_nil is k h, sendG]
theorem sendG_next (H : M = sendG cs list has out (is.drop k)) (h : k < is.length) {j : Nat} (hj : is[k] = (j : Int)) (hl : j < cs.length) {ps : List Int} (hp : sendPs list has [] cs[j].parents = some ps) : M = sendG cs list has (out ++ [⟨ps, cs[j].who, cs[j].tree⟩]) (is.drop (k + 1)) := by
  rw [H, drop_cons is k h, sendG, hj, Int.toNat_natCast, getD_com hl, hp]
theorem sendG_none (H : M = sendG cs list has out (is.drop k)) (h : k < is.length) {j : Nat} (hj : is[k] = (j : Int)) (hl : j < cs.length) (hp : sendPs list has [] cs[j].parents = none) : M = none := by
  rw [H, drop_cons is k h, sendG, hj, Int.toNat_natCast, getD_com hl, hp]
end
end Go.Vc
