/-
  Plain functions: which commit wrote each line. No program is in sight here.
-/
import Derived.Test.YthhmaclhggmneaaGreatDoorPlPath
import Derived.Test.YthhmaclhggmneaaGreatDoorPlM
set_option linter.unusedVariables false
namespace Go.Vc
def getT : List File → ByteArray → Option (List ByteArray)
  | [], _ => none
  | f :: r, p => if f.path = p then some f.text else getT r p
theorem getT_hit {t : List File} {p : ByteArray} {k : Nat} {M : Option (List ByteArray)} (H : M = getT (t.drop k) p) (h : k < t.length) (he : t[k].path = p) : M = some t[k].text := by
  rw [H, drop_cons t k h, getT, if_pos he]
theorem getT_next {t : List File} {p : ByteArray} {k : Nat} {M : Option (List ByteArray)} (H : M = getT (t.drop k) p) (h : k < t.length) (he : ¬ t[k].path = p) : M = getT (t.drop (k + 1)) p := by
  rw [H, drop_cons t k h, getT, if_neg he]
theorem getT_end {t : List File} {p : ByteArray} {k : Nat} {M : Option (List ByteArray)} (H : M = getT (t.drop k) p) (h : ¬ k < t.length) : M = none := by
  rw [H, drop_nil t k h]; rfl
theorem getT_mem : ∀ {t : List File} {p : ByteArray} {x : List ByteArray}, getT t p = some x → ∃ f, f ∈ t ∧ f.path = p ∧ f.text = x
  | [], _, _, h => by simp [getT] at h
  | f :: r, p, x, h => by
    rw [getT] at h
    split at h
    · rename_i e
      exact ⟨f, List.mem_cons_self .., e, Option.some.inj h⟩
    · obtain ⟨g, hg, r'⟩ := getT_mem h
      exact ⟨g, List.mem_cons_of_mem _ hg, r'⟩
/-- lines that are matched are as they were -/
def putB (before : List Int) : List Int → List Int → Nat → List Int
  | out, [], _ => out
  | out, m :: ms, i => putB before (if 0 ≤ m then out.set m.toNat (before.getD i 0) else out) ms (i + 1)
theorem putB_len (before : List Int) : ∀ (ms out : List Int) (i : Nat), (putB before out ms i).length = out.length
  | [], _, _ => rfl
  | m :: ms, out, i => by
    rw [putB, putB_len before ms]
    split <;> simp
theorem putB_in {before out ms : List Int} {k : Nat} {M : List Int} (H : M = putB before out (ms.drop k) k) (h : k < ms.length) {n : Nat} (hn : ms[k] = (n : Int)) (hb : k < before.length) : M = putB before (out.set n before[k]) (ms.drop (k + 1)) (k + 1) := by
  rw [H, drop_cons ms k h, putB, hn, if_pos (by omega), Int.toNat_natCast]
  congr 2
  simp [List.getD, hb]
theorem putB_no {before out ms : List Int} {k : Nat} {M : List Int} (H : M = putB before out (ms.drop k) k) (h : k < ms.length) (hn : ms[k] = -1) : M = putB before out (ms.drop (k + 1)) (k + 1) := by
  rw [H, drop_cons ms k h, putB, hn, if_neg (by omega)]
theorem putB_end {before out ms : List Int} {k : Nat} {M : List Int} (H : M = putB before out (ms.drop k) k) (h : ¬ k < ms.length) : M = out := by
  rw [H, drop_nil ms k h, putB]
def blameF (cs : List Commit) (path : ByteArray) : Nat → Int → Option (List Int)
  | 0, _ => none
  | n + 1, at_ => match getT (treeAtC cs at_) path with
    | none => none
    | some text => match (cs.getD at_.toNat noCommit).parents with
      | [] => some (List.replicate text.length at_)
      | p :: _ => match getT (treeAtC cs p) path with
        | none => some (List.replicate text.length at_)
        | some old => some (putB ((blameF cs path n p).getD []) (List.replicate text.length at_) (matchT old text) 0)
section
variable {cs : List Commit} {path : ByteArray} {n : Nat} {at_ : Int} {text : List ByteArray}
theorem blame_none (h : getT (treeAtC cs at_) path = none) : blameF cs path (n + 1) at_ = none := by rw [blameF, h]
theorem blame_root (h : getT (treeAtC cs at_) path = some text) (h2 : (cs.getD at_.toNat noCommit).parents = []) : blameF cs path (n + 1) at_ = some (List.replicate text.length at_) := by
  rw [blameF, h, h2]
theorem blame_new {p : Int} {ps : List Int} (h : getT (treeAtC cs at_) path = some text) (h2 : (cs.getD at_.toNat noCommit).parents = p :: ps) (h3 : getT (treeAtC cs p) path = none) : blameF cs path (n + 1) at_ = some (List.replicate text.length at_) := by
  rw [blameF, h, h2]
  simp only [h3]
theorem blame_old {p : Int} {ps : List Int} {old : List ByteArray} (h : getT (treeAtC cs at_) path = some text) (h2 : (cs.getD at_.toNat noCommit).parents = p :: ps) (h3 : getT (treeAtC cs p) path = some old) : blameF cs path (n + 1) at_ = some (putB ((blameF cs path n p).getD []) (List.replicate text.length at_) (matchT old text) 0) := by
  rw [blameF, h, h2]
  simp only [h3]
theorem blame_len {l : List Int} (h : blameF cs path n at_ = some l) : ∃ t, getT (treeAtC cs at_) path = some t ∧ l.length = t.length := by
  cases n with
  | zero => simp [blameF] at h
  | succ n =>
    cases ht : getT (treeAtC cs at_) path with
    | none => rw [blame_none ht] at h; cases h
    | some text =>
      refine ⟨text, rfl, ?_⟩
      cases hp : (cs.getD at_.toNat noCommit).parents with
      | nil => rw [blame_root ht hp] at h; rw [← Option.some.inj h]; simp
      | cons p ps =>
        cases ho : getT (treeAtC cs p) path with
        | none => rw [blame_new ht hp ho] at h; rw [← Option.some.inj h]; simp
        | some old => rw [blame_old ht hp ho] at h; rw [← Option.some.inj h, putB_len]; simp
theorem blame_some (ht : getT (treeAtC cs at_) path = some text) : ∃ l, blameF cs path (n + 1) at_ = some l ∧ l.length = text.length := by
  cases hb : blameF cs path (n + 1) at_ with
  | none =>
    cases hp : (cs.getD at_.toNat noCommit).parents with
    | nil => rw [blame_root ht hp] at hb; cases hb
    | cons p ps =>
      cases ho : getT (treeAtC cs p) path with
      | none => rw [blame_new ht hp ho] at hb; cases hb
      | some old => rw [blame_old ht hp ho] at hb; cases hb
  | some l =>
    obtain ⟨t, h1, h2⟩ := blame_len hb
    rw [ht] at h1
    obtain rfl := Option.some.inj h1
    exact ⟨l, rfl, h2⟩
end
def blameOf (r : Repo) (at_ : Int) (path : ByteArray) : List Int := if (repoB r && anyB r.commits.length [at_]) = true then (blameF r.commits path r.commits.length at_).getD [] else []
theorem tree_text {t : List File} (h : treeB t = true) {p : ByteArray} {x : List ByteArray} (hx : getT t p = some x) : textB x = true := by
  obtain ⟨f, hf, _, rfl⟩ := getT_mem hx
  obtain ⟨k, hk, rfl⟩ := List.getElem_of_mem hf
  unfold treeB at h
  rw [Bool.and_eq_true] at h
  exact (treeAt_path hk (of_decide_eq_true h.2 k hk)).2
end Go.Vc
