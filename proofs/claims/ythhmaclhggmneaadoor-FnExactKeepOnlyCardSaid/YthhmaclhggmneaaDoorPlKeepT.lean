/-
  Plain functions: all different texts of a repository. No program is in sight here.
-/
import Derived.Test.YthhmaclhggmneaaDoorPlLog
set_option linter.unusedVariables false
namespace Go.Vc
def hasT (out : List (List ByteArray)) (t : List ByteArray) : Bool := out.any fun x => decide (x = t)
def addT (out : List (List ByteArray)) (t : List ByteArray) : List (List ByteArray) := if hasT out t = true then out else out ++ [t]
def addF (out : List (List ByteArray)) (fs : List File) : List (List ByteArray) := fs.foldl (fun o f => addT o f.text) out
def addC (out : List (List ByteArray)) (cs : List Commit) : List (List ByteArray) := cs.foldl (fun o c => addF o c.tree) out
theorem hasT_hit {out : List (List ByteArray)} {t : List ByteArray} {k : Nat} (H : hasT out t = hasT (out.drop k) t) (h : k < out.length) (he : out[k] = t) : hasT out t = true := by
  rw [H, drop_cons out k h, hasT, List.any_cons, decide_eq_true he]; rfl
theorem hasT_next {out : List (List ByteArray)} {t : List ByteArray} {k : Nat} (H : hasT out t = hasT (out.drop k) t) (h : k < out.length) (he : ¬ out[k] = t) : hasT out t = hasT (out.drop (k + 1)) t := by
  rw [H, drop_cons out k h, hasT, List.any_cons, decide_eq_false he, Bool.false_or]; rfl
theorem hasT_end {out : List (List ByteArray)} {t : List ByteArray} {k : Nat} (H : hasT out t = hasT (out.drop k) t) (h : ¬ k < out.length) : hasT out t = false := by
  rw [H, drop_nil out k h]; rfl
/-- the same, with what was found so far -/
theorem hasO_next {out : List (List ByteArray)} {t : List ByteArray} {l : Bool} {k : Nat} (H : hasT out t = (l || hasT (out.drop k) t)) (h : k < out.length) : hasT out t = ((l || decide (out[k] = t)) || hasT (out.drop (k + 1)) t) := by
  rw [H, drop_cons out k h, hasT, List.any_cons, Bool.or_assoc]; rfl
theorem hasO_end {out : List (List ByteArray)} {t : List ByteArray} {l : Bool} {k : Nat} (H : hasT out t = (l || hasT (out.drop k) t)) (h : ¬ k < out.length) : hasT out t = l := by
  rw [H, drop_nil out k h]; simp [hasT]
theorem addF_cons (out : List (List ByteArray)) (f : File) (fs : List File) : addF out (f :: fs) = addF (addT out f.text) fs := rfl
theorem addC_cons (out : List (List ByteArray)) (c : Commit) (cs : List Commit) : addC out (c :: cs) = addC (addF out c.tree) cs := rfl
theorem addF_next {M out : List (List ByteArray)} {fs : List File} {k : Nat} (H : M = addF out (fs.drop k)) (h : k < fs.length) : M = addF (addT out fs[k].text) (fs.drop (k + 1)) := by rw [H, drop_cons fs k h, addF_cons]
theorem addF_end {M out : List (List ByteArray)} {fs : List File} {k : Nat} (H : M = addF out (fs.drop k)) (h : ¬ k < fs.length) : M = out := by rw [H, drop_nil fs k h]; rfl
theorem addC_next {M out : List (List ByteArray)} {cs : List Commit} {k : Nat} (H : M = addC out (cs.drop k)) (h : k < cs.length) : M = addC (addF out cs[k].tree) (cs.drop (k + 1)) := by rw [H, drop_cons cs k h, addC_cons]
theorem addC_end {M out : List (List ByteArray)} {cs : List Commit} {k : Nat} (H : M = addC out (cs.drop k)) (h : ¬ k < cs.length) : M = out := by rw [H, drop_nil cs k h]; rfl
theorem addT_t {out : List (List ByteArray)} {t : List ByteArray} (h : hasT out t = true) : addT out t = out := by unfold addT; rw [if_pos h]
theorem addT_f {out : List (List ByteArray)} {t : List ByteArray} (h : hasT out t = false) : addT out t = out ++ [t] := by unfold addT; rw [if_neg (by rw [h]; simp)]
def allTexts (r : Repo) : List (List ByteArray) := addC [] r.commits
def keepTB (r : Repo) : Bool := repoB r && decide ((allTexts r).length ≤ 12)
def keepTexts (r : Repo) : List (List ByteArray) := if keepTB r = true then allTexts r else []
theorem addT_len (out : List (List ByteArray)) (t : List ByteArray) : (addT out t).length ≤ out.length + 1 := by
  unfold addT
  split <;> simp
theorem tree_len {t : List File} (h : treeB t = true) : t.length ≤ 8 := by
  unfold treeB at h
  rw [Bool.and_eq_true, decide_eq_true_eq] at h
  exact h.1
theorem tree_file {t : List File} (h : treeB t = true) {k : Nat} (hk : k < t.length) : pathB t[k].path = true ∧ textB t[k].text = true := by
  unfold treeB at h
  rw [Bool.and_eq_true] at h
  exact treeAt_path hk (of_decide_eq_true h.2 k hk)
/-- every text is one of a file -/
theorem addF_mem {P : List ByteArray → Prop} : ∀ (fs : List File) (out : List (List ByteArray)), (∀ t, t ∈ out → P t) → (∀ f, f ∈ fs → P f.text) → ∀ t, t ∈ addF out fs → P t
  | [], out, h, _ => h
  | f :: fs, out, h, hf => by
    rw [addF_cons]
    refine addF_mem fs _ (fun t ht => ?_) fun g hg => hf g (List.mem_cons_of_mem _ hg)
    unfold addT at ht
    split at ht
    · exact h t ht
    · rcases List.mem_append.1 ht with ht | ht
      · exact h t ht
      · rw [List.mem_singleton] at ht
        rw [ht]
        exact hf f (List.mem_cons_self ..)
theorem addC_mem {P : List ByteArray → Prop} : ∀ (cs : List Commit) (out : List (List ByteArray)), (∀ t, t ∈ out → P t) → (∀ c, c ∈ cs → ∀ f, f ∈ c.tree → P f.text) → ∀ t, t ∈ addC out cs → P t
  | [], out, h, _ => h
  | c :: cs, out, h, hf => by
    rw [addC_cons]
    exact addC_mem cs _ (addF_mem c.tree out h (hf c (List.mem_cons_self ..))) fun d hd => hf d (List.mem_cons_of_mem _ hd)
end Go.Vc
