/-
  Plain functions: what changed between two trees. No program is in sight here.
-/
import Derived.Test.YtegknjcifmenpaaDoorPlTM
import Derived.Test.YtegknjcifmenpaaDoorPlD
import Derived.Test.YtegknjcifmenpaaDoorVP1
set_option linter.unusedVariables false
namespace Go.Vc
def goesTo (out : List Change) (p : ByteArray) : Bool := out.any fun c => decide (c.dst = p)
/-- whether a file of the second tree may be where one of the first went -/
def mayB (a : List File) (out : List Change) (x : List ByteArray) (g : File) : Bool := (getT a g.path).isNone && decide (g.text = x) && !goesTo out g.path
def chTo (a b : List File) (out : List Change) (x : List ByteArray) : Option File := b.find? (mayB a out x)
def chOne (a b : List File) (out : List Change) (f : File) : List Change :=
  match getT b f.path with
  | some x => if x = f.text then out else out ++ [⟨3, f.path, ⟨#[]⟩, [], diffT f.text x⟩]
  | none => match chTo a b out f.text with
    | some g => out ++ [⟨4, f.path, g.path, [], []⟩]
    | none => out ++ [⟨2, f.path, ⟨#[]⟩, f.text, []⟩]
def chA (a b : List File) (fs : List File) (out : List Change) : List Change := fs.foldl (chOne a b) out
/-- whether a file of the second tree is new -/
def newB (a : List File) (out : List Change) (g : File) : Bool := (getT a g.path).isNone && !goesTo out g.path
def chB (a : List File) (out : List Change) (fs : List File) : List Change := (fs.filter (newB a out)).map fun g => ⟨1, g.path, ⟨#[]⟩, g.text, []⟩
def chT (a b : List File) : List Change := chA a b a [] ++ chB a (chA a b a []) b
def changesOf (a b : List File) : List Change := if treeB a = true ∧ treeB b = true then chT a b else []
section
variable {a b fs : List File} {R out : List Change} {k : Nat}
theorem chA_edit (H : R = chA a b (fs.drop k) out) (hk : k < fs.length) {x : List ByteArray} (hg : getT b fs[k].path = some x) (h : ¬ x = fs[k].text) : R = chA a b (fs.drop (k + 1)) (out ++ [⟨3, fs[k].path, ⟨#[]⟩, [], diffT fs[k].text x⟩]) := by
  rw [H, drop_cons fs k hk, chA, List.foldl_cons, chOne, hg]
  simp only [if_neg h]; rfl
theorem chA_same (H : R = chA a b (fs.drop k) out) (hk : k < fs.length) (hg : getT b fs[k].path = some fs[k].text) : R = chA a b (fs.drop (k + 1)) out := by
  rw [H, drop_cons fs k hk, chA, List.foldl_cons, chOne, hg]
  simp only [if_true]; rfl
theorem chA_move (H : R = chA a b (fs.drop k) out) (hk : k < fs.length) (hg : getT b fs[k].path = none) {g : File} (ht : chTo a b out fs[k].text = some g) : R = chA a b (fs.drop (k + 1)) (out ++ [⟨4, fs[k].path, g.path, [], []⟩]) := by
  rw [H, drop_cons fs k hk, chA, List.foldl_cons, chOne, hg]
  simp only [ht]; rfl
theorem chA_drop (H : R = chA a b (fs.drop k) out) (hk : k < fs.length) (hg : getT b fs[k].path = none) (ht : chTo a b out fs[k].text = none) : R = chA a b (fs.drop (k + 1)) (out ++ [⟨2, fs[k].path, ⟨#[]⟩, fs[k].text, []⟩]) := by
  rw [H, drop_cons fs k hk, chA, List.foldl_cons, chOne, hg]
  simp only [ht]; rfl
theorem chA_end (H : R = chA a b (fs.drop k) out) (hk : ¬ k < fs.length) : R = out := by rw [H, drop_nil fs k hk]; rfl
variable {x : List ByteArray} {M : Option File}
theorem to_hit (H : M = (fs.drop k).find? (mayB a out x)) (hk : k < fs.length) (h : mayB a out x fs[k] = true) : M = some fs[k] := by
  rw [H, drop_cons fs k hk, List.find?_cons_of_pos h]
theorem to_next (H : M = (fs.drop k).find? (mayB a out x)) (hk : k < fs.length) (h : mayB a out x fs[k] = false) : M = (fs.drop (k + 1)).find? (mayB a out x) := by
  rw [H, drop_cons fs k hk, List.find?_cons_of_neg (by rw [h]; simp)]
theorem to_end (H : M = (fs.drop k).find? (mayB a out x)) (hk : ¬ k < fs.length) : M = none := by rw [H, drop_nil fs k hk]; rfl
theorem chB_yes {o0 : List Change} (H : R = out ++ chB a o0 (fs.drop k)) (hk : k < fs.length) (h : newB a o0 fs[k] = true) : R = (out ++ [⟨1, fs[k].path, ⟨#[]⟩, fs[k].text, []⟩]) ++ chB a o0 (fs.drop (k + 1)) := by
  rw [H, drop_cons fs k hk, chB, List.filter_cons_of_pos h, List.map_cons, List.append_assoc]; rfl
theorem chB_no {o0 : List Change} (H : R = out ++ chB a o0 (fs.drop k)) (hk : k < fs.length) (h : newB a o0 fs[k] = false) : R = out ++ chB a o0 (fs.drop (k + 1)) := by
  rw [H, drop_cons fs k hk, chB, List.filter_cons_of_neg (by rw [h]; simp)]; rfl
theorem chB_end {o0 : List Change} (H : R = out ++ chB a o0 (fs.drop k)) (hk : ¬ k < fs.length) : R = out := by rw [H, drop_nil fs k hk]; simp [chB]
end
theorem chOne_len (a b : List File) (out : List Change) (f : File) : (chOne a b out f).length ≤ out.length + 1 := by
  unfold chOne
  split
  · split <;> simp
  · split <;> simp
theorem chA_len (a b : List File) : ∀ (fs : List File) (out : List Change), (chA a b fs out).length ≤ out.length + fs.length
  | [], out => Nat.le_refl _
  | f :: fs, out => by
    have h1 := chA_len a b fs (chOne a b out f)
    have h2 := chOne_len a b out f
    show (chA a b fs (chOne a b out f)).length ≤ _
    simp; omega
theorem chB_len (a : List File) (out : List Change) (fs : List File) : (chB a out fs).length ≤ fs.length := by
  unfold chB; rw [List.length_map]; exact List.length_filter_le _ _
theorem changes_len {a b : List File} : (changesOf a b).length ≤ 16 := by
  unfold changesOf
  split
  · rename_i h
    have h1 := chA_len a b a []
    have h2 := chB_len a (chA a b a []) b
    have h3 := ((tree_iff a).1 h.1).1
    have h4 := ((tree_iff b).1 h.2).1
    unfold chT
    rw [List.length_append]
    simp at h1
    omega
  · simp
/-- a tree's paths are not empty -/
theorem path_full {t : List File} (h : treeB t = true) {f : File} (hf : f ∈ t) : ¬ f.path = ⟨#[]⟩ := fun e => by
  have := (((tree_iff t).1 h).2.1 f hf).1
  rw [e] at this
  exact absurd this (by decide)
/-- no files changed: nothing is told -/
theorem chA_none {a b : List File} : ∀ {fs : List File} {out : List Change}, (∀ f, f ∈ fs → getT b f.path = some f.text) → chA a b fs out = out
  | [], _, _ => rfl
  | f :: fs, out, h => by
    show chA a b fs (chOne a b out f) = out
    have : chOne a b out f = out := by
      rw [chOne, h f (List.mem_cons_self ..)]; simp only [if_true]
    rw [this]
    exact chA_none fun g hg => h g (List.mem_cons_of_mem _ hg)
theorem changes_same {a : List File} (h : treeB a = true) : changesOf a a = [] := by
  have hd := dist_tree h
  rw [changesOf, if_pos ⟨h, h⟩, chT, chA_none fun f hf => getT_of hd hf]
  unfold chB
  rw [List.filter_eq_nil_iff.2 fun g hg => by rw [newB, getT_of hd hg]; simp]
  rfl
end Go.Vc
