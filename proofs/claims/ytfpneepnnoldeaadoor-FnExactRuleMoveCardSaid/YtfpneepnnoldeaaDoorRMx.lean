/-
  Walks: a file moved with all that refer to it, as the exact law asks.
-/
import Derived.Test.YtfpneepnnoldeaaDoorVLS
import Derived.Test.YtfpneepnnoldeaaDoorWRMv
import Derived.Test.YtfpneepnnoldeaaDoorWRMvS
set_option linter.unusedVariables false
namespace Go.Proofs.YtfpneepnnoldeaaDoor
open Go.RowKit Go.Vc
open Go.Vc.Rep (rd)
open Go.Vc.Own (own)
theorem files_1m {xs : List File} (h : bulk_F xs ≤ 1048576) : ∀ f, f ∈ xs → f.path.size ≤ 1048576 := by
  intro x hx
  obtain ⟨i, hi, rfl⟩ := List.getElem_of_mem hx
  have h1 := bsum_at bulk1_file xs i hi
  have h2 : bulk_F xs = xs.length + bsum bulk1_file xs := rfl
  have h3 : bulk1_file xs[i] = xs[i].path.size + bulk_S xs[i].text := rfl
  omega
theorem cnt_ten : ∀ {xs : List File}, (∀ f, f ∈ xs → f.text.length ≤ 10) → cnt_F xs ≤ 11 * xs.length
  | [], _ => by simp [cnt_F, bsum]
  | f :: r, h => by
    have h1 := cnt_ten fun g hg => h g (List.mem_cons_of_mem _ hg)
    have h2 := h f (List.mem_cons_self ..)
    have e : cnt_F (f :: r) = cnt1_file f + cnt_F r := by simp [cnt_F, bsum]
    have e2 : cnt1_file f = 1 + f.text.length := rfl
    rw [e, e2, List.length_cons]
    omega
theorem cnt_tree {xs : List File} (h : treeB xs = true) : cnt_F xs ≤ 88 := by
  obtain ⟨h1, h2⟩ := tree_files h
  have := cnt_ten h2
  omega
theorem rm_cnt (t : List File) (path dst : ByteArray) : cnt_F (ruleMove t path dst) ≤ 1000000 := by
  unfold ruleMove
  split
  · rename_i h
    split
    · rename_i h2
      have h3 : treeB (treeM path dst (movedT t path dst)) = true := by
        unfold ruleMoveB at h2
        simp only [Bool.and_eq_true] at h2
        exact h2.2.2.2
      have := cnt_tree h3
      omega
    · have := cnt_tree h
      omega
  · simp [cnt_F, bsum]
theorem implRuleMoveX {S : Nat → Prop} (v : Value) (t : List File) (path dst : ByteArray) (w : World) (hv : rd S w [v] t) (h1 : path.size ≤ maxLen) (h2 : dst.size ≤ maxLen) (hzp : path.size ≤ 1048576) (hzd : dst.size ≤ 1048576) (hZ : ∀ f, f ∈ t → f.path.size ≤ 1048576) (hM : ML w) :
    Calls Tryd.prog 42 #[v, .string path, .string dst] w fun e w' => ∃ v', e = .returned (.tuple #[v', .bool (ruleMoveB t path dst)]) ∧ Fresh w.heap.size w'.heap.size w' [v'] (ruleMove t path dst) ∧ Below w.heap.size w w' :=
  implRuleMove v t path dst w hv hzp hzd hZ hM rfl rfl
theorem specRuleMoveX {S : Nat → Prop} (v : Value) (t : List File) (path dst : ByteArray) (w : World) (hv : rd S w [v] t) (h1 : path.size ≤ maxLen) (h2 : dst.size ≤ maxLen) (hzp : path.size ≤ 1048576) (hzd : dst.size ≤ 1048576) (hZ : ∀ f, f ∈ t → f.path.size ≤ 1048576) :
    Calls Tryd.prog 40 #[v, .string path, .string dst] w fun e w' => ∃ v', e = .returned (.tuple #[v', .bool (ruleMoveB t path dst)]) ∧ Fresh w.heap.size w'.heap.size w' [v'] (ruleMove t path dst) ∧ Below w.heap.size w w' :=
  specRuleMove v t path dst w hv hzp hzd hZ rfl rfl
end Go.Proofs.YtfpneepnnoldeaaDoor
