/-
  How many marks results of laws on repositories hold. No program is in sight here.
-/
import Derived.Test.YthhmaclhggmneaaDoorVG
import Derived.Test.YthhmaclhggmneaaDoorPlain3
import Derived.Test.YthhmaclhggmneaaDoorPlain4
import Derived.Test.YthhmaclhggmneaaDoorHeldSS
import Derived.Test.YthhmaclhggmneaaDoorPlKeepT
import Derived.Test.YthhmaclhggmneaaDoorPlOnly
set_option linter.unusedVariables false
namespace Go.Vc
theorem sendPs_len {list has : List Int} : ∀ (ps acc : List Int) {out : List Int}, sendPs list has acc ps = some out → out.length = acc.length + ps.length
  | [], acc, out, h => by rw [sendPs] at h; rw [← Option.some.inj h]; simp
  | p :: ps, acc, out, h => by
    rw [sendPs] at h
    split at h
    · have := sendPs_len ps _ h
      simp at this ⊢; omega
    · cases h
theorem sendG_all {cs : List Commit} {list has : List Int} {Q : Commit → Prop} : ∀ (is : List Int) (out : List Commit) {res : List Commit}, sendG cs list has out is = some res → (∀ c, c ∈ out → Q c) →
    (∀ i, i ∈ is → ∀ ps, sendPs list has [] (cs.getD i.toNat noCommit).parents = some ps → Q ⟨ps, (cs.getD i.toNat noCommit).who, (cs.getD i.toNat noCommit).tree⟩) → (∀ c, c ∈ res → Q c) ∧ res.length = out.length + is.length
  | [], out, res, h, ho, _ => by rw [sendG] at h; rw [← Option.some.inj h]; exact ⟨ho, by simp⟩
  | i :: is, out, res, h, ho, hq => by
    rw [sendG] at h
    split at h
    · rename_i ps hps
      have := sendG_all is _ h (fun c hc => by
        rcases List.mem_append.1 hc with hc | hc
        · exact ho c hc
        · rw [List.mem_singleton] at hc; rw [hc]; exact hq i (List.mem_cons_self ..) ps hps) fun j hj => hq j (List.mem_cons_of_mem _ hj)
      refine ⟨this.1, ?_⟩
      rw [this.2]; simp; omega
    · cases h
theorem repo_tree_at {r : Repo} (h : repoB r = true) {i : Int} (h0 : 0 ≤ i) (hi : i < r.commits.length) : treeB (r.commits.getD i.toNat noCommit).tree = true ∧ (r.commits.getD i.toNat noCommit).parents.length ≤ 2 := by
  have hl : i.toNat < r.commits.length := by omega
  rw [getD_com hl]
  exact ⟨repo_tree h hl, repo_few h _ hl⟩
end Go.Vc
namespace Go.Proofs.YthhmaclhggmneaaDoor
open Go.RowKit Go.Vc
theorem tree_cnt {t : List File} (h : treeB t = true) : cnt_F t ≤ 88 := by
  have h1 := bsum_small cnt1_file 11 t fun f hf => by
    obtain ⟨k, hk, rfl⟩ := List.getElem_of_mem hf
    have := textB_len (tree_file h hk).2
    show 1 + t[k].text.length ≤ 11
    omega
  have := tree_len h
  show bsum cnt1_file t ≤ 88
  omega
theorem com_cnt {c : Commit} (h : treeB c.tree = true) (h2 : c.parents.length ≤ 2) : cnt1_commit c ≤ 91 := by
  have := tree_cnt h
  have e : cnt1_commit c = c.parents.length + 1 + cnt_F c.tree := rfl
  omega
theorem keepTexts_cnt (r : Repo) : cnt_SS (keepTexts r) ≤ 1000000 := by
  unfold keepTexts
  split
  · rename_i h
    unfold keepTB at h
    rw [Bool.and_eq_true, decide_eq_true_eq] at h
    have h1 := bsum_small cnt_S 10 (allTexts r) fun t ht => by
      have := addC_mem (P := fun t => t.length ≤ 10) r.commits [] (fun _ h => by cases h) (fun c hc f hf => by
        obtain ⟨k, hk, rfl⟩ := List.getElem_of_mem hc
        have ht := repo_tree h.1 hk
        obtain ⟨j, hj, rfl⟩ := List.getElem_of_mem hf
        exact textB_len (tree_file ht hj).2) t ht
      exact this
    show bsum cnt_S (allTexts r) ≤ 1000000
    omega
  · exact Nat.zero_le _
theorem send_all {r : Repo} {has : List Int} {at_ : Int} : (∀ c, c ∈ sendL r has at_ → treeB c.tree = true ∧ c.parents.length ≤ 2) ∧ (sendL r has at_).length ≤ 16 := by
  unfold sendL sendO
  split
  · rename_i h
    have hr := (susp_parts h).1
    cases hg : sendG r.commits (leftT r.commits at_ has) has [] (leftT r.commits at_ has) with
    | none => simp
    | some res =>
      have := sendG_all (Q := fun c => treeB c.tree = true ∧ c.parents.length ≤ 2) _ _ hg (fun c hc => by cases hc) fun i hi ps hps => by
        have hm := allOf_mem (List.mem_filter.1 hi).1
        have h1 := repo_tree_at hr hm.1 hm.2
        have h2 := sendPs_len _ _ hps
        refine ⟨h1.1, ?_⟩
        show ps.length ≤ 2
        rw [h2, List.length_nil, Nat.zero_add]
        exact h1.2
      refine ⟨this.1, ?_⟩
      have h3 := left_len r.commits at_ has
      have h4 := repo_le hr
      have h5 := this.2
      simp at h5 ⊢
      omega
  · simp
theorem sendL_cnt (r : Repo) (has : List Int) (at_ : Int) : cnt_C (sendL r has at_) ≤ 1000000 := by
  have h := send_all (r := r) (has := has) (at_ := at_)
  have h1 := bsum_small cnt1_commit 91 (sendL r has at_) fun c hc => com_cnt (h.1 c hc).1 (h.1 c hc).2
  have h2 := h.2
  show bsum cnt1_commit _ ≤ 1000000
  omega
theorem keepOnly_cnt (r : Repo) : cnt_C (keepOnly r).commits ≤ 500000 ∧ cnt_H (keepOnly r).heads ≤ 500000 := by
  unfold keepOnly
  split
  · rename_i h
    have h1 := bsum_small cnt1_commit 91 (onlyCs r) fun c hc => by
      obtain ⟨i, hi, rfl⟩ := List.mem_map.1 hc
      have hm := liveT_mem hi
      have h1 := repo_tree_at h hm.1 hm.2
      exact com_cnt (c := onlyC _ _) h1.1 (by show (List.map _ _).length ≤ 2; rw [List.length_map]; exact h1.2)
    have h2 : (onlyCs r).length ≤ 16 := by
      unfold onlyCs
      rw [List.length_map]
      exact Nat.le_trans (liveT_len r) (repo_le h)
    have h3 := bsum_small cnt1_branch 2 (onlyHs r) fun x _ => Nat.le_refl _
    have h4 : (onlyHs r).length ≤ 5 := by
      unfold onlyHs
      rw [List.length_map]
      have h1 := (repo_parts h).2.2
      unfold headsB at h1
      rw [Bool.and_eq_true, decide_eq_true_eq] at h1
      exact h1.1
    exact ⟨by show bsum cnt1_commit (onlyCs r) ≤ _; omega, by show bsum cnt1_branch (onlyHs r) ≤ _; omega⟩
  · exact ⟨Nat.zero_le _, Nat.zero_le _⟩
end Go.Proofs.YthhmaclhggmneaaDoor
