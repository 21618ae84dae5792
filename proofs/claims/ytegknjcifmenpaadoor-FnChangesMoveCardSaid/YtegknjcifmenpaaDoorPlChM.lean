/-
  Plain functions: what was moved as it is is one change. No program is in sight here.
-/
import Derived.Test.YtegknjcifmenpaaDoorPlCh
import Derived.Test.YtegknjcifmenpaaDoorPlTM
import Derived.Test.YtegknjcifmenpaaDoorPlRN
set_option linter.unusedVariables false
namespace Go.Vc
theorem one_move {a b : List File} {p q : ByteArray} {x : List ByteArray} (hta : treeB a = true) (htb : treeB b = true) (h1 : getT a p = some x) (h2 : getT b p = none) (h3 : getT a q = none) (h4 : getT b q = some x) (h5 : ∀ r, ¬ r = p → ¬ r = q → getT b r = getT a r) :
    changesOf a b = [⟨4, p, q, [], []⟩] := by
  have da := dist_tree hta
  have db := dist_tree htb
  obtain ⟨f0, hf0, e1, e2⟩ := getT_mem h1
  obtain ⟨g0, hg0, e3, e4⟩ := getT_mem h4
  obtain ⟨a1, a2, ha⟩ := List.append_of_mem hf0
  have hq : ∀ g, g ∈ b → getT a g.path = none → g.path = q := fun g hg hn => Classical.byContradiction fun hne => by
    have hb := getT_of db hg
    have hp : ¬ g.path = p := fun e => by rw [e, h2] at hb; cases hb
    rw [h5 g.path hp hne, hn] at hb
    cases hb
  have hsame : ∀ f, f ∈ a → ¬ f.path = p → getT b f.path = some f.text := fun f hf hp => by
    have h := getT_of da hf
    have hq' : ¬ f.path = q := fun e => by rw [e, h3] at h; cases h
    rw [h5 f.path hp hq', h]
  have hdis : (∀ f, f ∈ a1 → ¬ f.path = p) ∧ ∀ f, f ∈ a2 → ¬ f.path = p := by
    rw [ha] at da
    obtain ⟨_, d2, d3⟩ := List.pairwise_append.1 da
    obtain ⟨d4, _⟩ := List.pairwise_cons.1 d2
    exact ⟨fun f hf e => d3 f hf f0 (List.mem_cons_self ..) (e.trans e1.symm), fun f hf e => d4 f hf (e1.trans e.symm)⟩
  have hto : ∃ g, chTo a b [] f0.text = some g ∧ g.path = q := by
    cases hc : chTo a b [] f0.text with
    | none =>
      unfold chTo at hc
      rw [List.find?_eq_none] at hc
      have := hc g0 hg0
      unfold mayB goesTo at this
      rw [e3, h3, e4, e2] at this
      simp at this
    | some g =>
      refine ⟨g, rfl, ?_⟩
      have hm : mayB a [] f0.text g = true := List.find?_some hc
      have hgb : g ∈ b := List.mem_of_find?_eq_some hc
      unfold mayB at hm
      simp only [Bool.and_eq_true] at hm
      refine hq g hgb ?_
      cases h : getT a g.path with
      | none => rfl
      | some _ => rw [h] at hm; cases hm.1.1
  obtain ⟨g, hg, hgq⟩ := hto
  have hA : chA a b a [] = [⟨4, p, q, [], []⟩] := by
    have e5 : chA a b a [] = chA a b (a1 ++ f0 :: a2) [] := by rw [← ha]
    rw [e5]
    unfold chA
    rw [List.foldl_append, List.foldl_cons]
    have e6 : a1.foldl (chOne a b) [] = [] := chA_none fun f hf => hsame f (by rw [ha]; exact List.mem_append.2 (.inl hf)) (hdis.1 f hf)
    rw [e6]
    have e7 : chOne a b [] f0 = [⟨4, p, q, [], []⟩] := by
      unfold chOne
      rw [e1, h2]
      simp only [hg, hgq, List.nil_append]
    rw [e7]
    exact chA_none fun f hf => hsame f (by rw [ha]; exact List.mem_append.2 (.inr (List.mem_cons_of_mem _ hf))) (hdis.2 f hf)
  unfold changesOf chT
  rw [if_pos ⟨hta, htb⟩, hA]
  have hB : chB a [⟨4, p, q, [], []⟩] b = [] := by
    unfold chB
    rw [List.filter_eq_nil_iff.2 fun g hg => ?_]
    · rfl
    · unfold newB
      cases h : getT a g.path with
      | some _ => simp
      | none => simp [goesTo, hq g hg h]
  rw [hB]
  rfl
theorem tree_apart {t : List File} (h : treeB t = true) {f g : File} (hf : f ∈ t) (hg : g ∈ t) : inB f.path g.path = false := by
  obtain ⟨i, hi, rfl⟩ := List.getElem_of_mem hf
  obtain ⟨k, hk, rfl⟩ := List.getElem_of_mem hg
  have h1 : treesB t = true := by unfold treeB at h; rw [Bool.and_eq_true] at h; exact h.2
  rw [← overs_trees] at h1
  have h2 := (of_decide_eq_true h1) i hi
  rw [Bool.and_eq_true] at h2
  have h3 := (of_decide_eq_true h2.2) k hk
  rwa [getD_file hi, getD_file hk] at h3
theorem mvP_self (q d : ByteArray) : mvP q d q = d := by
  apply ba_ext
  have := mvP_list (q := q) (d := d) (p := q) (r := []) (by simp)
  simpa using this
/-- the law -/
theorem moved_change {t : List File} {path dst : ByteArray} {x : List ByteArray} (ht : treeB t = true) (hb : moveB t path dst = true) (hx : getT t path = some x) (hne : ¬ path = dst) : changesOf t (treeMove t path dst) = [⟨4, path, dst, [], []⟩] := by
  have hm : treeMove t path dst = movedT t path dst := by rw [move_ok ht, if_pos hb]
  rw [hm]
  unfold moveB at hb
  simp only [Bool.and_eq_true, decide_eq_true_eq] at hb
  obtain ⟨_, b1, b2, b3, b4⟩ := hb
  have hparts := drop_parts path t
  have hA := asc_tree ht
  have dt := dist_tree ht
  have dx := dist_tree b3
  obtain ⟨f0, hf0, e1, e2⟩ := getT_mem hx
  have hmem := movG_free (q := path) (d := dst) (r := t) (drop_asc hA path) (by show (movedT t path dst).length = _; rw [b4, hparts])
  have hone : ∀ f, f ∈ t → isAtB path f.path = true → f = f0 := fun f hf hat => by
    unfold isAtB at hat
    rw [Bool.or_eq_true, decide_eq_true_eq] at hat
    rcases hat with hat | hat
    · have h1 := getT_of dt hf
      have h2 := getT_of dt hf0
      rw [e1] at h2
      rw [hat, h2] at h1
      have h3 := Option.some.inj h1
      cases f; cases f0
      simp only at hat e1 h3
      rw [hat, e1, h3]
    · have := tree_apart ht hf0 hf
      rw [e1, hat] at this
      cases this
  have hat0 : isAtB path f0.path = true := by rw [e1]; unfold isAtB; rw [decide_eq_true rfl]; rfl
  have hmv : mvF path dst f0 = ⟨dst, x⟩ := by unfold mvF; rw [e1, mvP_self, e2]
  have hmem2 : ∀ g, g ∈ movedT t path dst ↔ g ∈ dropT t path ∨ g = ⟨dst, x⟩ := fun g => by
    show g ∈ movG path dst (dropT t path) t ↔ _
    rw [hmem]
    constructor
    · rintro (h | ⟨f, hf, hat, rfl⟩)
      · exact .inl h
      · exact .inr (by rw [hone f hf hat, hmv])
    · rintro (h | rfl)
      · exact .inl h
      · exact .inr ⟨f0, hf0, hat0, hmv.symm⟩
  have hnew : (⟨dst, x⟩ : File) ∉ dropT t path := fun hin => by
    have e : movedT t path dst = dropT t path := asc_ext (asc_tree b3) (drop_asc hA path) fun g => by
      rw [hmem2]
      constructor
      · rintro (h | rfl)
        · exact h
        · exact hin
      · exact .inl
    rw [e] at b4
    omega
  have hgx : ∀ g, g ∈ movedT t path dst → getT (movedT t path dst) g.path = some g.text := fun g hg => getT_of dx hg
  have hxm : (⟨dst, x⟩ : File) ∈ movedT t path dst := (hmem2 _).2 (.inr rfl)
  have hdn : getT t dst = none := getT_none fun g hg e => by
    by_cases hat : isAtB path g.path = true
    · have := hone g hg hat
      rw [this, e1] at e
      exact hne e
    · have hgd : g ∈ dropT t path := List.mem_filter.2 ⟨hg, by simpa using hat⟩
      have h1 := hgx g ((hmem2 g).2 (.inl hgd))
      have h2 := hgx _ hxm
      rw [e] at h1
      have h3 : some x = some g.text := h2.symm.trans h1
      have h4 := Option.some.inj h3
      refine hnew ?_
      have : g = ⟨dst, x⟩ := by cases g; simp only at e h4; rw [e, h4]
      rw [← this]; exact hgd
  refine one_move ht b3 hx ?_ hdn (hgx _ hxm) fun r hr1 hr2 => ?_
  · exact getT_none fun g hg e => by
      rcases (hmem2 g).1 hg with h | rfl
      · have := (List.mem_filter.1 h).2
        rw [e] at this
        unfold isAtB at this
        simp at this
      · exact hne e.symm
  · cases hgr : getT t r with
    | none =>
      exact getT_none fun g hg e => by
        rcases (hmem2 g).1 hg with h | rfl
        · have h2 := getT_of dt (List.mem_filter.1 h).1
          rw [e, hgr] at h2
          cases h2
        · exact hr2 e.symm
    | some y =>
      obtain ⟨f, hf, e3, e4⟩ := getT_mem hgr
      have hat : isAtB path f.path = false := by
        cases hat : isAtB path f.path with
        | false => rfl
        | true =>
          have := hone f hf hat
          rw [this, e1] at e3
          exact absurd e3.symm hr1
      have hfd : f ∈ dropT t path := List.mem_filter.2 ⟨hf, by rw [hat]; rfl⟩
      rw [← e3, hgx f ((hmem2 f).2 (.inl hfd)), e4]
end Go.Vc
