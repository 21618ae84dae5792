/-
  Plain functions: which commits come from which. No program is in sight here. / Plain functions: when a commit is ok. No program is in sight here.
-/
import Derived.Test.YthddcfbjgcbioaaGreatDoorVH
set_option linter.unusedVariables false
namespace Go.Vc
/-- marks set at numbers -/
def onAll (ms : List Bool) (ps : List Int) : List Bool := ps.foldl (fun m p => m.set p.toNat true) ms
theorem onAll_cons (ms : List Bool) (p : Int) (ps : List Int) : onAll ms (p :: ps) = onAll (ms.set p.toNat true) ps := rfl
theorem onAll_len : ∀ (ps : List Int) (ms : List Bool), (onAll ms ps).length = ms.length
  | [], _ => rfl
  | p :: ps, ms => by rw [onAll_cons, onAll_len ps]; simp
theorem onAll_next {ms M : List Bool} {ps : List Int} {k : Nat} (H : M = onAll ms (ps.drop k)) (h : k < ps.length) : M = onAll (ms.set ps[k].toNat true) (ps.drop (k + 1)) := by rw [H, drop_cons ps k h, onAll_cons]
theorem onAll_end {ms M : List Bool} {ps : List Int} {k : Nat} (H : M = onAll ms (ps.drop k)) (h : ¬ k < ps.length) : M = ms := by rw [H, drop_nil ps k h]; rfl
def ancStep (cs : List Commit) (i : Nat) (ms : List Bool) : List Bool := if ms.getD i false = true then onAll ms (cs.getD i noCommit).parents else ms
/-- commits k-1, .., 0 looked at -/
def ancD (cs : List Commit) : Nat → List Bool → List Bool
  | 0, ms => ms
  | k + 1, ms => ancD cs k (ancStep cs k ms)
def anc (cs : List Commit) (at_ : Int) : List Bool := ancD cs (at_.toNat + 1) ((List.replicate cs.length false).set at_.toNat true)
theorem ancStep_len (cs : List Commit) (i : Nat) (ms : List Bool) : (ancStep cs i ms).length = ms.length := by
  unfold ancStep
  split
  · exact onAll_len _ _
  · rfl
theorem ancD_len (cs : List Commit) : ∀ (k : Nat) (ms : List Bool), (ancD cs k ms).length = ms.length
  | 0, _ => rfl
  | k + 1, ms => by rw [ancD, ancD_len cs k, ancStep_len]
theorem anc_len (cs : List Commit) (at_ : Int) : (anc cs at_).length = cs.length := by unfold anc; rw [ancD_len]; simp
theorem getD_bool {ms : List Bool} {i : Nat} (h : i < ms.length) : ms.getD i false = ms[i] := by simp [List.getD, h]
theorem anc_skip {M : List Bool} {cs : List Commit} {k : Nat} {ms : List Bool} (H : M = ancD cs (k + 1) ms) (hk : k < ms.length) (h : ms[k] = false) : M = ancD cs k ms := by
  rw [H, ancD, ancStep, getD_bool hk, h]; rfl
theorem anc_take {M : List Bool} {cs : List Commit} {k : Nat} {ms : List Bool} (H : M = ancD cs (k + 1) ms) (hk : k < ms.length) (hc : k < cs.length) (h : ms[k] = true) : M = ancD cs k (onAll ms cs[k].parents) := by
  rw [H, ancD, ancStep, getD_bool hk, h, getD_com hc]; rfl
/-- the places that are marked -/
def idxs : List Bool → Nat → List Int
  | [], _ => []
  | b :: r, k => if b = true then (k : Int) :: idxs r (k + 1) else idxs r (k + 1)
theorem idxs_true {M ol : List Int} {ms : List Bool} {k : Nat} (H : M = ol ++ idxs (ms.drop k) k) (h : k < ms.length) (hb : ms[k] = true) : M = (ol ++ [(k : Int)]) ++ idxs (ms.drop (k + 1)) (k + 1) := by
  rw [H, drop_cons ms k h, idxs, if_pos hb, List.append_assoc]; rfl
theorem idxs_false {M ol : List Int} {ms : List Bool} {k : Nat} (H : M = ol ++ idxs (ms.drop k) k) (h : k < ms.length) (hb : ms[k] = false) : M = ol ++ idxs (ms.drop (k + 1)) (k + 1) := by
  rw [H, drop_cons ms k h, idxs, if_neg (by rw [hb]; simp)]
theorem idxs_end {M ol : List Int} {ms : List Bool} {k : Nat} (H : M = ol ++ idxs (ms.drop k) k) (h : ¬ k < ms.length) : M = ol := by
  rw [H, drop_nil ms k h, idxs, List.append_nil]
theorem idxs_mem : ∀ (ms : List Bool) (k : Nat) (x : Int), x ∈ idxs ms k ↔ ∃ i, ∃ h : i < ms.length, x = ((k + i : Nat) : Int) ∧ ms[i] = true
  | [], k, x => by simp [idxs]
  | b :: r, k, x => by
    rw [idxs]
    have ih := idxs_mem r (k + 1) x
    constructor
    · intro hx
      split at hx
      · rcases List.mem_cons.1 hx with rfl | hx
        · exact ⟨0, by simp, by simp, by simpa⟩
        · obtain ⟨i, h, e, hb⟩ := ih.1 hx
          exact ⟨i + 1, by simpa using h, by rw [e]; congr 1; omega, by simpa using hb⟩
      · obtain ⟨i, h, e, hb⟩ := ih.1 hx
        exact ⟨i + 1, by simpa using h, by rw [e]; congr 1; omega, by simpa using hb⟩
    · rintro ⟨i, h, e, hb⟩
      cases i with
      | zero => simp at hb; rw [if_pos hb]; simp [e]
      | succ i =>
        have : x ∈ idxs r (k + 1) := ih.2 ⟨i, by simpa using h, by rw [e]; congr 1; omega, by simpa using hb⟩
        split
        · exact List.mem_cons_of_mem _ this
        · exact this
theorem idxs_len : ∀ (ms : List Bool) (k : Nat), (idxs ms k).length ≤ ms.length
  | [], _ => Nat.le_refl _
  | b :: r, k => by
    rw [idxs]
    have := idxs_len r (k + 1)
    split <;> simp <;> omega
def allOf (cs : List Commit) (at_ : Int) : List Int := idxs (anc cs at_) 0
theorem allOf_mem {cs : List Commit} {at_ x : Int} (h : x ∈ allOf cs at_) : 0 ≤ x ∧ x < cs.length := by
  obtain ⟨i, hi, e, _⟩ := (idxs_mem _ _ _).1 h
  rw [anc_len] at hi
  subst e
  omega
/-- marks taken away at numbers -/
def offAll (ms : List Bool) (ps : List Int) : List Bool := ps.foldl (fun m p => m.set p.toNat false) ms
theorem offAll_cons (ms : List Bool) (p : Int) (ps : List Int) : offAll ms (p :: ps) = offAll (ms.set p.toNat false) ps := rfl
theorem offAll_len : ∀ (ps : List Int) (ms : List Bool), (offAll ms ps).length = ms.length
  | [], _ => rfl
  | p :: ps, ms => by rw [offAll_cons, offAll_len ps]; simp
theorem offAll_next {ms M : List Bool} {ps : List Int} {k : Nat} (H : M = offAll ms (ps.drop k)) (h : k < ps.length) : M = offAll (ms.set ps[k].toNat false) (ps.drop (k + 1)) := by rw [H, drop_cons ps k h, offAll_cons]
theorem offAll_end {ms M : List Bool} {ps : List Int} {k : Nat} (H : M = offAll ms (ps.drop k)) (h : ¬ k < ps.length) : M = ms := by rw [H, drop_nil ps k h]; rfl
/-- marks less those of others -/
def lessAll (cs : List Commit) (ms : List Bool) (os : List Int) : List Bool := os.foldl (fun m o => offAll m (allOf cs o)) ms
theorem lessAll_cons (cs : List Commit) (ms : List Bool) (o : Int) (os : List Int) : lessAll cs ms (o :: os) = lessAll cs (offAll ms (allOf cs o)) os := rfl
theorem lessAll_len (cs : List Commit) : ∀ (os : List Int) (ms : List Bool), (lessAll cs ms os).length = ms.length
  | [], _ => rfl
  | o :: os, ms => by rw [lessAll_cons, lessAll_len cs os, offAll_len]
theorem lessAll_next {cs : List Commit} {ms M : List Bool} {os : List Int} {k : Nat} (H : M = lessAll cs ms (os.drop k)) (h : k < os.length) : M = lessAll cs (offAll ms (allOf cs os[k])) (os.drop (k + 1)) := by rw [H, drop_cons os k h, lessAll_cons]
theorem lessAll_end {cs : List Commit} {ms M : List Bool} {os : List Int} {k : Nat} (H : M = lessAll cs ms (os.drop k)) (h : ¬ k < os.length) : M = ms := by rw [H, drop_nil os k h]; rfl
/-- what one comes from, and others do not -/
def sinceT (cs : List Commit) (at_ : Int) (os : List Int) : List Int := idxs (lessAll cs (anc cs at_) os) 0
def hasB (xs : List Int) (n : Int) : Bool := xs.any fun x => decide (x = n)
theorem has_next {xs : List Int} {n : Int} {k : Nat} (H : hasB xs n = hasB (xs.drop k) n) (h : k < xs.length) (he : ¬ xs[k] = n) : hasB xs n = hasB (xs.drop (k + 1)) n := by
  rw [H, drop_cons xs k h, hasB, List.any_cons, decide_eq_false he, Bool.false_or]; rfl
theorem has_hit {xs : List Int} {n : Int} {k : Nat} (H : hasB xs n = hasB (xs.drop k) n) (h : k < xs.length) (he : xs[k] = n) : hasB xs n = true := by
  rw [H, drop_cons xs k h, hasB, List.any_cons, decide_eq_true he, Bool.true_or]
theorem has_end {xs : List Int} {n : Int} {k : Nat} (H : hasB xs n = hasB (xs.drop k) n) (h : ¬ k < xs.length) : hasB xs n = false := by
  rw [H, drop_nil xs k h]; rfl
/-- it comes from none of these -/
def noneB (cs : List Commit) (os : List Int) (x : Int) : Bool := os.all fun o => !hasB (allOf cs o) x
def leftT (cs : List Commit) (at_ : Int) (os : List Int) : List Int := (allOf cs at_).filter fun x => noneB cs os x
theorem has_iff (xs : List Int) (n : Int) : hasB xs n = true ↔ n ∈ xs := by simp [hasB]
theorem offAll_at : ∀ (ps : List Int) (ms : List Bool) (i : Nat), (∀ p, p ∈ ps → 0 ≤ p) → (offAll ms ps)[i]? = if (i : Int) ∈ ps then (ms[i]?).map (fun _ => false) else ms[i]?
  | [], ms, i, _ => by simp [offAll]
  | p :: ps, ms, i, h => by
    rw [offAll_cons, offAll_at ps _ i fun q hq => h q (List.mem_cons_of_mem _ hq)]
    have hp := h p (List.mem_cons_self ..)
    by_cases e : (i : Int) = p
    · have hi : p.toNat = i := by omega
      have hm : (i : Int) ∈ p :: ps := by rw [e]; exact List.mem_cons_self ..
      rw [if_pos hm, hi]
      by_cases hl : i < ms.length
      · have h1 : (ms.set i false)[i]? = some false := by simp [hl]
        have h2 : ms[i]? = some ms[i] := List.getElem?_eq_getElem hl
        rw [h1, h2]
        split <;> rfl
      · have h1 : (ms.set i false)[i]? = none := by simp; omega
        have h2 : ms[i]? = none := by simp; omega
        rw [h1, h2]
        split <;> rfl
    · have hi : ¬ p.toNat = i := by omega
      rw [List.getElem?_set_ne hi]
      have hm : (i : Int) ∈ p :: ps ↔ (i : Int) ∈ ps := by simp [e]
      by_cases h3 : (i : Int) ∈ ps
      · rw [if_pos h3, if_pos (hm.2 h3)]
      · rw [if_neg h3, if_neg (fun h => h3 (hm.1 h))]
theorem idxs_off (P : Int → Bool) : ∀ (ms ns : List Bool) (k : Nat), ns.length = ms.length → (∀ i, i < ms.length → ns[i]? = if P ((k + i : Nat) : Int) = true then ms[i]? else some false) → idxs ns k = (idxs ms k).filter P
  | [], [], k, _, _ => rfl
  | [], _ :: _, _, h, _ => by simp at h
  | _ :: _, [], _, h, _ => by simp at h
  | b :: ms, c :: ns, k, hl, h => by
    have h0 := h 0 (by simp)
    have ih := idxs_off P ms ns (k + 1) (by simpa using hl) (fun i hi => by
      have := h (i + 1) (by simpa using hi)
      have e : k + (i + 1) = k + 1 + i := by omega
      rw [e] at this
      simpa using this)
    rw [idxs, idxs, ih]
    simp only [List.getElem?_cons_zero, Nat.add_zero] at h0
    by_cases hp : P (k : Int) = true
    · rw [if_pos hp] at h0
      obtain rfl : c = b := Option.some.inj h0
      cases c
      · simp
      · simp [hp]
    · rw [if_neg hp] at h0
      obtain rfl : c = false := Option.some.inj h0
      cases b
      · simp
      · simp [hp]
theorem lessAll_at (cs : List Commit) : ∀ (os : List Int) (ms : List Bool) (i : Nat), i < ms.length → (lessAll cs ms os)[i]? = if noneB cs os (i : Int) = true then ms[i]? else some false
  | [], ms, i, h => by simp [lessAll, noneB]
  | o :: os, ms, i, h => by
    rw [lessAll_cons, lessAll_at cs os _ i (by rw [offAll_len]; exact h), offAll_at _ _ _ fun p hp => (allOf_mem hp).1]
    have e : noneB cs (o :: os) (i : Int) = (!hasB (allOf cs o) (i : Int) && noneB cs os (i : Int)) := rfl
    rw [e]
    by_cases hm : (i : Int) ∈ allOf cs o
    · rw [if_pos hm, (has_iff _ _).2 hm]
      simp [h]
    · rw [if_neg hm]
      have : hasB (allOf cs o) (i : Int) = false := by
        cases hb : hasB (allOf cs o) (i : Int) with
        | false => rfl
        | true => exact absurd ((has_iff _ _).1 hb) hm
      rw [this]
      simp
theorem since_left (cs : List Commit) (at_ : Int) (os : List Int) : sinceT cs at_ os = leftT cs at_ os := by
  unfold sinceT leftT allOf
  refine idxs_off _ _ _ 0 (lessAll_len _ _ _) fun i hi => ?_
  rw [Nat.zero_add]
  exact lessAll_at cs os _ i hi
end Go.Vc
namespace Go.Vc
section
variable {c : Commit} {i : Nat}
theorem bool_f {b : Bool} (h : ¬ b = true) : b = false := by cases b; rfl; exact absurd rfl h
theorem comB_len (h : ¬ c.parents.length ≤ 2) : comB c i = false := bool_f fun hb => h ((comB_iff _ _).1 hb).1
theorem comB_name (h : nameB c.who = false) : comB c i = false := bool_f fun hb => by have := ((comB_iff _ _).1 hb).2.2.1; rw [h] at this; cases this
theorem comB_tree (h : treeB c.tree = false) : comB c i = false := bool_f fun hb => by have := ((comB_iff _ _).1 hb).2.2.2.1; rw [h] at this; cases this
theorem comB_par {k : Nat} (hk : k < c.parents.length) (h : withinB c.parents[k] 0 ((i : Int) - 1) = false) : comB c i = false := bool_f fun hb => by
  have := ((comB_iff _ _).1 hb).2.2.2.2 _ (List.getElem_mem hk)
  unfold withinB at h
  simp only [Bool.and_eq_false_iff, decide_eq_false_iff_not] at h
  omega
theorem comB_same {k : Nat} (h0 : 0 < k) (hk : k < c.parents.length) (h : c.parents[k] = c.parents[0]'(by omega)) : comB c i = false := bool_f fun hb => by
  obtain ⟨h1, h2, _⟩ := (comB_iff _ _).1 hb
  obtain rfl : k = 1 := by omega
  refine h2 ⟨by omega, ?_⟩
  rw [List.getElem?_eq_getElem (by omega : 0 < c.parents.length), List.getElem?_eq_getElem hk, h]
theorem comB_pair {x0 x1 : Int} (h : c.parents.length = 2) (h0 : c.parents[0]? = some x0) (h1 : c.parents[1]? = some x1) (e : x0 = x1) : comB c i = false := bool_f fun hb => ((comB_iff _ _).1 hb).2.1 ⟨h, by rw [h0, h1, e]⟩
theorem comB_ok (h1 : c.parents.length ≤ 2) (h2 : ∀ (k : Nat) (h0 : 0 < k) (hk : k < c.parents.length), ¬ c.parents[k] = c.parents[0]'(by omega)) (h3 : nameB c.who = true) (h4 : treeB c.tree = true)
    (h5 : ∀ (k : Nat) (hk : k < c.parents.length), withinB c.parents[k] 0 ((i : Int) - 1) = true) : comB c i = true := by
  refine (comB_iff _ _).2 ⟨h1, ?_, h3, h4, ?_⟩
  · rintro ⟨h6, h7⟩
    rw [List.getElem?_eq_getElem (by omega : 0 < c.parents.length), List.getElem?_eq_getElem (by omega : 1 < c.parents.length)] at h7
    exact h2 1 (by omega) (by omega) (Option.some.inj h7).symm
  · intro p hp
    obtain ⟨k, hk, rfl⟩ := List.getElem_of_mem hp
    have := h5 k hk
    unfold withinB at this
    simp only [Bool.and_eq_true, decide_eq_true_eq] at this
    exact this
theorem lone_ne (h : ¬ c.parents.length = 2) (h1 : c.parents.length ≤ 2) : ∀ (k : Nat) (h0 : 0 < k) (hk : k < c.parents.length), ¬ c.parents[k] = c.parents[0]'(by omega) := fun k h0 hk => by omega
theorem two_ne (h : c.parents.length = 2) (hn : ¬ c.parents[0]'(by omega) = c.parents[1]'(by omega)) : ∀ (k : Nat) (h0 : 0 < k) (hk : k < c.parents.length), ¬ c.parents[k] = c.parents[0]'(by omega) := fun k h0 hk e => by
  obtain rfl : k = 1 := by omega
  exact hn e.symm
theorem two_ne' {x0 x1 : Int} (h : c.parents.length = 2) (h0 : c.parents[0]? = some x0) (h1 : c.parents[1]? = some x1) (hn : ¬ x0 = x1) : ∀ (k : Nat) (h0 : 0 < k) (hk : k < c.parents.length), ¬ c.parents[k] = c.parents[0]'(by omega) := by
  rw [List.getElem?_eq_getElem (by omega)] at h0 h1
  exact two_ne h fun e => hn (by rw [← Option.some.inj h0, ← Option.some.inj h1]; exact e)
theorem at_is {xs : List Int} {k : Nat} {x : Int} (hx : xs[k]? = some x) (hk : k < xs.length) : xs[k] = x := by
  rw [List.getElem?_eq_getElem hk] at hx
  exact Option.some.inj hx
end
theorem headAll_bad {r : Repo} (h : headAll r.commits.length r.heads = false) : repoB r = false := by
  unfold repoB headsB
  rw [h]; simp
theorem repo_fin {r : Repo} (h1 : comsB r.commits = true) (h2 : headAll r.commits.length r.heads = true) : repoB r = (decide (r.commits.length ≤ 16) && decide (r.heads.length ≤ 5)) := by
  unfold repoB headsB
  rw [h1, h2]; simp
/-- each parent lies ahead -/
def parOk (cs : List Commit) : Prop := ∀ (i : Nat) (hi : i < cs.length) (k : Nat) (hk : k < cs[i].parents.length), 0 ≤ cs[i].parents[k] ∧ cs[i].parents[k] < (i : Int)
def parFew (cs : List Commit) : Prop := ∀ (i : Nat) (hi : i < cs.length), cs[i].parents.length ≤ 2
theorem repo_par {r : Repo} (h : repoB r = true) : parOk r.commits := fun i hi k hk => by have := repo_parent h hi hk; omega
theorem repo_few {r : Repo} (h : repoB r = true) : parFew r.commits := fun i hi => ((comB_iff _ _).1 (coms_at (repo_parts h).2.1 i hi)).1
theorem par_nat {cs : List Commit} (h : parOk cs) {i : Nat} (hi : i < cs.length) {k : Nat} (hk : k < cs[i].parents.length) : ∃ p : Nat, cs[i].parents[k] = (p : Int) ∧ p < i := by
  have := h i hi k hk
  exact ⟨cs[i].parents[k].toNat, by omega, by omega⟩
def anyB (n : Nat) (xs : List Int) : Bool := xs.all fun x => withinB x 0 ((n : Int) - 1)
theorem any_at {n : Nat} {xs : List Int} (h : anyB n xs = true) {k : Nat} (hk : k < xs.length) : 0 ≤ xs[k] ∧ xs[k] < (n : Int) := by
  have := List.all_eq_true.1 h _ (List.getElem_mem hk)
  simp only [withinB, Bool.and_eq_true, decide_eq_true_eq] at this
  omega
def suspB (r : Repo) (xs : List Int) (at_ : Int) : Bool := repoB r && anyB r.commits.length xs && decide (xs.length ≤ 16) && withinB at_ 0 ((r.commits.length : Int) - 1)
theorem susp_parts {r : Repo} {xs : List Int} {at_ : Int} (h : suspB r xs at_ = true) : repoB r = true ∧ anyB r.commits.length xs = true ∧ xs.length ≤ 16 ∧ 0 ≤ at_ ∧ at_ < (r.commits.length : Int) := by
  unfold suspB at h
  simp only [Bool.and_eq_true, decide_eq_true_eq, withinB] at h
  obtain ⟨⟨⟨h1, h2⟩, h3⟩, h4, h5⟩ := h
  exact ⟨h1, h2, h3, h4, by omega⟩
end Go.Vc
